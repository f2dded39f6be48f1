/- Parts. -/
import Derived.Test.YtedbhlgjcnnknaaGreatDoorQ25
set_option linter.unusedVariables false
set_option linter.unusedSimpArgs false
set_option linter.unusedSectionVars false
set_option maxRecDepth 100000
set_option maxHeartbeats 12800000
namespace Go.Proofs.YtedbhlgjcnnknaaGreatDoor
section
open Go.RowKit Qm
theorem rtarget_any {ps:List Pk} {l:List Mem} {S:Nat->Prop} {A B:Option Addr} {n c q d:Nat} {w0:World} (C:Cx ps l S A n c B q d w0) (hfs:∀ p∈ps,∀ f∈p.fs,f≠[]) (a:At) (h1:a.nm.length<=maxLen) (h2:a.fl.length<=maxLen) (tb nb:Nat) {m:Mem} (hm:m∈l) (cx:List Value) (hx:RMem w0 S cx m) (w:World) (hb:Below w0.heap.size w0 w)
  (ht:w.cell? ⟨tb,0,none⟩=some (.slice A n c)) (hn:∀ i,i<6->w.cell? ⟨nb,i,none⟩=(atRow a)[i]?) :
  Calls Tryz.prog 98 #[.agg cx.toArray,.pointer (some ⟨tb,0,none⟩),.pointer (some ⟨nb,0,none⟩)] w fun e w'=>e=.returned (.bool (isA ps m a))/\Below w.heap.size w w':=by
 obtain ⟨E,k,r,rfl,hkr,hr,hon⟩:=hx
 have hb1:Below w.heap.size w (w.alloc (.cells #[.int .i64 m.pl,.slice E k r] 85)):=(qbr _ w).alloc (qr _) _
 have hb2:=hb.trans (hb1.mono hb.size)
 have HI:=qh (ris_any ps m a S A E n c k r _ (C.t.under hb2 C.lt) (Row.below hon hb2 C.lt) hkr (C.ok m hm) (fun k hk=>ql (C.lt k hk) hb2.size) C.n8 hfs h1 h2)
 have HB:=qh hb1
 have g1:=hn 0 (by omega);have g2:=hn 1 (by omega);have g3:=hn 2 (by omega);have g4:=hn 3 (by omega);have g5:=hn 4 (by omega);have g6:=hn 5 (by omega)
 unfold atRow at g1 g2 g3 g4 g5 g6
 simp only [qgz,qgs] at g1 g2 g3 g4 g5 g6
 have tlt:=World.block_lt_of_cell? _ _ ht
 have nlt:=World.block_lt_of_cell? _ _ g1
 dsimp only at tlt nlt
 clear hb1 hb2 hb hon hn C hm hfs
 go_enter Tryz.func98,Tryz.ntmps98
 go_wp2_with (first | (go_at_call 99;refine HI.out.mono ?_;rintro e w3 ⟨rfl,hb3⟩;refine Hid.out ?_))
 refine qh ?_
 have HB3:=qh (HB.out.trans (hb3.mono HB.out.size))
 clear hb3
 go_wp2
 go_ret
 exact ⟨rfl,HB3.out⟩
theorem vsadd (a b:Qm.W) (h:a.length+b.length<=1000000) (wx:World):(Op.stringOp .add ⟨a.toArray⟩ ⟨b.toArray⟩).run Tryz.prog wx=.ok (.string ⟨(a++b).toArray⟩) wx:=by
 rw [run_string_add_sum wx _ _ (by rw [bsz,bsz];omega)]
 exact congrArg (fun z=>Result.ok (Value.string z) wx) (bapp a b)
theorem zeroBoolV (w:World):(zeroValue 4).run Tryz.prog w=.ok (.bool false) w:=by kernel_rfl
theorem oneOk_seen {ps:List Pk} (h:ckTree ps=0) {ms:List Int} {l:List Mem} (hl:∀ m∈l,MemOk ps m) {i:Nat} {m:Mem} (hm:l[i]? = some m) :
  oneOk ps ms l i=(!seenB ps l i (keyS ps m) && (!ms.contains m.pl && holdsN ps l i m (pkOf ps m.pl).nd)):=by
 unfold oneOk holdsAt
 rw [memAt_at hm,<- seen_lone h hl (hl m (List.mem_of_getElem? hm)) i]
 cases ms.contains m.pl <;> cases seenB ps l i (keyS ps m) <;> cases holdsN ps l i m (pkOf ps m.pl).nd <;> rfl
theorem risvalid_any (ps:List Pk) (v:Ws) (l:List Mem) (S:Nat->Prop) (A B:Option Addr) (n c q d:Nat) (A1 A2 A3 A4:Option Addr) (n1 c1 n2 c2 n3 c3 n4 c4:Nat) (w:World) (C:Cx ps l S A n c B q d w) (hck:ckSet ps l=0) (hV:WsAt w S A1 n1 c1 A2 n2 c2 A3 n3 c3 A4 n4 c4 v) :
  Calls Tryz.prog 72 #[.agg #[.slice A n c],.agg #[.slice A1 n1 c1,.slice A2 n2 c2,.slice A3 n3 c3,.slice A4 n4 c4],.slice B q d] w fun e w'=>e=.returned (.bool (validP ps v.ts v.ms l))/\Below w.heap.size w w':=by
 have hct:=(ckSet_zero hck).1
 have Hfs:Hid (∀ p∈ps,∀ f∈p.fs,f≠[]):=qh fun p hp f hf e=>by
  have:=(isName_len (ckFlags_names (pkOk (ckTree_mem hct p hp)).fs f hf)).1
  rw [e] at this;simp at this
 have Hnd:Hid (∀ p∈ps,p.fs.Nodup):=qh fun p hp=>flags_nodup (pkOk (ckTree_mem hct p hp))
 have HTR:=qh hct
 have X0:=qh (Wb.new w A n c [.slice A1 n1 c1,.slice A2 n2 c2,.slice A3 n3 c3,.slice A4 n4 c4])
 have HC:=qh C;have HV:=qh hV;have HCK:=qh hck;clear hV hck hct
 have Hpl:=qh C.t.len
 have Hll:=qh C.s.len
 have Hts:=qh HV.out.ts.len
 have H1:=HV.out.h1;have H3:=HV.out.h3
 have hqd:=C.qd;have hdm:=C.dm;have hn8:=C.n8;have hcm:=C.cm
 unfold maxLen at H1 H3 hdm hcm
 clear C
 have HR:Hid (validP ps v.ts v.ms l=(v.ts.all (fun a=>l.any (fun m=>isA ps m a)) && allOk ps v.ms l l.length)):=qh rfl
 generalize validP ps v.ts v.ms l=R at HR ⊢
 have hmm:=@run_makeMap Tryz.prog
 go_enter Tryz.func72,Tryz.ntmps72
 go_wp2
 go_loopg [17] n1 (fun g iv wr=>∃ j:Nat,Hid (j+g=n1)/\iv=.int .i64 j/\Hid ((v.ts.take j).all (fun a=>l.any (fun m=>isA ps m a))=true)/\Hid (Wb w A n c [.slice A1 n1 c1,.slice A2 n2 c2,.slice A3 n3 c3,.slice A4 n4 c4] wr))
 case atStart=>exact ⟨0,qh (Nat.zero_add _),rfl,qh rfl,X0⟩
 case round =>
  obtain ⟨j,Hj,rfl,Hcl,XR⟩:=hrel
  clear X0
  by_cases hj:j<n1
  ·obtain ⟨b,o,x,a,rfl,hbS,ha,hxa,_,hcell⟩:=(HV.out.ts.keep (w':=wr) (fun p hp=>XR.out.bel.cell (HC.out.lt _ hp)) fun _ _ h=>h).at_ hj (by decide)
   obtain ⟨rfl,ha1,ha2⟩:=hxa
   have g0:=hcell 0 (by omega);have g1:=hcell 1 (by omega);have g2:=hcell 2 (by omega);have g3:=hcell 3 (by omega);have g4:=hcell 4 (by omega);have g5:=hcell 5 (by omega)
   unfold atRow at g0 g1 g2 g3 g4 g5
   simp only [qgz,qgs,Nat.add_zero] at g0 g1 g2 g3 g4 g5
   have X3:=qh (XR.out.alloc (.cells (atRow a).toArray 75))
   have W3:=qh (Whole.new wr wr.heap.size 75 (atRow a) rfl)
   have hcf:=containsF_M (RMem w S) (fun m=>isA ps m a) B q d l 98 #[.pointer (some ⟨w.heap.size,0,none⟩),.pointer (some ⟨wr.heap.size,0,none⟩)] _ S (RSeq.keep HC.out.s (fun p hp=>X3.out.bel.cell (HC.out.lt _ hp)) fun _ _ h=>h) (fun x hx=>ql (HC.out.lt x hx) X3.out.bel.size) (by unfold maxLen;omega)
    ⟨fun args W=>by kernel_rfl,fun m hm cx W hb hr=>rtarget_any HC.out Hfs.out a ha1 ha2 w.heap.size wr.heap.size hm cx hr W (X3.out.bel.trans (hb.mono X3.out.bel.size)) ((X3.out.t.below hb X3.out.t.lt).cell 0) (fun i _=>(W3.out.below hb W3.out.lt).cell i)⟩ (fun x y h=>shape_mem h)
   have Hst:=qh (all_take_succ (f:=fun a=>l.any (fun m=>isA ps m a)) ha)
   have Hfa:=qh (all_take_false (f:=fun a=>l.any (fun m=>isA ps m a)) ha)
   generalize hq2:l.any (fun m=>isA ps m a)=r at hcf Hst Hfa
   have Hcf:=qh hcf
   have Hq2:=qh hq2
   unfold atRow at Hcf X3
   clear hcf hcell ha hq2
   go_wp2_with (first | (go_at_call 84;refine Hcf.out.mono ?_;rintro e w4 ⟨rfl,hb4⟩;refine Hid.out ?_))
   refine qh ?_
   have X4:=qh (X3.out.move hb4)
   clear hb4 g0 g1 g2 g3 g4 g5 X3 W3
   cases r
   ·have HE:Hid (R=false):=qh (by rw [HR.out,Hfa.out rfl];rfl)
    go_wp2
    go_ret
    exact ⟨ret_bool HE.out.symm,X4.out.bel⟩
   have HE:Hid ((v.ts.take (j+1)).all (fun a=>l.any (fun m=>isA ps m a))=true):=qh (by rw [Hst.out,Hcl.out];rfl)
   go_wp2
   go_roundg (gk - 1)
   case measure=>have:=Hj.out;omega
   case rel=>exact ⟨j+1,qh (by have:=Hj.out;omega),by go_num,HE,X4⟩
  obtain rfl:n1=j:=by have:=Hj.out;omega
  have HRA:Hid (R=allOk ps v.ms l l.length):=qh (by
   have h:=Hcl.out
   rw [List.take_of_length_le (by have:=Hts.out;omega)] at h
   rw [HR.out,h];rfl)
  clear HR Hcl
  have hbm:Below wr.heap.size wr (wr.alloc (.map #[] 0)):=(qbr _ wr).alloc (qr _) _
  have XM:=qh (XR.out.move hbm)
  have HSM:=qh (StrSet.made Tryz.prog wr)
  have hrs:=XR.out.v.lt
  clear hbm XR
  go_wp2
  obtain ⟨bm,hbm⟩:∃ x,x=wr.heap.size:=⟨_,rfl⟩
  rw [<- hbm] at HSM hrs ⊢
  clear hbm
  generalize wr.alloc _=wq at XM HSM ⊢
  go_loopg [29] q (fun g iv wr=>∃ (i m:Nat),Hid (i+g=q)/\iv=.int .i64 i/\Hid (allOk ps v.ms l i=true)/\m<=i/\Hid (StrSet Tryz.prog wr bm (seenB ps l i) m)/\Hid (Wb w A n c [.slice A1 n1 c1,.slice A2 n2 c2,.slice A3 n3 c3,.slice A4 n4 c4] wr))
  case atStart=>exact ⟨0,0,qh (Nat.zero_add _),rfl,qh rfl,qr _,qh (HSM.out.congr rfl fun x _=>rfl),XM⟩
  case round =>
   obtain ⟨i,mk,Hi,rfl,Hcl,hmk,HSQ,XQ⟩:=hrel
   clear XM HSM
   by_cases hi:i<q
   ·
    obtain ⟨b,o,m,E,u,v0,rfl,hbS,hm,huv,hv,_,g0,g1⟩:=(HC.out.s.under XQ.out.bel HC.out.lt).at_ hi
    have hmok:=HC.out.ok m (List.mem_of_getElem? hm)
    have hpko:=pkOf_ok HTR.out hmok
    obtain ⟨hp0,hp1,_⟩:=hmok
    have Hown:=qh (own_flags HCK.out (k:=i) (by have:=Hll.out;omega))
    have hil:i<l.length:=by have:=Hll.out;omega
    have Hho:=qh (fun cx wx (hb:Below w.heap.size w wx) hr=>rholds_any ps l S A n c (some ⟨b,o,none⟩) q d Hfs.out Hnd.out (pkOf ps (memAt l i).pl).nd i cx wx (HC.out.under hb) hi hr Hown.out)
    have Hone:=qh (oneOk_seen HTR.out (ms:=v.ms) HC.out.ok hm)
    have Hnx:Hid (allOk ps v.ms l (i+1)=oneOk ps v.ms l i):=qh (by rw [allOk,Hcl.out];rfl)
    have Hno:=qh (fun h=>allOk_false (ps:=ps) (ms:=v.ms) hil h)
    have Hse:=qh (seenB_step (ps:=ps) hm)
    generalize oneOk ps v.ms l i=on1 at Hone Hnx Hno
    rw [memAt_at hm] at Hho
    have hpl:=Hpl.out
    have Hms:=qh (fun wx (hb:Below w.heap.size w wx)=>containsI_any A3 n3 c3 v.ms m.pl wx S (Row.below HV.out.ms hb HC.out.lt) (by unfold maxLen;omega))
    have hkl:=keyW_len hpko
    have Hkey:Hid (keyS ps m=(pkOf ps m.pl).nm++(58 :: Lib.itoa (pkOf ps m.pl).slot)):=qh rfl
    have hsl:=hpko.slot
    have hnl:=(isName_len hpko.nm).2
    have hkl':(keyS ps m).length<=100:=hkl
    generalize hkS:keyS ps m=kS at Hone Hse Hkey hkl'
    clear hkl hpko hkS
    obtain ⟨pl,on⟩:=m
    dsimp only at g0 hp0 hp1 Hho Hone Hms Hkey hsl hnl
    obtain ⟨j,rfl⟩:∃ j:Nat,pl=j:=⟨pl.toNat,by omega⟩
    have hjn:j<n:=by omega
    obtain ⟨b2,o2,p,F,fn,fc,kd,pa,f,no,E2,r,d',rfl,hbS2,hp,hP,hcell⟩:=(HC.out.t.under XQ.out.bel HC.out.lt).at_ hjn
    rw [pkOf_at hp] at Hho Hone Hkey hsl hnl
    have hho:=fun wx (hb:Below w.heap.size w wx)=>Hho.out (ndRow kd pa f no E2 r d') wx hb ((hP.nd.keep (w':=w) (fun p hp=>(XQ.out.bel.cell (HC.out.lt _ hp)).symm)).under hb HC.out.lt)
    obtain ⟨h0,h1,h2,h3,h4,h5,h6,h7,h8,h9,h10,h11,h12,h13⟩:=cb14 hcell (by decide)
    unfold pkRow ndRow at h0 h1 h2 h3 h4 h5 h6 h7 h8 h9 h10 h11 h12 h13
    simp only [qgz,qgs,Nat.add_zero] at h0 h1 h2 h3 h4 h5 h6 h7 h8 h9 h10 h11 h12 h13
    have hbl:b<wr.heap.size:=ql (HC.out.lt _ hbS) XQ.out.bel.size
    have hbl2:b2<wr.heap.size:=ql (HC.out.lt _ hbS2) XQ.out.bel.size
    have hbl3:b2<wr.heap.size+1:=by omega
    rw [pkOf_at hp] at *
    generalize holdsN ps l i ⟨(j:Int),on⟩ p.nd=rv at Hone hho
    generalize v.ms.contains (j:Int)=mc at Hms Hone
    have hbx:Below wr.heap.size wr ((wr.alloc (.cells #[.int .i64 (j:Int),.slice E u v0] 85)).alloc (.cells (pkRow p F fn fc (ndRow kd pa f no E2 r d')).toArray 101)):=((qbr _ wr).alloc (qr _) _).alloc (by simp) _
    have X3:=qh (XQ.out.move hbx)
    have M3:=qh ((Whole.new wr wr.heap.size 85 [.int .i64 (j:Int),.slice E u v0] rfl).alloc (.cells (pkRow p F fn fc (ndRow kd pa f no E2 r d')).toArray 101))
    have P3:=qh (Whole.new (wr.alloc (.cells #[.int .i64 (j:Int),.slice E u v0] 85)) (wr.heap.size+1) 101 (pkRow p F fn fc (ndRow kd pa f no E2 r d')) (by simp))
    have HS3:=qh ((HSQ.out.kept (World.grownBy_alloc wr (.cells #[.int .i64 (j:Int),.slice E u v0] 85) none) (by simp)).kept (World.grownBy_alloc _ (.cells (pkRow p F fn fc (ndRow kd pa f no E2 r d')).toArray 101) none) (by simp))
    have t0:=XQ.out.t.cell 0
    simp only [qgz,qgs] at t0
    have vlt:=XQ.out.v.lt
    have tlt:=XQ.out.t.lt
    have vlt1:w.heap.size+1<wr.heap.size+1:=by omega
    have tlt1:w.heap.size<wr.heap.size+1:=by omega
    have hjn1:(j:Int)<n:=by omega
    have hjn0:(0:Int)<=(j:Int):=by omega
    have hi0:(0:Int)<=(i:Int):=by omega
    have Hh:=qh hho
    clear hho hcell hP hp hm hp0 hp1 hbx
    obtain ⟨nm,ver,slot,fs,nd⟩:=p
    unfold pkRow ndRow at P3 X3 M3 HS3
    unfold ndRow at Hh
    dsimp only at P3 X3 M3 HS3 Hkey hsl hnl h0 h1 h2 h3
    obtain ⟨sl,rfl⟩:∃ s:Nat,slot=s:=⟨slot.toNat,by omega⟩
    have hsl9:sl<100:=by omega
    have hit:Lib.itoa (sl:Int)=Lib.decDigits sl:=by unfold Lib.itoa;rw [if_neg (by omega)];rfl
    rw [hit] at Hkey
    have Hit:=qh (fun wx=>Tryz.strconv_Itoa_small sl hsl9 wx)
    have hdl:(Lib.decDigits sl).length<=2:=by rw [<- hit];exact (itoa_len (by omega) (by omega)).2
    generalize Lib.decDigits sl=D at Hit Hkey hdl
    clear hit
    have s1:∀ wx:World,(Op.stringOp .add ⟨nm.toArray⟩ ⟨#[58]⟩).run Tryz.prog wx=.ok (.string ⟨(nm++[58]).toArray⟩) wx:=fun wx=>vsadd nm [58] (by simp;omega) wx
    have s2:∀ wx:World,(Op.stringOp .add ⟨(nm++[58]).toArray⟩ ⟨D.toArray⟩).run Tryz.prog wx=.ok (.string ⟨kS.toArray⟩) wx:=fun wx=>by
     have:=vsadd (nm++[58]) D (by simp;omega) wx
     rw [this,Hkey.out];simp
    generalize nm++[58]=L1 at s1 s2
    go_wp2
    generalize World.alloc (World.alloc wr _) _=w4 at X3 P3 M3 HS3 ⊢
    clear t0 vlt tlt vlt1 tlt1 h0 h1 h2 h3 h4 h5 h6 h7 h8 h9 h10 h11 h12 h13 hbl hbl2 hbl3 g0 g1
    have p0:=P3.out.cell 0;have p2:=P3.out.cell 2
    simp only [qgz,qgs] at p0 p2
    go_quiet ((go_at_call 100;exact Calls.quiet_of_same (Hit.out _)))
    rename_i nq
    have X5:=qh (X3.out.drewN nq)
    have P5:=qh (P3.out.drewN nq)
    have M5:=qh (M3.out.drewN nq)
    have HS5:=qh (HS3.out.kept (grown_drewN (World.grownBy.refl w4 none) nq) (by simp))
    clear p0 p2 X3 P3 M3 HS3
    generalize w4.drewN nq=w5 at X5 P5 M5 HS5 ⊢
    have hl1:=HS5.out.look Tryz.underlying9 Tryz.underlying4 (zeroBoolV w5) Tryz.underlying150 (x:=kS) (by unfold maxLen;omega)
    have t0:=X5.out.t.cell 0
    have v2:=X5.out.v.cell 2
    have m0:=M5.out.cell 0
    have p4:=P5.out.cell 4;have p5:=P5.out.cell 5;have p6:=P5.out.cell 6;have p7:=P5.out.cell 7;have p8:=P5.out.cell 8;have p9:=P5.out.cell 9;have p10:=P5.out.cell 10;have p11:=P5.out.cell 11;have p12:=P5.out.cell 12;have p13:=P5.out.cell 13
    simp only [qgz,qgs] at t0 v2 m0 p4 p5 p6 p7 p8 p9 p10 p11 p12 p13
    have plt:=P5.out.lt
    have mlt:=M5.out.lt
    generalize hsb:seenB ps l i kS=sb at hl1 Hone
    have Hsb:=qh hsb
    clear hsb
    cases sb
    ·cases mc
     ·go_wp2_with (first | (go_at_call 43;refine (Hms.out _ X5.out.bel).mono ?_;rintro e w6 ⟨rfl,hw4⟩;have hw5:=hw4.symm;subst hw5;refine Hid.out ?_))
      refine qh ?_
      go_wp2_with (first | (go_at_call 101;refine (Hh.out _ X5.out.bel).mono ?_;rintro e w7 ⟨rfl,hb7⟩;refine Hid.out ?_))
      refine qh ?_
      have X7:=qh (X5.out.move hb7)
      have HS7:=qh (HS5.out.kept (grown_of_below hb7 none) (by simp))
      clear hb7 t0 v2 m0 p4 p5 p6 p7 p8 p9 p10 p11 p12 p13 plt mlt hl1
      cases rv
      ·have HE:Hid (R=false):=qh (by rw [HRA.out,Hno.out (by rw [Hone.out];rfl)])
       go_wp2
       go_ret
       exact ⟨ret_bool HE.out.symm,X7.out.bel⟩
      obtain ⟨w8,hput,hset8,hg8,hs8⟩:=HS7.out.put Tryz.underlying9 Tryz.underlying4 Tryz.underlying150 (x:=kS) (by unfold maxLen;omega) (by unfold maxLen;omega)
      have HOK:Hid (allOk ps v.ms l (i+1)=true):=qh (by rw [Hnx.out,Hone.out];rfl)
      have HN:Hid (StrSet Tryz.prog w8 bm (seenB ps l (i+1)) (mk+1)):=qh (hset8.congr (by rw [Hsb.out];rfl) fun x _=>(Hse.out x).symm)
      have X8:=qh (Wb.mk (X7.out.t.grown hg8 (by intro e;injection e with e;omega)) (X7.out.v.grown hg8 (by intro e;injection e with e;omega)) (X7.out.bel.grown hg8 X7.out.bel.size (fun k e=>by injection e with e;omega)):Wb w _ n c [.slice A1 n1 c1,.slice A2 n2 c2,.slice A3 n3 c3,.slice A4 n4 c4] w8)
      clear hset8 hg8 hs8
      go_wp2
      go_roundg (gk - 1)
      case measure=>have:=Hi.out;omega
      case rel=>exact ⟨i+1,mk+1,qh (by have:=Hi.out;omega),by go_num,HOK,by omega,HN,X8⟩
     have HE:Hid (R=false):=qh (by rw [HRA.out,Hno.out (by rw [Hone.out];rfl)])
     go_wp2_with (first | (go_at_call 43;refine (Hms.out _ X5.out.bel).mono ?_;rintro e w6 ⟨rfl,hw4⟩;have hw5:=hw4.symm;subst hw5;refine Hid.out ?_))
     refine qh ?_
     go_wp2
     go_ret
     exact ⟨ret_bool HE.out.symm,X5.out.bel⟩
    have HE:Hid (R=false):=qh (by rw [HRA.out,Hno.out (by rw [Hone.out];rfl)])
    go_wp2
    go_ret
    exact ⟨ret_bool HE.out.symm,X5.out.bel⟩
   obtain rfl:q=i:=by have:=Hi.out;omega
   go_wp2
   go_ret
   exact ⟨ret_bool (by rw [HRA.out,Hll.out,Hcl.out]),XQ.out.bel⟩
end
section
open Go.RowKit Qm
def pairsV (xs:List (Int×Int)):List Value:=xs.flatMap fun p=>[.int .i64 p.1,.int .i64 p.2]
structure Ro (B0:Nat) (wb:Nat) (a0 a1 a2 ov:Value) (xs:List (Int×Int)) (w wr:World):Prop where
 b:Below B0 w wr
 wi:Whole wr wb 30 [a0,a1,a2,ov]
 o:wr.ownsRow (wb+1) 86 2 ov xs.length (pairsV xs)
 hb:B0<=wb
section
variable {B0 wb : Nat} {a0 a1 a2 ov : Value} {xs : List (Int × Int)} {w wr wy : World}
end
end
section
open Go.RowKit Qm
structure Tn (w:World) (A:Option Addr) (n c:Nat) (wx:World):Prop where
 t:Whole wx w.heap.size 24 [.slice A n c]
 bel:Below w.heap.size w wx
section
variable {w : World} {A : Option Addr} {n c : Nat} {wx wy : World}
end
end
section
open Go.RowKit Qm
def litV (ps:List Pk) (v:Ws) (l:List Mem) (x:Nat):Int:=if chVal ps v l (x - 1)=true then (x:Int) else -(x:Int)
structure Asg (ps:List Pk) (v:Ws) (l:List Mem) (md:List Int) (Q:Nat->Prop):Prop where
 len:md.length=manyC ps+1
 at_:∀ x,Q x->md.getD x 0=litV ps v l x
section
variable {ps : List Pk} {v : Ws} {l : List Mem} {md : List Int} {Q Q' : Nat → Prop}
end
end
section
open Go.RowKit Qm
end
section
open Go.RowKit Qm
structure Lb (w:World) (A:Option Addr) (n c:Nat) (wv:List Value) (wx:World):Prop where
 t:Whole wx w.heap.size 24 [.slice A n c]
 wi:Whole wx (w.heap.size+1) 30 wv
 bel:Below w.heap.size w wx
section
variable {w : World} {A : Option Addr} {n c : Nat} {wv : List Value} {wx wy : World}
end
structure Lst (w3:World) (N:Nat) (md:List Int) (wr:World):Prop where
 bm:Whole wr (w3.heap.size+1) 27 [.slice (some ⟨w3.heap.size,0,none⟩) N N]
 g:Whole wr w3.heap.size 3 (md.map (.int .i64))
 bel:Below w3.heap.size w3 wr
section
variable {w3 : World} {N : Nat} {md : List Int} {wr wy : World}
end
end
section
open Go.RowKit Qm
end
section
open Go.RowKit Qm
def atE:At:=⟨[97],0,0,0,[],false⟩
structure En (w:World) (T:Nat) (A:Option Addr) (c:Nat) (wx:World):Prop where
 t:RTree wx (fun i=>i<T) A 4 smallT
 tb:Whole wx T 24 [.slice A 4 c]
 a:Whole wx (T+1) 75 (atRow atE)
 m:Whole wx (T+1+1) 85 [.int .i64 3,.slice none 0 0]
 v:Whole wx (T+1+1+1) 30 [.slice (some ⟨T+1,0,none⟩) 1 1,.slice (some ⟨T+1+1,0,none⟩) 1 1,.slice none 0 0,.slice none 0 0]
 bel:Below w.heap.size w wx
section
variable {w : World} {T : Nat} {A : Option Addr} {c : Nat} {wx wy : World}
end
end
section
open Go.RowKit
end
end Go.Proofs.YtedbhlgjcnnknaaGreatDoor

namespace Qm
def Meas (N:Nat) (tk:List Int) (g:Nat):Prop:=∃ u,assume tk (zeroVals N)=some u/\zeros u<g
theorem Meas.zero {N:Nat} {tk:List Int} (h:Meas N tk 0):False:=by obtain ⟨u,_,h⟩:=h;omega
end Qm

namespace Go.Proofs.YtedbhlgjcnnknaaGreatDoor
section
open Go.RowKit Qm
end
section
open Go.RowKit Qm
theorem make_boolsM (n:Nat) (hn:n<=100000) (w:World):(Instr.makeSlice 40 (.int .i64 (n:Int)) (.int .i64 (n:Int))).run Tryz.prog w=.ok (.slice (some ⟨w.heap.size,0,none⟩) n n) (w.alloc (.cells ((List.range n).map fun _=>Value.bool false).toArray 4)):=by
 rw [run_make_row' 40 4 (.bool false) 1 Tryz.underlying40 bool_infoE rfl .i64 .i64 n (by omega) (by omega) w,made_listE]
structure Fx (w:World) (A:Option Addr) (n c:Nat) (wv:List Value) (fb:Nat) (fv:List Value) (wx:World):Prop where
 b:Wb w A n c wv wx
 f:Whole wx fb 33 fv
end
section
open Go.RowKit Qm
def RResP (ps:List Pk) (v:Ws) (w:World) (e:Ending) (w':World):Prop:=
 ∃ A c,e=.returned (.tuple #[.slice A (resM ps v 40000).length c,.bool (decide (resE ps v 40000=0))])/\RSet w' (fun k=>w.heap.size<=k/\k<w'.heap.size) A (resM ps v 40000).length (resM ps v 40000)/\(resM ps v 40000).length<=c/\c<=maxLen/\Below w.heap.size w w'
theorem bits_one (a:Nat) (ha:a<4611686018427387904):bits .and .i64 (a:Int) 1=((a % 2:Nat):Int):=by
 have h1:(BitVec.ofInt 64 (a:Int)).toNat=a:=by
  rw [BitVec.ofInt_natCast,BitVec.toNat_ofNat];exact Nat.mod_eq_of_lt (by omega)
 have h2:(BitVec.ofInt 64 (1:Int)).toNat=1:=by decide
 show IntKind.i64.wrap ((BitVec.ofInt 64 (a:Int) &&& BitVec.ofInt 64 (1:Int)).toNat:Int)=_
 rw [BitVec.toNat_and,h1,h2,Nat.and_one_is_mod,IntKind.wrap_i64]
 omega
theorem code_bit (cd j:Nat) (h:cd<100000):(bits .and .i64 ((cd:Int) / 2 ^ j) 1 == 1)=cd.testBit j:=by
 have e:(cd:Int) / 2 ^ j=((cd / 2 ^ j:Nat):Int):=by push_cast;rfl
 have hl:cd / 2 ^ j<=cd:=Nat.div_le_self _ _
 rw [e,bits_one _ (by omega),Nat.testBit_eq_decide_div_mod_eq,Bool.eq_iff_iff]
 simp only [beq_iff_eq,decide_eq_true_eq]
 omega
theorem rresolved_any (ps:List Pk) (v:Ws) (S:Nat->Prop) (A:Option Addr) (n c:Nat) (A1 A2 A3 A4:Option Addr) (n1 c1 n2 c2 n3 c3 n4 c4:Nat) (w:World) (hT:RTree w S A n ps) (hnc:n<=c) (hc:c<=maxLen) (hV:WsAt w S A1 n1 c1 A2 n2 c2 A3 n3 c3 A4 n4 c4 v) (hS:∀ k,S k->k<w.heap.size) (hok:ckWish ps v=0) :
  Calls Tryz.prog 30 #[.agg #[.slice A n c],.agg #[.slice A1 n1 c1,.slice A2 n2 c2,.slice A3 n3 c3,.slice A4 n4 c4]] w (RResP ps v w):=by
 have X0:=qh (Wb.new w A n c [.slice A1 n1 c1,.slice A2 n2 c2,.slice A3 n3 c3,.slice A4 n4 c4])
 have HT:=qh hT;have HV:=qh hV;have HS:=qh hS;have HZ:=qh hok;clear hT hV hS hok
 have WP:=qh (wish_parts HZ.out)
 have Hlt:=qh (fun (wx:World) (hb:Below w.heap.size w wx) k hk=>ql (HS.out k hk) hb.size)
 have HWS:=qh (fun wx (hb:Below w.heap.size w wx)=>(HV.out.under hb HS.out).more (S':=fun k=>k<wx.heap.size) fun k hk=>Hlt.out _ hb k hk)
 have HTR:=qh (fun wx (hb:Below w.heap.size w wx)=>(HT.out.under hb HS.out).more (S':=fun k=>k<wx.heap.size) fun k hk=>Hlt.out _ hb k hk)
 have HC0:=qh (rchoices_any ps v (fun k=>k<_) A n c A1 n1 c1 A2 n2 c2 A3 n3 c3 A4 n4 c4 _ (HTR.out _ X0.out.bel) hnc hc (HWS.out _ X0.out.bel) (fun k hk=>hk) HZ.out)
 have henter:∀ (args:Array Value) (W:World),(callFunc 67 args).run Tryz.prog W=.ok (.enter 67 args) W:=fun args W=>by kernel_rfl
 have t0:=X0.out.t.cell 0;obtain ⟨u0,u1,u2,u3⟩:=ch4 X0.out.v.cell
 simp only [qgz,qgs] at t0 u0 u1 u2 u3
 go_enter Tryz.func30,Tryz.ntmps30
 go_upto_region 2 with (first | (go_at_call 22;refine HC0.out.mono ?_;rintro e w2 ⟨zz,ob,gg,mb,lv,em,hzz,rfl,hoc,hb2⟩;refine Hid.out ?_))
 refine qh ?_
 have X2:=qh (X0.out.move hb2)
 have HOC:=qh hoc
 have HRS:=qh (fun (bs:List Bool) (M:Option Addr) (mn mc:Nat) wx (hb:Below w2.heap.size w2 wx) (hm:RBools wx (fun k=>k<wx.heap.size) M mn bs) (h1:mn<=mc) (h2:mc<=maxLen) (h3:manyC ps<=mn)=>rset_any ps v bs (fun k=>k<wx.heap.size) A M n c mn mc A1 A2 A3 A4 n1 c1 n2 c2 n3 c3 n4 c4 zz ob gg mb lv em wx HZ.out (HOC.out.move hb) (HTR.out _ (X2.out.bel.trans (hb.mono X2.out.bel.size))) hc (HWS.out _ (X2.out.bel.trans (hb.mono X2.out.bel.size))) hm h1 h2 h3 (fun k hk=>hk))
 have HM14:Hid (manyC ps<=14):=qh (tree_parts WP.out.tree).2.1
 obtain ⟨M,hMd⟩:∃ x,manyC ps=x:=⟨_,rfl⟩
 have HMD:=qh hMd
 rw [hMd] at HRS HM14 ⊢
 have hmk:=fun wx=>make_boolsM M (by have:=HM14.out;omega) wx
 clear hoc hb2 hzz t0 u0 u1 u2 u3 HC0 X0 hMd
 go_upto_region 3 with fail
 have hfl:((List.range M).map fun _=>Value.bool false)=(List.replicate M false).map Value.bool:=by rw [List.map_replicate,List.map_const',List.length_range]
 have MB6:=qh (Whole.new w2 w2.heap.size 4 ((List.range M).map fun _=>Value.bool false) rfl)
 rw [hfl] at MB6
 have HB6:Hid (Below w2.heap.size w2 (w2.alloc (.cells ((List.range M).map fun _=>Value.bool false).toArray 4))):=qh ((qbr _ w2).alloc (qr _) _)
 rw [hfl] at HB6
 rw [hfl]
 generalize w2.alloc (.cells ((List.replicate M false).map Value.bool).toArray 4)=w3 at *
 clear hfl hmk
 have hm14:(M:Int)<=14:=by have:=HM14.out;omega
 go_upto_region 4 with fail
 obtain ⟨N,hN⟩:∃ x:Nat,2 ^ M=x:=⟨_,rfl⟩
 have hNb:N<=16384:=by rw [<- hN];exact qlt (Nat.pow_le_pow_right (by omega) HM14.out) (by decide)
 have hpw:wrap64 ((2:Int) ^ M)=(N:Int):=by
  have e:(2:Int) ^ M=(N:Int):=by rw [<- hN];push_cast;rfl
  rw [e]
  exact IntWalk.wrap64_in _ (by omega)
 rw [hpw]
 have HN:=qh hN
 clear hN hpw
 go_loopg [22] N (fun g iv wr=>∃ (cd:Nat) (bs:List Bool),Hid (cd+g=N)/\iv=.int .i64 cd/\Hid (∀ a,a<cd->okCode ps v a=false)/\Hid (bs.length=M)/\Hid (Whole wr w2.heap.size 4 (bs.map Value.bool))/\Hid (Below w2.heap.size w2 wr))
 case atStart=>exact ⟨0,_,qh (Nat.zero_add _),rfl,qh (fun a ha=>absurd ha (by omega)),qh (List.length_replicate ..),MB6,HB6⟩
 case round =>
  obtain ⟨g3,rfl⟩:∃ x:Nat,x=gk:=⟨_,rfl⟩
  obtain ⟨cd,bs,Hcd,rfl,HNO,HBN,MB,HBR⟩:=hrel
  clear MB6 HB6
  by_cases hcd:cd<N
  ·have hcd1:(cd:Int)<N:=by omega
   have hcd0:(0:Int)<=(cd:Int):=by omega
   obtain ⟨wo,rfl⟩:∃ x:World,x=wr:=⟨_,rfl⟩
   go_upto_region 7 with fail
   go_loopg [26] M (fun g iv wr=>∃ (k:Nat) (bs:List Bool),Hid (k+g=M)/\iv=.int .i64 k/\Hid (bs.length=M)/\Hid (∀ j,j<k->bs.getD j false=(codeVec M cd).getD j false)/\Hid (Whole wr w2.heap.size 4 (bs.map Value.bool))/\Hid (Below w2.heap.size w2 wr))
   case atStart=>exact ⟨0,bs,qh (Nat.zero_add _),rfl,HBN,qh (fun j hj=>absurd hj (by omega)),MB,HBR⟩
   case round =>
    obtain ⟨k,bs,Hk,rfl,HBN,HEQ,MB,HBR⟩:=hrel
    by_cases hk:k<M
    ·have y:=MB.out.cell k;have yf:=MB.out.free k;have yl:=MB.out.lt
     rw [qgm,qge (by rw [HBN.out];exact hk)] at y
     simp only [Option.map_some] at y
     have hk1:(k:Int)<M:=by omega
     have hk0:(0:Int)<=(k:Int):=by omega
     have hx:(bits .and .i64 ((cd:Int) / 2 ^ (M - 1 - k)) 1 == 1)=(codeVec M cd).getD k false:=by rw [code_bit _ _ (by omega),codeVec_at hk]
     have HEQ2:Hid (∀ j,j<k+1->(bs.set k ((codeVec M cd).getD k false)).getD j false=(codeVec M cd).getD j false):=qh fun j hj=>by
      by_cases e:j=k
      ·subst e;rw [qgd,List.getElem?_set_self (by rw [HBN.out];exact hk)];rfl
      rw [qgd,List.getElem?_set_ne (Ne.symm e),<- qgd];exact HEQ.out j (by omega)
     have hmb:=MB.out.set_ k (.bool ((codeVec M cd).getD k false))
     rw [<- List.map_set] at hmb
     have HMB2:=qh hmb
     have HBR2:=qh (HBR.out.setCell (p:=⟨w2.heap.size,k,none⟩) (qr _) (.bool ((codeVec M cd).getD k false)))
     generalize (codeVec M cd).getD k false=X at hx HEQ2 HMB2 HBR2
     clear hmb
     go_wp2
     go_roundg (gk - 1)
     case measure=>have:=Hk.out;omega
     case rel=>exact ⟨k+1,_,qh (by have:=Hk.out;omega),by go_num,qh (by rw [List.length_set];exact HBN.out),HEQ2,HMB2,HBR2⟩
    have HBC:Hid (bs=codeVec M cd):=qh (List.ext_getElem (by rw [HBN.out,codeVec_len]) fun j h1 h2=>by
     have h:=HEQ.out j (by have:=HBN.out;have:=Hk.out;omega)
     rw [qgd,qgd,qge h1,qge h2] at h
     exact h)
    rw [HBC.out] at MB
    have hk1:¬ (k:Int)<M:=by omega
    clear HBC HEQ HBN
    have hcl:=HRS.out (codeVec M cd) (some ⟨w2.heap.size,0,none⟩) M M wr HBR.out (MB.out.bools MB.out.lt codeVec_len) (qr _) (by unfold maxLen;have:=HM14.out;omega) (qr _)
    unfold RSetP at hcl
    have HCL9:=qh hcl
    have XR:=qh (X2.out.move HBR.out)
    clear hcl
    go_wp2_with (first | (go_at_call 67;refine HCL9.out.mono ?_;rintro e w13 ⟨As,as_,rfl,hrs,has,has2,hb13⟩;refine Hid.out ?_))
    refine qh ?_
    have XS:=qh (XR.out.move hb13)
    have HB13:=qh (HBR.out.trans (hb13.mono HBR.out.size))
    have hck:ckSet ps (setOfM (chW ps v) ps (codeVec M cd))=0:=by unfold ckSet;rw [if_neg (by rw [WP.out.tree];decide)];exact setOfM_ck fun _ _=>trivial
    have hrs2:=hrs.more (S':=fun k=>k<w13.heap.size) fun k hk=>hk.2
    have hval:=risvalid_any ps v (setOfM (chW ps v) ps (codeVec M cd)) (fun k=>k<w13.heap.size) A As n c (setOfM (chW ps v) ps (codeVec M cd)).length as_ A1 A2 A3 A4 n1 c1 n2 c2 n3 c3 n4 c4 w13 (Cx.of hck (HTR.out _ XS.out.bel) hnc hc hrs2 has has2 (fun k hk=>hk)) hck (HWS.out _ XS.out.bel)
    have hoc:validP ps v.ts v.ms (setOfM (chW ps v) ps (codeVec M cd))=okCode ps v cd:=by unfold okCode;rw [HMD.out]
    rw [hoc] at hval
    obtain ⟨vb,hvb⟩:∃ x,okCode ps v cd=x:=⟨_,rfl⟩
    have HVB:=qh hvb
    rw [hvb] at hval
    have HVA:=qh hval
    have HRW:=qh hrs
    have HAC:=qh (And.intro has has2)
    have HSZ:Hid (w.heap.size<=wr.heap.size):=qh XR.out.bel.size
    have HMB3:=qh (MB.out.below hb13 MB.out.lt)
    have t0:=XS.out.t.cell 0;obtain ⟨u0,u1,u2,u3⟩:=ch4 XS.out.v.cell
    simp only [qgz,qgs] at t0 u0 u1 u2 u3
    clear hval hoc hck hrs2 hb13 hrs has has2 HCL9 hvb
    cases vb
    ·have HNO2:Hid (∀ a,a<cd+1->okCode ps v a=false):=qh fun a ha=>by
      by_cases e:a=cd
      ·rw [e];exact HVB.out
      exact HNO.out a (by omega)
     generalize (setOfM (chW ps v) ps (codeVec M cd)).length=LL at HRW HAC HVA ⊢
     go_wp2_with (first | (go_at_call 72;refine HVA.out.mono ?_;rintro e w14 ⟨rfl,hb14⟩;refine Hid.out ?_))
     refine qh ?_
     have HMB4:=qh (HMB3.out.below hb14 HMB3.out.lt)
     have HB14:=qh (HB13.out.trans (hb14.mono HB13.out.size))
     clear hb14
     go_wp2
     go_roundg (g3 - 1)
     case measure=>have:=Hcd.out;omega
     case rel=>exact ⟨cd+1,_,qh (by have:=Hcd.out;omega),by go_num,HNO2,qh codeVec_len,HMB4,HB14⟩
    have hbest:=best_code WP.out.ok (by rw [HMD.out,HN.out];exact hcd) HNO.out HVB.out
    rw [HMD.out] at hbest
    obtain ⟨hr1,hr2⟩:=res_set HZ.out hbest
    have HF:Hid (∀ w14,Below w13.heap.size w13 w14->RResP ps v w (.returned (.tuple #[.slice As (setOfM (chW ps v) ps (codeVec M cd)).length as_,.bool true])) w14):=qh fun w14 hb=>by
     refine ⟨As,as_,by rw [hr1,hr2];rfl, ?_,by rw [hr2];exact HAC.out.1,HAC.out.2,XS.out.bel.trans (hb.mono XS.out.bel.size)⟩
     rw [hr2]
     exact (HRW.out.under hb fun k hk=>hk.2).more fun k hk=>⟨qlt HSZ.out hk.1,ql hk.2 hb.size⟩
    clear hbest hr1 hr2
    generalize (setOfM (chW ps v) ps (codeVec M cd)).length=LL at HF HRW HAC HVA ⊢
    go_wp2_with (first | (go_at_call 72;refine HVA.out.mono ?_;rintro e w14 ⟨rfl,hb14⟩;refine Hid.out ?_))
    refine qh ?_
    have HF2:=qh (HF.out _ hb14)
    clear hb14
    go_wp2
    go_ret2
    exact HF2.out
  obtain rfl:N=cd:=by have:=Hcd.out;omega
  have hnone:¬ May ps v:=none_code WP.out.ok fun a ha=>HNO.out a (by rw [HMD.out,HN.out] at ha;exact ha)
  have hr1:=(res_none HZ.out).2 hnone
  have hr2:resM ps v 40000=[]:=by unfold resM;rw [if_neg (by rw [hr1];decide)]
  have HF:Hid (RResP ps v w (.returned (.tuple #[.slice none 0 0,.bool false])) wr):=qh ⟨none,0,by rw [hr1,hr2];rfl,by rw [hr2];exact RSet.nil_,by rw [hr2];exact qr _,Nat.zero_le _,(X2.out.move HBR.out).bel⟩
  clear hnone hr1 hr2
  go_wp2
  go_ret2
  exact HF.out
end
section
open Go.RowKit Qm
theorem rtry_any (ps:List Pk) (v:Ws) (ms:List Int) (S:Nat->Prop) (A:Option Addr) (n c:Nat) (A1 A2 A3 A4:Option Addr) (n1 c1 n2 c2 n3 c3 n4 c4:Nat) (AM:Option Addr) (nM cM tb wb:Nat) (w:World) (hT:RTree w S A n ps) (hnc:n<=c) (hc:c<=maxLen) (hV:WsAt w S A1 n1 c1 A2 n2 c2 A3 n3 c3 A4 n4 c4 v) (hM:RInts w S AM nM ms) (hnM:nM<=cM) (hcM:cM<=maxLen) (hS:∀ k,S k->k<w.heap.size) (hok:ckWish ps { v with ms:=ms } = 0)
  (tb0:Whole w tb 24 [.slice A n c]) (wb0:Whole w wb 30 [.slice A1 n1 c1,.slice A2 n2 c2,.slice A3 n3 c3,.slice A4 n4 c4]) :
  Calls Tryz.prog 73 #[.slice AM nM cM,.pointer (some ⟨wb,0,none⟩),.pointer (some ⟨tb,0,none⟩)] w fun e w'=>e=.returned (.bool (decide (resE ps { v with ms:=ms } 40000=0)))/\Below w.heap.size w w':=by
 have hal:Below w.heap.size w (w.alloc (.cells #[.slice A1 n1 c1,.slice A2 n2 c2,.slice A3 n3 c3,.slice A4 n4 c4] 30)):=(qbr _ w).alloc (qr _) _
 have X1:=qh (Whole.new w w.heap.size 30 [.slice A1 n1 c1,.slice A2 n2 c2,.slice A3 n3 c3,.slice A4 n4 c4] rfl)
 have TB:=qh tb0;have WB:=qh wb0;have HAL:=qh hal
 have HRS:=qh (fun wx (hb:Below w.heap.size w wx)=>rresolved_any ps { v with ms:=ms } S A n c A1 A2 AM A4 n1 c1 n2 c2 nM cM n4 c4 wx (hT.under hb hS) hnc hc ((hV.under hb hS).mask (RInts.below hM hb hS) hnM hcM) (fun k hk=>ql (hS k hk) hb.size) hok)
 have t0:=TB.out.cell 0;have tl:=TB.out.lt
 obtain ⟨u0,u1,u2,u3⟩:=ch4 WB.out.cell;have ul:=WB.out.lt
 simp only [qgz,qgs] at t0 u0 u1 u2 u3
 clear hT hV hM hok tb0 wb0 hal hS
 go_enter Tryz.func73,Tryz.ntmps73
 go_upto_region 2 with fail
 have TB2:=qh (TB.out.below HAL.out tl)
 clear t0 tl u0 u1 u2 u3 ul
 generalize w.alloc (.cells #[.slice A1 n1 c1,.slice A2 n2 c2,.slice A3 n3 c3,.slice A4 n4 c4] 30)=w2 at *
 have x2:=X1.out.cell 2;have xf:=X1.out.free 2;have xl:=X1.out.lt
 simp only [qgz,qgs] at x2
 go_upto_region 3 with fail
 have X3:=qh (X1.out.set_ 2 (.slice AM nM cM))
 have TB3:=qh (TB2.out.far (p:=⟨w.heap.size,2,none⟩) (by show tb≠w.heap.size;have:=TB.out.lt;omega) (.slice AM nM cM))
 have HB3:=qh (HAL.out.setCell (p:=⟨w.heap.size,2,none⟩) (qr _) (.slice AM nM cM))
 clear x2 xf xl X1 TB2
 generalize w2.setCell ⟨w.heap.size,2,none⟩ (.slice AM nM cM)=w3 at *
 have t0:=TB3.out.cell 0;have tl:=TB3.out.lt
 obtain ⟨u0,u1,u2,u3⟩:=ch4 X3.out.cell;have ul:=X3.out.lt
 simp only [qgz,qgs,List.set_cons_succ,List.set_cons_zero] at t0 u0 u1 u2 u3
 have HR3:=qh (HRS.out _ HB3.out)
 clear HRS
 go_wp2_with (first | (go_at_call 30;refine HR3.out.mono ?_;rintro e w4 ⟨Aa,ca,rfl,-,-,-,hb4⟩;refine Hid.out ?_))
 refine qh ?_
 have HB4:=qh (HB3.out.trans (hb4.mono HB3.out.size))
 obtain ⟨rb,hrb⟩:∃ x,decide (resE ps { v with ms:=ms } 40000=0)=x:=⟨_,rfl⟩
 have HRB:=qh hrb
 rw [hrb]
 clear hrb
 generalize (resM ps { v with ms:=ms } 40000).length=LL
 clear hb4 t0 tl u0 u1 u2 u3 ul HR3
 go_wp2
 go_ret
 exact ⟨by rw [HRB.out];rfl,HB4.out⟩
end
section
open Go.RowKit Qm
def RUnmP (ps:List Pk) (v:Ws) (w:World) (e:Ending) (w':World):Prop:=
 ∃ A n c,e=.returned (.tuple #[.slice A n c,.bool (decide (unmE ps v=0))])/\RInts w' (fun k=>w.heap.size<=k/\k<w'.heap.size) A n (unmL ps v)/\n<=c/\c<=maxLen/\Below w.heap.size w w'
structure Ur (w:World) (A:Option Addr) (n c:Nat) (wv:List Value) (AM:Option Addr) (nM cM:Nat) (acc out:List Int) (cv:Value) (wr:World):Prop where
 b:Wb w A n c wv wr
 ms:RInts wr (fun k=>w.heap.size+1<k/\k<wr.heap.size/\cv.ownBlock≠some k) AM nM acc
 hn:nM<=cM/\cM<=maxLen
 o:wr.ownsRow (w.heap.size+1+1) 3 1 cv out.length (out.map (Value.int .i64))
section
variable {w : World} {A : Option Addr} {n c : Nat} {wv : List Value} {AM : Option Addr} {nM cM : Nat} {acc out : List Int} {cv : Value} {wr wy : World}
theorem Ur.move (h:Ur w A n c wv AM nM cM acc out cv wr) (hb:Below wr.heap.size wr wy):Ur w A n c wv AM nM cM acc out cv wy:=
 ⟨h.b.move hb,(h.ms.below hb fun k hk=>hk.2.1).more fun k hk=>⟨hk.1,ql hk.2.1 hb.size,hk.2.2⟩,h.hn,(Far.of_below (fun _=>False) hb).own h.o fun _ _ h=>h⟩
theorem Ur.push (h:Ur w A n c wv AM nM cM acc out cv wr) {k:Int} {o:Obj} {cv':Value} (hown:wy.ownsRow (w.heap.size+1+1) 3 1 cv' (out.length+1) (out.map (Value.int .i64)++[.int .i64 k])) (hg:(wr.alloc o).grownBy wy cv.ownBlock)
  (hv:cv'.ownBlock=cv.ownBlock\/cv'.ownBlock=some (wr.alloc o).heap.size):Ur w A n c wv AM nM cM acc (out++[k]) cv' wy:=by
 have hal:Below wr.heap.size wr (wr.alloc o):=(qbr _ wr).alloc (qr _) _
 have far:Far (fun i=>cv.ownBlock=some i) wr wy:=(Far.of_below _ hal).trans (Far.of_grown hg fun i h=>h.symm) fun _ _ h=>h
 have hge:∀ i,cv.ownBlock=some i->w.heap.size+1+1<=i:=fun i e=>(h.o.lt i e).1
 have hs:=far.size
 refine ⟨⟨far.whole h.b.t fun e=>by have:=hge _ e;omega,far.whole h.b.v fun e=>by have:=hge _ e;omega,h.b.bel.trans ((hal.mono h.b.bel.size).grown hg (by have:=h.b.bel.size;simp;omega) fun i e=>by have:=hge i e;omega)⟩,
  (far.ints h.ms fun i hi=>⟨hi.2.1,hi.2.2⟩).more fun i hi=>⟨hi.1,ql hi.2.1 hs, ?_⟩,h.hn,by rw [List.length_append,List.map_append];exact hown⟩
 rcases hv with e | e
 ·rw [e];exact hi.2.2
 rw [e];intro e2;injection e2 with e2;have:=hi.2.1;simp at e2;omega
end
theorem own_fresh (w:World) (B:Nat) (h:B<=w.heap.size):(w.alloc (.cells #[] 3)).ownsRow B 3 1 (.slice (some ⟨w.heap.size,0,none⟩) 0 0) 0 []:=
 ⟨rfl,.inr ⟨w.heap.size,0,#[],rfl,h,Whole.new w w.heap.size 3 [] rfl,qr _,Nat.zero_le _,rfl,rfl⟩⟩
theorem runmasked_any (ps:List Pk) (v:Ws) (S:Nat->Prop) (A:Option Addr) (n c:Nat) (A1 A2 A3 A4:Option Addr) (n1 c1 n2 c2 n3 c3 n4 c4:Nat) (w:World) (hT:RTree w S A n ps) (hnc:n<=c) (hc:c<=maxLen) (hV:WsAt w S A1 n1 c1 A2 n2 c2 A3 n3 c3 A4 n4 c4 v) (hS:∀ k,S k->k<w.heap.size) (hok:ckWish ps v=0) :
  Calls Tryz.prog 31 #[.agg #[.slice A n c],.agg #[.slice A1 n1 c1,.slice A2 n2 c2,.slice A3 n3 c3,.slice A4 n4 c4]] w (RUnmP ps v w):=by
 have X0:=qh (Wb.new w A n c [.slice A1 n1 c1,.slice A2 n2 c2,.slice A3 n3 c3,.slice A4 n4 c4])
 obtain ⟨hn3,hc3⟩:=hV.h3
 have HT:=qh hT;have HV:=qh hV;have HS:=qh hS;have HZ:=qh hok;clear hT hV hS hok
 have Hlt:=qh (fun (wx:World) (hb:Below w.heap.size w wx) k hk=>ql (HS.out k hk) hb.size)
 have HTRY:=qh (fun (AM:Option Addr) (nM cM:Nat) (ms:List Int) wx (X:Wb w A n c [.slice A1 n1 c1,.slice A2 n2 c2,.slice A3 n3 c3,.slice A4 n4 c4] wx) (hm:RInts wx (fun k=>k<wx.heap.size) AM nM ms) (hn:nM<=cM) (hcM:cM<=maxLen) (hk:ckWish ps { v with ms:=ms } = 0)=>rtry_any ps v ms (fun k=>k<wx.heap.size) A n c A1 A2 A3 A4 n1 c1 n2 c2 n3 c3 n4 c4 AM nM cM w.heap.size (w.heap.size+1) wx ((HT.out.under X.bel HS.out).more fun k hk=>Hlt.out _ X.bel k hk) hnc hc ((HV.out.under X.bel HS.out).more fun k hk=>Hlt.out _ X.bel k hk) hm hn hcM (fun k hk=>hk) hk X.t X.v)
 have henter:∀ (args:Array Value) (W:World),(callFunc 73 args).run Tryz.prog W=.ok (.enter 73 args) W:=fun args W=>by kernel_rfl
 have HR3:=qh (HTRY.out none 0 0 [] _ X0.out RInts.nil_ (qr _) (Nat.zero_le _) (wish_mask HZ.out (List.nil_sublist _)))
 obtain ⟨y,hy⟩:∃ y,resE ps { v with ms:=[] } 40000=y:=⟨_,rfl⟩
 have HUY:Hid (unmE ps v=y):=qh (by unfold unmE;rw [if_neg (by rw [HZ.out];simp)];exact hy)
 rw [hy] at HR3
 clear hy
 go_enter Tryz.func31,Tryz.ntmps31
 go_wp2_with (first | (go_at_call 73;refine HR3.out.mono ?_;rintro e w4 ⟨rfl,hb4⟩;refine Hid.out ?_))
 refine qh ?_
 have X4:=qh (X0.out.move hb4)
 clear hb4 X0 HR3
 by_cases hy0:y=0
 ·subst hy0
  have U4:Hid (Ur w A n c [.slice A1 n1 c1,.slice A2 n2 c2,.slice A3 n3 c3,.slice A4 n4 c4] none 0 0 [] [] (.slice none 0 0) w4):=qh ⟨X4.out,RInts.nil_,⟨qr _,Nat.zero_le _⟩,World.ownsRow_nil _ _ _ _⟩
  obtain ⟨i0,hi0,hz1,hz2,hz3⟩:=info_parts int_infoE
  have Hi:=qh hi0;have Hz0:=qh hz1;have Hz1:=qh hz2;have Hz2:=qh hz3
  have hms8:v.ms.length<=100000:=by
   have W:=wish_parts HZ.out
   have h1:=ckMask_short W.ms
   have h2:=ckTree_len W.tree
   omega
  have hn38:n3<=100000:=by rw [<- HV.out.ms.len];exact hms8
  clear hi0 hz1 hz2 hz3
  unfold maxLen at hc3
  have u2:=X4.out.v.cell 2;have ul:=X4.out.v.lt
  simp only [qgz,qgs] at u2
  go_wp2
  clear u2 ul X4
  go_loopg [7,8,19] n3 (fun g ov av iv wr=>∃ (j:Nat) (AM:Option Addr) (nM cM:Nat) (acc out:List Int),Hid (j+g=n3)/\iv=.int .i64 j/\av=.slice AM nM cM/\Hid (unmAll (qMay ps v) (v.ms.take j)=(acc,out))/\acc.length<=j/\out.length<=j/\Hid (Ur w A n c [.slice A1 n1 c1,.slice A2 n2 c2,.slice A3 n3 c3,.slice A4 n4 c4] AM nM cM acc out ov wr))
  case atStart=>exact ⟨0,none,0,0,[],[],qh (Nat.zero_add _),rfl,rfl,qh rfl,qr _,qr _,U4⟩
  case round =>
   obtain ⟨j,AM,nM,cM,acc,out,Hj,rfl,rfl,HA,hacl,houl,HU⟩:=hrel
   clear U4
   by_cases hj:j<n3
   ·obtain ⟨b,o,rfl,hbS,hcell⟩:=(HV.out.under HU.out.b.bel HS.out).ms.at_ hj
    have hjs:v.ms[j]? = some (v.ms.getD j 0):=by
     have hl:j<v.ms.length:=by rw [HV.out.ms.len];exact hj
     rw [qgd,qge hl];rfl
    generalize v.ms.getD j 0=k at hcell hjs
    have hst:=unm_step HUY.out hjs
    rw [HA.out] at hst
    dsimp only at hst
    have HST:=qh hst
    have hbl:b<wr.heap.size:=ql (HS.out _ hbS) HU.out.b.bel.size
    have hj1:(j:Int)<n3:=by omega
    have hj0:(0:Int)<=(j:Int):=by omega
    have hnMl:nM<=100000:=by have:=HU.out.ms.len;omega
    have HNM:Hid (nM=acc.length):=qh HU.out.ms.len.symm
    have hb5:Below wr.heap.size wr (wr.alloc (.cells #[] 3)):=(qbr _ wr).alloc (qr _) _
    have HOF:=qh (own_fresh wr wr.heap.size (qr _))
    have HRW5:=qh ((HU.out.move hb5).ms)
    have HB5:=qh hb5
    clear hst hjs hb5 hbS
    go_upto_region 9 with (at_builtin;refine wpList_append_row rfl _ _ 27 rfl wr.heap.size 3 i0 (.int .i64 0) 8 Tryz.underlying27 Hi.out Hz0.out Hz1.out Hz2.out rfl _ _ _ rfl HOF.out AM nM cM (acc.map (Value.int .i64)) rfl _ HRW5.out (fun u hu=>by obtain ⟨x,_,rfl⟩:=List.mem_map.1 hu;rfl) ?e3 ?e4 ?e5 ?_)
    case e3=>unfold maxLen;omega
    case e4=>omega
    case e5=>simp
    intro A5 c5 w5 hn5 hc5 hown5 hg5
    have hlt5:=hown5.lt
    have HO5:=qh hown5
    have HBE:Hid (Below wr.heap.size wr w5):=qh (HB5.out.grown hg5 (by simp) fun g e=>Nat.le_of_eq (by simpa [Value.ownBlock] using e))
    unfold maxLen at hc5
    clear hown5 hg5 HOF HRW5 HB5 hcell
    go_upto_region 9 with (at_builtin;refine wpList_append_own_at _ rfl _ _ 27 rfl wr.heap.size 3 i0 (.int .i64 0) 1 8 Tryz.underlying27 Hi.out Hz0.out Hz1.out Hz2.out rfl (by decide) _ _ _ rfl (HO5.out.alloc _) ⟨w5.heap.size,0,none⟩ 1 1 [.int .i64 k] rfl rfl ?f1 ?f2 ?f3 ?f4 ?f5 ?_)
    case f1=>exact cell_one_new _ _ _
    case f2=>simp [Value.oneCell']
    case f3=>unfold maxLen;omega
    case f4=>omega
    case f5=>have:=HBE.out.size;simp;omega
    intro cv' w6 hown6 hg6 _ _
    obtain ⟨A6,c6,rfl,hn6,hc6,hrow6⟩:=own_form hown6
    have HB6:Hid (Below wr.heap.size wr w6):=qh ((HBE.out.alloc HBE.out.size _).grown hg6 (by have:=HBE.out.size;simp;omega) (fun g e=>(hlt5 _ e).1))
    have hr6:RInts w6 (fun k=>wr.heap.size<=k/\k<w6.heap.size) A6 (nM+1) (acc++[k]):=by
     have h:=hrow6
     unfold RInts
     rw [List.map_append];exact h
    have HR6:=qh hr6
    have U6:=qh (HU.out.move HB6.out)
    have HWL:Hid (w.heap.size+1<wr.heap.size):=qh HU.out.b.v.lt
    have HOL:=qh HU.out.o.lt
    obtain ⟨hck6,hst⟩:=HST.out
    have hcall:=HTRY.out A6 (nM+1) c6 (acc++[k]) w6 U6.out.b (HR6.out.more fun i hi=>hi.2) hn6 hc6 hck6
    obtain ⟨y,hy⟩:∃ y,resE ps { v with ms:=acc++[k] } 40000=y:=⟨_,rfl⟩
    rw [hy] at hst hcall
    have HCA:=qh hcall
    have HHN:=qh (And.intro hn6 hc6)
    unfold maxLen at hc6
    clear hown6 hg6 hrow6 hr6 hcall hck6 hy HO5 hlt5 HST HU HBE
    go_upto_region 9 with fail
    rcases hst with ⟨hy0,hnx⟩ | ⟨hy7,hnx⟩
    ·subst hy0
     have HNX:=qh hnx
     clear hnx
     go_wp2_with (first | (go_at_call 73;refine HCA.out.mono ?_;rintro e w8 ⟨rfl,hb8⟩;refine Hid.out ?_))
     refine qh ?_
     have U8:=qh (U6.out.move hb8)
     have hr8:=(HR6.out.below hb8 fun i hi=>hi.2).more (S':=fun i=>wr.heap.size<=i/\i<w8.heap.size) fun i hi=>⟨hi.1,ql hi.2 hb8.size⟩
     have UX:Hid (Ur w A n c [.slice A1 n1 c1,.slice A2 n2 c2,.slice (some ⟨b,o,none⟩) n3 c3,.slice A4 n4 c4] A6 (nM+1) c6 (acc++[k]) out u7 w8):=qh ⟨U8.out.b,hr8.more fun i hi=>⟨by have:=HWL.out;have:=hi.1;omega,hi.2,fun e=>by have:=(HOL.out i e).2;have:=hi.1;omega⟩,HHN.out,U8.out.o⟩
     clear hb8 hr8 U8
     go_wp2
     go_roundg (gk - 1)
     case measure=>have:=Hj.out;omega
     case rel=>exact ⟨j+1,A6,nM+1,c6,acc++[k],out,qh (by have:=Hj.out;omega),by go_num,rfl,HNX,by simp;omega,by omega,UX⟩
    subst hy7
    have HNX:=qh hnx
    clear hnx
    go_wp2_with (first | (go_at_call 73;refine HCA.out.mono ?_;rintro e w8 ⟨rfl,hb8⟩;refine Hid.out ?_))
    refine qh ?_
    have U8:=qh (U6.out.move hb8)
    clear hb8
    go_wp2_with (at_builtin;refine wpList_append_own_at _ rfl _ _ 27 rfl (w.heap.size+1+1) 3 i0 (.int .i64 0) 1 8 Tryz.underlying27 Hi.out Hz0.out Hz1.out Hz2.out rfl (by decide) _ _ _ rfl (U8.out.o.alloc _) ⟨w8.heap.size,0,none⟩ 1 1 [.int .i64 k] rfl rfl ?kk1 ?kk2 ?kk3 ?kk4 ?kk5 ?_)
    try (case kk1=>exact cell_one_new _ _ _)
    case kk2=>simp [Value.oneCell']
    case kk3=>unfold maxLen;omega
    case kk4=>omega
    case kk5=>have:=U8.out.b.bel.size;have:=U8.out.b.v.lt;simp;omega
    intro cv' w9 hown9 hg9 _ hat9
    have UX:=qh (U8.out.push hown9 hg9 (by simpa using hat9))
    clear hown9 hg9 hat9
    go_wp2
    go_roundg (gk - 1)
    case measure=>have:=Hj.out;omega
    case rel=>exact ⟨j+1,_,_,_,acc,out++[k],qh (by have:=Hj.out;omega),by go_num,rfl,HNX,by omega,by simp;omega,UX⟩
   obtain rfl:n3=j:=by have:=Hj.out;omega
   have hall:v.ms.take n3=v.ms:=List.take_of_length_le (by rw [HV.out.ms.len];exact qr _)
   have ha:=HA.out
   rw [hall] at ha
   have hul:unmL ps v=out:=by unfold unmL;rw [if_pos HUY.out,ha]
   obtain ⟨Ao,co,rfl,hno,hco,hrow⟩:=own_form HU.out.o
   have hro:RInts wr (fun k=>w.heap.size<=k/\k<wr.heap.size) Ao out.length out:=Row.more hrow fun k hk=>⟨by have:=hk.1;omega,hk.2⟩
   have HF:Hid (RUnmP ps v w (.returned (.tuple #[.slice Ao out.length co,.bool true])) wr):=qh ⟨Ao,_,co,by rw [HUY.out];rfl,by rw [hul];exact hro,hno,hco,HU.out.b.bel⟩
   clear hall ha hrow hul hro
   generalize out.length=LL at HF HU ⊢
   go_wp2
   go_ret2
   exact HF.out
 have hyb:(y == 0)=false:=by simpa using hy0
 have hyd:decide (y=0)=false:=qdf hy0
 have HF:Hid (∀ w',Below w.heap.size w w'->RUnmP ps v w (.returned (.tuple #[.slice none 0 0,.bool false])) w'):=qh fun w' hb=>⟨none,0,0,by rw [HUY.out,hyd],by unfold unmL;rw [if_neg (by rw [HUY.out];exact hy0)];exact RInts.nil_,qr _,Nat.zero_le _,hb⟩
 go_wp2
 go_ret2
 exact HF.out _ X4.out.bel
end
end Go.Proofs.YtedbhlgjcnnknaaGreatDoor
