/- Parts. -/
import Derived.Test.YtedbhlgjcnnknaaGreatDoorQ14
set_option linter.unusedVariables false
set_option linter.unusedSimpArgs false
set_option linter.unusedSectionVars false
set_option maxRecDepth 100000
set_option maxHeartbeats 12800000
namespace Go.Proofs.YtedbhlgjcnnknaaGreatDoor
section
open Go.RowKit Qm
theorem laidOutE:laidOutB Tryz.prog=true:=by kernel_rfl
theorem pairRowE:(86:TypeId)<Tryz.prog.types.size:=of_decide_eq_true (by kernel_rfl)
theorem pairKey:PairKey Tryz.prog 86 where
 law:=Maps.Keyed.of_law (deep_law_laid laidOutE (m:=2) (by omega) pairRowE (by kernel_rfl) (by rw [Tryz.underlying86]))
 arr:=⟨Tryz.underlying86,by kernel_rfl,by kernel_rfl,by kernel_rfl⟩
 i:=Tryz.underlying3
 sz:=⟨Tryz.prog.types.size - 1,by kernel_rfl⟩
theorem zeroIntE (w:World):(zeroValue 3).run Tryz.prog w=.ok (.int .i64 0) w:=by kernel_rfl
section
variable {q : Dp} {E : Nat → Prop} {mp : Nat} {d : Dk} {w w1 : World}
theorem Desk.look (h:Desk q E mp d w) {n f:Int} (hn:(Lit.int .i64 n).wf=true) (hf:(Lit.int .i64 f).wf=true) :
  (Instr.lookup 93 (.map (some q.mb)) (.agg #[.int .i64 n,.int .i64 f]) false).run Tryz.prog w=.ok (.int .i64 (d.pair n f)) w:=by
 obtain ⟨P,hs,h⟩:=h
 exact h.pair.look pairKey (zeroIntE _) Tryz.underlying93 hn hf
theorem Desk.put (h:Desk q E mp d w) {n f v:Int} (hn:(Lit.int .i64 n).wf=true) (hf:(Lit.int .i64 f).wf=true) (hv:(Lit.int .i64 v).wf=true) (hm:mp<maxLen) :
  ∃ w',(Instr.mapUpdate 93 (.map (some q.mb)) (.agg #[.int .i64 n,.int .i64 f]) (.int .i64 v)).run Tryz.prog w=.ok () w'/\Desk q E (mp+1) (setPair d n f v) w'/\Fd q E w w'/\w'.heap.size=w.heap.size:=by
 obtain ⟨P,hs,h⟩:=h
 obtain ⟨w',hrun,hp,hg,hsz⟩:=h.pair.put pairKey Tryz.underlying93 hn hf hv hm
 have F:Far (fun i=>i=q.mb) w w':=Far.of_grown hg fun i e=>by injection e
 have hsz1:∀ k,OwnD q.base q.b q.mb P E w.heap.size k->OwnD q.base q.b q.mb P E w'.heap.size k:=fun k hk=>hk.mono (fun _ h _=>h) F.size
 refine ⟨w',hrun,⟨P,hs,F.whole h.blk h.ne,F.own h.own fun g hg e=>h.pm (by rw [hg,e]),(F.heads' h.heads fun k hk=>⟨hk.2.1,hk.2.2.2.1⟩).more hsz1,hp,h.st.keep fun p hp=>?_,h.s0,fun k hk=>hsz1 k (h.s1 k hk),h.bb,h.bm,h.bp,fun k hk=>⟨(h.e k hk).1,ql (h.e k hk).2 F.size⟩,h.caps⟩,F.mono fun i x=>by rw [x];exact h.bm,hsz⟩
 rcases hp with hp | hp
 ·have h0:=h.s0 _ hp
  have:=h.bm.1
  exact F.cell (ql h0 h.base_) fun e=>by omega
 exact F.cell (h.s1 _ hp).2.1 (h.s1 _ hp).2.2.2.1
end
theorem Desk.cell5 {q:Dp} {E:Nat->Prop} {mp:Nat} {d:Dk} {w:World} (h:Desk q E mp d w):w.cell? ⟨q.b,5,none⟩=some (.map (some q.mb)):=by
 obtain ⟨P,hs,h⟩:=h
 have:=h.blk.cell 5
 simpa using this
theorem Desk.lt {q:Dp} {E:Nat->Prop} {mp:Nat} {d:Dk} {w:World} (h:Desk q E mp d w):q.b<w.heap.size:=by
 obtain ⟨P,hs,h⟩:=h;exact h.blk.lt
structure Mst (q:Dp) (E:Nat->Prop) (w:World) (av:List Value) (mp:Nat) (s:Dk×List Int) (lv:Value) (wr:World):Prop where
 box:Whole wr w.heap.size 75 av
 own:wr.ownsRow w.heap.size 3 1 lv s.2.length (s.2.map (.int .i64))
 dk:Desk q (fun j=>(E j\/j=w.heap.size)\/Cv lv j) mp s.1 wr
 fd:Fd q E w wr
 ne:∀ j,Cv lv j->¬ (E j\/j=w.heap.size)
section
variable {q : Dp} {E : Nat → Prop} {w : World} {av : List Value} {mp : Nat} {s : Dk × List Int} {lv : Value} {wr wy : World}
theorem Mst.move (h:Mst q E w av mp s lv wr) (hb:Below wr.heap.size wr wy):Mst q E w av mp s lv wy:=
 ⟨h.box.below hb h.box.lt,(Far.of_below (fun _=>False) hb).own h.own fun _ _ h=>h,h.dk.move hb,h.fd.trans (Fd.of_below q E hb) fun _ _ h=>h,h.ne⟩
theorem Mst.push (h:Mst q E w av mp s lv wr) {x:Int} {lv':Value} {w4:World} {o:Obj} (hb:q.base<=w.heap.size) (ho:w4.ownsRow w.heap.size 3 1 lv' (s.2.length+1) (s.2.map (.int .i64)++[.int .i64 x])) (hg:(wr.alloc o).grownBy w4 lv.ownBlock)
  (hv:lv'.ownBlock=lv.ownBlock\/lv'.ownBlock=some (wr.alloc o).heap.size):Mst q E w av mp (s.1,s.2++[x]) lv' w4:=by
 have hal:Below wr.heap.size wr (wr.alloc o):=(qbr _ wr).alloc (qr _) _
 obtain ⟨h1,h2,h3⟩:=Desk.reown h.dk h.own ho hb hg hv h.ne
 exact ⟨((h.box.alloc o)).grown hg fun e=>h.ne _ e.symm (.inr rfl),by simpa using ho,h1,h.fd.trans (h2.mono fun _ h=>.inl h) fun _ _ h=>h,h3⟩
theorem Mst.turn (h:Mst q E w av mp s lv wr) {mp':Nat} {d':Dk} {E':Nat->Prop} (hd:Desk q (fun j=>(E j\/j=w.heap.size)\/Cv lv j) mp' d' wy) (hf:Fd q E' wr wy) (hE:∀ j,((E j\/j=w.heap.size)\/Cv lv j)->E' j):Mst q E w av mp' (d',s.2) lv wy:=
 ⟨hf.whole h.box (hE _ (.inl (.inr rfl))),hf.own h.own fun g hg=>hE _ (.inr hg),hd,h.fd.trans (hf.mono hE) fun _ _ h=>.inl (.inl h),h.ne⟩
theorem Mst.start (h:Desk q E mp s.1 w) (hs:s.2=[]):Mst q E w av mp s (.slice none 0 0) (w.alloc (.cells av.toArray 75)):=by
 have hal:Below w.heap.size w (w.alloc (.cells av.toArray 75)):=(qbr _ w).alloc (qr _) _
 refine ⟨Whole.new w _ _ av rfl,by rw [hs];exact World.ownsRow_nil _ _ _ _,(h.aside hal).mono fun i hi=>?_,Fd.of_below q E hal,fun j hj=>by cases hj⟩
 rcases hi with (hi | hi) | hi
 ·exact .inl hi
 ·subst hi;exact .inr ⟨qr _,by simp⟩
 cases hi
end
def Goes (ps:List Pk) (a:At) (but:Int) (i:Nat):Prop:=¬ ((i:Int)=but\/(pkOf ps i).nm≠a.nm\/fitsP a (pkOf ps i).ver (pkOf ps i).slot=false)
section
variable {X : Chs} {ps : List Pk} {a : At} {but : Int} {s : Dk × List Int} {i k : Nat}
theorem meanStep_bare (h:Goes ps a but i) (h2:a.fl=[]):meanStep X ps a but s i=(s.1,s.2++[X.pick i]):=by unfold meanStep;rw [if_neg h,if_pos h2]
theorem meanStep_none (h:Goes ps a but i) (h2:a.fl≠[]) (h3:ixOf a.fl (pkOf ps i).fs=none):meanStep X ps a but s i=s:=by unfold meanStep;rw [if_neg h,if_neg h2,h3]
theorem meanStep_new (h:Goes ps a but i) (h2:a.fl≠[]) (h3:ixOf a.fl (pkOf ps i).fs=some k) (h4:s.1.pair (X.pick i) (askD X a i k)=0) :
  meanStep X ps a but s i=(setPair (bothD s.1 [X.pick i,askD X a i k]).1 (X.pick i) (askD X a i k) (bothD s.1 [X.pick i,askD X a i k]).2,s.2++[(bothD s.1 [X.pick i,askD X a i k]).2]):=by
 unfold meanStep;rw [if_neg h,if_neg h2,h3];dsimp only;rw [if_pos h4]
theorem meanStep_old (h:Goes ps a but i) (h2:a.fl≠[]) (h3:ixOf a.fl (pkOf ps i).fs=some k) (h4:s.1.pair (X.pick i) (askD X a i k)≠0) :
  meanStep X ps a but s i=(s.1,s.2++[s.1.pair (X.pick i) (askD X a i k)]):=by
 unfold meanStep;rw [if_neg h,if_neg h2,h3];dsimp only;rw [if_neg h4]
end
theorem meansTo_len {X:Chs} {ps:List Pk} {a:At} {but:Int} {d:Dk}:∀ j,(meansTo X ps a but d j).2.length<=j
 | 0=>qr _
 | j+1=>by
  have ih:=meansTo_len (X:=X) (ps:=ps) (a:=a) (but:=but) (d:=d) j
  rw [meansTo]
  unfold meanStep
  split
  ·omega
  split
  ·simp;omega
  split
  ·omega
  split
  ·simp;omega
  simp;omega
def MeansP (q:Dp) (E:Nat->Prop) (mp:Nat) (r:Dk×List Int) (w:World) (e:Ending) (w':World):Prop:=
 ∃ A c mp',e=.returned (.slice A r.2.length c)/\r.2.length<=c/\c<=maxLen/\RInts w' (Cv (.slice A r.2.length c)) A r.2.length r.2/\Desk q (fun j=>E j\/Cv (.slice A r.2.length c) j) mp' r.1 w'/\Fd q E w w'/\(∀ j,Cv (.slice A r.2.length c) j->¬ E j)/\mp'<=mp+q.n
theorem dmeans_any (q:Dp) (E:Nat->Prop) (mp:Nat) (d:Dk) (a:At) (but:Int) (w:World) (hD:Desk q E mp d w) (hin:DIn q.X q.ps d) (h8:q.n<=8) (hmp:mp<=1000000) (hv:(meansD q.X q.ps a but d).1.vars<=100000) (hc:(meansD q.X q.ps a but d).1.cls.length<=100000) :
  Calls Tryz.prog 47 #[.pointer (some ⟨q.b,0,none⟩),.agg #[.string ⟨a.nm.toArray⟩,.int .i64 a.op,.int .i64 a.ver,.int .i64 a.slot,.string ⟨a.fl.toArray⟩,.bool a.on],.int .i64 but] w (MeansP q E mp (meansD q.X q.ps a but d) w):=by
 obtain ⟨i0,hi0,hz0,hz1,hz2⟩:=info_parts int_infoE
 have Hi:=qh hi0;have Hz0:=qh hz0;have Hz1:=qh hz1;have Hz2:=qh hz2
 have HD:=qh hD;have HIN:=qh hin;have HV:=qh hv;have HC:=qh hc
 have hqb:=hD.base_
 have HLen:=qh hD.len
 have HCP:=qh hD.caps
 have hcn:=hD.caps.1
 unfold maxLen at hcn
 have M0:=qh (Mst.start (av:=[.string ⟨a.nm.toArray⟩,.int .i64 a.op,.int .i64 a.ver,.int .i64 a.slot,.string ⟨a.fl.toArray⟩,.bool a.on]) (s:=meansTo q.X q.ps a but d 0) HD.out rfl)
 obtain ⟨P,hs,H0⟩:=hD
 have c0:=((H0.blk.alloc (.cells #[.string ⟨a.nm.toArray⟩,.int .i64 a.op,.int .i64 a.ver,.int .i64 a.slot,.string ⟨a.fl.toArray⟩,.bool a.on] 75))).cell 0
 have hbw:=H0.blk.lt
 have hbw1:q.b<w.heap.size+1:=by omega
 simp only [qgz,qgs] at c0
 obtain ⟨A,hA0⟩:∃ x,x=q.A:=⟨_,rfl⟩
 rw [<- hA0] at c0
 have HA0:=qh hA0
 clear hi0 hz0 hz1 hz2 hin hv hc H0 hA0
 go_enter Tryz.func47,Tryz.ntmps47
 go_wp2
 go_loopg [7,19] q.n (fun g lv iv wr=>∃ (i mp':Nat),Hid (i+g=q.n)/\iv=.int .i64 i/\Hid (mp'<=mp+i)/\Hid (Mst q E w [.string ⟨a.nm.toArray⟩,.int .i64 a.op,.int .i64 a.ver,.int .i64 a.slot,.string ⟨a.fl.toArray⟩,.bool a.on] mp' (meansTo q.X q.ps a but d i) lv wr))
 case atStart=>exact ⟨0,mp,qh (Nat.zero_add _),rfl,qh (qr _),M0⟩
 case round =>
  obtain ⟨i,mp',Hk,rfl,HMP,HM⟩:=hrel
  clear M0 c0 hbw1
  have hst0:meansTo q.X q.ps a but d (i+1)=meanStep q.X q.ps a but (meansTo q.X q.ps a but d i) i:=rfl
  have hle:=meansTo_le q.X q.ps a but d i (q.ps.length - i)
  have hlei:=meansTo_le q.X q.ps a but d (i+1) (q.ps.length - (i+1))
  by_cases hi:i<q.n
  ·have hip:i<q.ps.length:=by rw [HLen.out];exact hi
   rw [show i+(q.ps.length - i)=q.ps.length by omega] at hle
   rw [show i+1+(q.ps.length - (i+1))=q.ps.length by omega] at hlei
   have hin1:=meansTo_in HIN.out a but i (by omega)
   have HIN1:=qh hin1
   have hv1:(meansTo q.X q.ps a but d i).1.vars<=100000:=qlt hle.1 HV.out
   have hv2:(meansTo q.X q.ps a but d (i+1)).1.cls.length<=100000:=qlt hlei.2 HC.out
   have HST:=qh hst0
   have HV2:=qh hv2
   obtain ⟨s,hs⟩:∃ s,s=meansTo q.X q.ps a but d i:=⟨_,rfl⟩
   rw [<- hs] at HM HST HIN1 hv1
   obtain ⟨lN,hlN⟩:∃ N,N=s.2.length:=⟨_,rfl⟩
   have hown:=HM.out.own
   rw [<- hlN] at hown
   obtain ⟨lA,lc,rfl,hl1,hl2,hlrow⟩:=own_form hown
   have HOWN:=qh hown
   have HLN:=qh hlN
   have hl3:lN<=100000:=by
    have h:(meansTo q.X q.ps a but d i).2.length<=i:=by
     have:∀ j,(meansTo q.X q.ps a but d j).2.length<=j:=by
      intro j
      induction j with
      | zero=>exact qr _
      | succ j ih =>
       rw [meansTo]
       unfold meanStep
       split
       ·omega
       split
       ·simp;omega
       split
       ·omega
       split
       ·simp;omega
       simp;omega
     exact this i
    rw [<- hs] at h
    omega
   obtain ⟨b2,o2,p,F,fn,fc,kd,pa,pf,pno,G,gq,gd,hA,hbS2,hp,hP,hcell⟩:=HM.out.dk.st.tree.at_ hi
   have hpk:pkOf q.ps (i:Int)=p:=pkOf_at hp
   have HPK:=qh hpk
   obtain ⟨g0,g1,g2,g3,g4,g5,g6,g7,g8,g9,g10,g11,g12,g13⟩:=cb14 hcell (by decide)
   unfold pkRow ndRow at g0 g1 g2 g3 g4 g5 g6 g7 g8 g9 g10 g11 g12 g13
   simp only [qgz,qgs,Nat.add_zero] at g0 g1 g2 g3 g4 g5 g6 g7 g8 g9 g10 g11 g12 g13
   have hS0:∀ k,q.S0 k->k<w.heap.size:=fun k hk=>ql (HD.out.s0 k hk) hqb
   have hix:=fun wx (hb:Fd q E w wx)=>indexS_any F fn fc p.fs a.fl wx q.S0 (hP.fs.row.keep (w':=wx) fun pp hpp=>(hb.old (HD.out.s0 _ hpp) hqb).trans (HM.out.fd.old (HD.out.s0 _ hpp) hqb).symm) (qlt hP.cap hP.max)
   have Hix:=qh hix
   have hft:=fun wx=>fits_any ⟨a.nm.toArray⟩ ⟨a.fl.toArray⟩ a.op a.ver a.slot p.ver p.slot a.on wx
   rw [atOf_mk] at hft
   unfold atv at hft
   have Hft:=qh hft
   have hal:Below wr.heap.size wr (wr.alloc (.cells #[.string ⟨p.nm.toArray⟩,.int .i64 p.ver,.int .i64 p.slot,.slice F fn fc,.int .i64 kd,.string ⟨pa.nm.toArray⟩,.int .i64 pa.op,.int .i64 pa.ver,.int .i64 pa.slot,.string ⟨pa.fl.toArray⟩,.bool pa.on,.string ⟨pf.toArray⟩,.bool pno,.slice G gq gd] 101)):=(qbr _ wr).alloc (qr _) _
   have M1:=qh (HM.out.move hal)
   have B1:=qh (Whole.new wr wr.heap.size 101 [.string ⟨p.nm.toArray⟩,.int .i64 p.ver,.int .i64 p.slot,.slice F fn fc,.int .i64 kd,.string ⟨pa.nm.toArray⟩,.int .i64 pa.op,.int .i64 pa.ver,.int .i64 pa.slot,.string ⟨pa.fl.toArray⟩,.bool pa.on,.string ⟨pf.toArray⟩,.bool pno,.slice G gq gd] rfl)
   have hi1:(i:Int)<q.n:=by omega
   have hi0:(0:Int)<=(i:Int):=by omega
   have hbl2:b2<wr.heap.size:=ql (hS0 _ hbS2) HM.out.fd.size
   have hbx:w.heap.size<wr.heap.size:=HM.out.box.lt
   obtain ⟨a0,a1,a2,a3,a4,a5⟩:=ch6 M1.out.box.cell
   obtain ⟨p0,p1,p2,p3⟩:=ch4 B1.out.cell
   simp only [qgz,qgs] at a0 a1 a2 a3 a4 a5 p0 p1 p2 p3
   obtain rfl:A=some ⟨b2,o2,none⟩:=HA0.out.trans hA
   clear hcell hp hP hpk hix hft hA hbS2 hs hst0 hlrow hl2 hown hlN hip hin1 hle hlei hv2
   by_cases hib:(i:Int)=but
   ·subst hib
    have HN:Hid (meansTo q.X q.ps a i d (i+1)=s):=qh (by rw [HST.out];unfold meanStep;rw [if_pos (.inl rfl)])
    go_wp2
    go_roundg (gk - 1)
    case measure=>have:=Hk.out;omega
    case rel=>exact ⟨i+1,mp',qh (by have:=Hk.out;omega),by go_num,qh (by have:=HMP.out;omega),qh (by rw [HN.out];exact M1.out)⟩
   have hib2:((i:Int) == but)=false:=by simpa using hib
   have HIB:=qh hib
   clear hib
   by_cases hnm:p.nm=a.nm
   ·have hnm2:(p.nm == a.nm)=true:=by simpa using hnm
    have HNM:=qh hnm
    clear hnm
    generalize hftv:fitsP a p.ver p.slot=ft at Hft
    have HFT:=qh hftv
    clear hftv
    cases ft
    ·have HN:Hid (meansTo q.X q.ps a but d (i+1)=s):=qh (by rw [HST.out];unfold meanStep;rw [if_pos (.inr (.inr (by rw [HPK.out];exact HFT.out)))])
     go_wp2_with (first | (go_at_call 81;refine (Hft.out _).mono ?_;rintro e w4 ⟨rfl,hb4⟩;refine Hid.out ?_))
     refine qh ?_
     have M4:=qh (M1.out.move hb4)
     clear hb4
     go_wp2
     go_roundg (gk - 1)
     case measure=>have:=Hk.out;omega
     case rel=>exact ⟨i+1,mp',qh (by have:=Hk.out;omega),by go_num,qh (by have:=HMP.out;omega),qh (by rw [HN.out];exact M4.out)⟩
    have HG:Hid (Goes q.ps a but i):=qh (by
     unfold Goes
     rintro (h | h | h)
     ·exact HIB.out h
     ·exact h (by rw [HPK.out];exact HNM.out)
     rw [HPK.out,HFT.out] at h;cases h)
    clear HIB HNM HFT
    go_wp2_with (first | (go_at_call 81;refine (Hft.out _).mono ?_;rintro e w4 ⟨rfl,hb4⟩;refine Hid.out ?_))
    refine qh ?_
    have M4:=qh (M1.out.move hb4)
    have B4:=qh (B1.out.below hb4 B1.out.lt)
    have W4:=qh (M1.out.fd.trans (Fd.of_below q E hb4) fun _ _ h=>h)
    clear hb4 a0 a1 a2 a3 a4 a5 p0 p1 p2 p3 hbl2 hbx M1 B1 HM hal
    obtain ⟨P4,hs4,hK4⟩:=M4.out.dk
    have K4:=qh hK4
    have d1:=hK4.blk.cell 1;have d2:=hK4.blk.cell 2;have d5:=hK4.blk.cell 5
    have dlt:=hK4.blk.lt
    obtain ⟨b3,o3,hpA,hbS3,hpc⟩:=hK4.st.pick.at_ hi
    have hb3:b3<w4.heap.size:=(hK4.s1 _ hbS3).2.1
    simp only [qgz,qgs] at d1 d2 d5
    rw [hpA] at d1
    have hpx:(picksX q.X q.ps).getD i 0=q.X.pick i:=by
     have h:i<q.ps.length:=by rw [HLen.out];exact hi
     unfold picksX
     rw [qgd,qgm,List.getElem?_range h];rfl
    rw [hpx] at hpc
    have hxb:=HIN1.out.1.pick i (by rw [HLen.out];exact hi)
    obtain ⟨x,hx⟩:∃ x,x=q.X.pick i:=⟨_,rfl⟩
    rw [<- hx] at hpc hxb
    have HX:=qh hx
    have hxb2 : -200000<=x/\x<=200000:=by omega
    have a4:=M4.out.box.cell 4;have a5:=M4.out.box.cell 5
    have p3:=B4.out.cell 3
    simp only [qgz,qgs] at a4 a5 p3
    have blt:=B4.out.lt
    have alt:=M4.out.box.lt
    clear hK4 hpA hpx hxb hx hbS3
    by_cases hfl:a.fl=[]
    ·have HN:Hid (meansTo q.X q.ps a but d (i+1)=(s.1,s.2++[x])):=qh (by rw [HST.out,meanStep_bare HG.out hfl,HX.out])
     have hf1:(a.fl == [])=true:=by simpa using hfl
     have hf2:a.fl.isEmpty=true:=by simpa using hfl
     have Hfl:=qh hfl
     have HO4:Hid (w4.ownsRow w.heap.size 3 1 (.slice lA lN lc) lN (s.2.map (.int .i64))):=qh (by rw [HLN.out];rw [HLN.out] at M4;exact M4.out.own)
     clear hfl d2 d5
     have hsz4:w.heap.size<=w4.heap.size:=W4.out.size
     go_wp2_with (at_builtin;(refine wpList_append_own_at _ rfl _ _ 27 rfl w.heap.size 3 i0 (.int .i64 0) 1 8 Tryz.underlying27 Hi.out Hz0.out Hz1.out Hz2.out rfl (by decide) _ _ _ rfl (HO4.out.alloc _) ⟨w4.heap.size,0,none⟩ 1 1 [.int .i64 x] rfl rfl ?d1a ?d2a ?d3a ?d4a ?d5a ?_))
     try (case d1a=>exact cell_one_new _ _ _)
     try (case d2a=>simp [Value.oneCell'])
     try (case d3a=>unfold maxLen;omega)
     try (case d4a=>omega)
     try (case d5a=>first | omega | (simp;omega))
     intro lv' w9 hown9 hg9 _ hat9
     have M9:=qh (Mst.push (x:=x) M4.out hqb (by (try dsimp only);rw [<- HLN.out];simpa using hown9) hg9 (by simpa using hat9))
     clear hown9 hg9 hat9
     go_wp2
     go_roundg (gk - 1)
     case measure=>have:=Hk.out;omega
     case rel=>exact ⟨i+1,mp',qh (by have:=Hk.out;omega),by go_num,qh (by have:=HMP.out;omega),qh (by rw [HN.out];exact M9.out)⟩
    have hf1:(a.fl == [])=false:=by simpa using hfl
    have hf2:a.fl.isEmpty=false:=by simpa using hfl
    have Hfl:=qh hfl
    clear hfl
    generalize hixv:ixOf a.fl p.fs=ix at Hix
    have HIX:=qh hixv
    clear hixv
    cases ix with
    | none =>
     have HN:Hid (meansTo q.X q.ps a but d (i+1)=s):=qh (by rw [HST.out,meanStep_none HG.out Hfl.out (by rw [HPK.out];exact HIX.out)])
     unfold ixI at Hix
     clear d2 d5
     go_wp2_with (first | (go_at_call 80;refine (Hix.out _ W4.out).mono ?_;rintro e w5 ⟨rfl,hw5⟩;have hw6:=hw5.symm;subst hw6;refine Hid.out ?_))
     refine qh ?_
     go_wp2
     go_roundg (gk - 1)
     case measure=>have:=Hk.out;omega
     case rel=>exact ⟨i+1,mp',qh (by have:=Hk.out;omega),by go_num,qh (by have:=HMP.out;omega),qh (by rw [HN.out];exact M4.out)⟩
    | some k =>
     unfold ixI at Hix
     have hkl:k<(pkOf q.ps i).fs.length:=by rw [HPK.out];exact ixOf_lt HIX.out
     have hip:i<q.ps.length:=by rw [HLen.out];exact hi
     obtain ⟨b4,o4,A5,n5,c5,hoA,hbS4,hoc,hor,hn5,hc5⟩:=K4.out.st.ons.at_ hi
     have hox:(onsX q.X q.ps).getD i []=(List.range (pkOf q.ps i).fs.length).map (q.X.on i):=by
      unfold onsX
      rw [qgd,qgm,List.getElem?_range hip];rfl
     rw [hox] at hor
     have hn5l:=hor.len
     simp only [List.length_map,List.length_range] at hn5l
     obtain ⟨b5,o5,rfl,hbS5,hfc⟩:=hor.at_ (k:=k) (by omega)
     have hfx:((List.range (pkOf q.ps i).fs.length).map (q.X.on i)).getD k 0=q.X.on i k:=by
      rw [qgd,qgm,List.getElem?_range hkl];rfl
     rw [hfx] at hfc
     rw [hoA] at d2
     have hb4:b4<w4.heap.size:=(K4.out.s1 _ hbS4).2.1
     have hb5:b5<w4.heap.size:=(K4.out.s1 _ hbS5).2.1
     have hkn:(k:Int)<n5:=by omega
     have hk0:(0:Int)<=(k:Int):=by omega
     have hob:=HIN1.out.1.on i k hip hkl
     have HASK:Hid (askD q.X a i k=if a.on=true then q.X.on i k else -q.X.on i k):=qh rfl
     obtain ⟨f0,hf0⟩:∃ f0,f0=q.X.on i k:=⟨_,rfl⟩
     rw [<- hf0] at hfc hob HASK
     have hfb : -200000<=f0/\f0<=200000:=by omega
     have hxw:(Lit.int .i64 x).wf=true:=wf_of (by omega) (by omega)
     have HO4:Hid (w4.ownsRow w.heap.size 3 1 (.slice lA lN lc) lN (s.2.map (.int .i64))):=qh (by rw [HLN.out];rw [HLN.out] at M4;exact M4.out.own)
     have hsz4:w.heap.size<=w4.heap.size:=W4.out.size
     have HOB:=qh hob
     clear hoA hbS4 hor hn5 hox hn5l hbS5 hfx hkl hip hf0 hob
     rcases Bool.eq_false_or_eq_true a.on with hon | hon
     rotate_left
     ·have HF:Hid (askD q.X a i k = -f0):=qh (by rw [HASK.out,hon,if_neg (by decide)])
      rw [hon] at a5
      clear hon
      have HFB:Hid ((-f0).natAbs<=s.1.vars):=qh (by have:=HOB.out;omega)
      go_upto_region 13 with (first | (go_at_call 80;refine (Hix.out _ W4.out).mono ?_;rintro e w5 ⟨rfl,hw5⟩;have hw6:=hw5.symm;subst hw6;refine Hid.out ?_))
      refine qh ?_
      -- the literal that is asked: (-f0)
      have hfw:(Lit.int .i64 (-f0)).wf=true:=wf_of (by omega) (by omega)
      have hl4:=M4.out.dk.look hxw hfw
      obtain ⟨v,hvv⟩:∃ v,v=s.1.pair x (-f0):=⟨_,rfl⟩
      rw [<- hvv] at hl4
      by_cases h0:v=0
      ·subst h0
       have HR:Hid (meansTo q.X q.ps a but d (i+1)=(setPair (bothD s.1 [x,(-f0)]).1 x (-f0) (bothD s.1 [x,(-f0)]).2,s.2++[(bothD s.1 [x,(-f0)]).2])):=qh (by
        rw [HST.out,meanStep_new HG.out Hfl.out (by rw [HPK.out];exact HIX.out) (by rw [<- HX.out,HF.out];exact hvv.symm),<- HX.out,HF.out])
       have hbin:=bothD_in HIN1.out.1 (l:=[x,(-f0)]) (fun y hy=>by
        simp only [List.mem_cons,List.not_mem_nil,or_false] at hy
        rcases hy with rfl | rfl
        ·rw [HX.out];exact HIN1.out.1.pick i (by rw [HLen.out];exact hi)
        exact HFB.out)
       have hrv:(bothD s.1 [x,(-f0)]).1.vars<=100001:=by
        have:(bothD s.1 [x,(-f0)]).1.vars=s.1.vars+1:=rfl
        omega
       have hrc:(bothD s.1 [x,(-f0)]).1.cls.length<=100000:=by
        have h:=HV2.out
        rw [HR.out] at h;exact h
       have HLI:Hid (LIn s.1 [x,(-f0)]):=qh (fun y hy=>by
        simp only [List.mem_cons,List.not_mem_nil,or_false] at hy
        rcases hy with rfl | rfl
        ·rw [HX.out];exact HIN1.out.1.pick i (by rw [HLen.out];exact hi)
        exact HFB.out)
       obtain ⟨r,hr⟩:∃ r,r=bothD s.1 [x,(-f0)]:=⟨_,rfl⟩
       have HRR:=qh hr
       rw [<- hr] at hbin hrv
       have hrb : -200000<=r.2/\r.2<=200000:=by have:=hbin.2;omega
       have hrw:(Lit.int .i64 r.2).wf=true:=wf_of (by omega) (by omega)
       have HRC':=qh hrc
       clear hvv hbin hrv hr hrc
       go_upto_region 14 with fail
       have hm4:=M4.out.dk.cell5
       have M5:=qh (M4.out.move (below_drewN (qbr _ w4) 1))
       refine wp_region_held_drew (S:=(fun w'=>w'.cell? ⟨q.b,5,none⟩=some (.map (some q.mb)))) (by kernel_rfl) (M4.out.dk.cell5) (fun hHeld=>?_)
       first|(refine tkA (v:=?_) held_at0 ?_ ?_;rotate_left;focus (intro _ h;(try dsimp only at h);go_simp;(try with_reducible rfl);done))|refine tkB held_at0 ?_
       (try simp only [Act.put,qsa,qsz,qss])
       first|(refine tkA (v:=?_) held_at1 ?_ ?_;rotate_left;focus (intro _ h;(try dsimp only at h);go_simp;(try with_reducible rfl);done))|refine tkB held_at1 ?_
       (try simp only [Act.put,qsa,qsz,qss])
       first|(refine tkA (v:=?_) held_at2 ?_ ?_;rotate_left;focus (intro _ h;(try dsimp only at h);go_simp;(try with_reducible rfl);done))|refine tkB held_at2 ?_
       (try simp only [Act.put,qsa,qsz,qss])
       first|(refine tkA (v:=?_) held_at3 ?_ ?_;rotate_left;focus (intro _ h;(try dsimp only at h);go_simp;(try with_reducible rfl);done))|refine tkB held_at3 ?_
       (try simp only [Act.put,qsa,qsz,qss])
       first|(refine tkA (v:=?_) held_at4 ?_ ?_;rotate_left;focus (intro _ h;(try dsimp only at h);go_simp;(try with_reducible rfl);done))|refine tkB held_at4 ?_
       (try simp only [Act.put,qsa,qsz,qss])
       first|(refine tkA (v:=?_) held_at5 ?_ ?_;rotate_left;focus (intro _ h;(try dsimp only at h);go_simp;(try with_reducible rfl);done))|refine tkB held_at5 ?_
       (try simp only [Act.put,qsa,qsz,qss])
       first|(refine tkA (v:=?_) held_at6 ?_ ?_;rotate_left;focus (intro _ h;(try dsimp only at h);go_simp;(try with_reducible rfl);done))|refine tkB held_at6 ?_
       (try simp only [Act.put,qsa,qsz,qss])
       first|(refine tkA (v:=?_) held_at7 ?_ ?_;rotate_left;focus (intro _ h;(try dsimp only at h);go_simp;(try with_reducible rfl);done))|refine tkB held_at7 ?_
       (try simp only [Act.put,qsa,qsz,qss])
       first|(refine tkA (v:=?_) held_at8 ?_ ?_;rotate_left;focus (intro _ h;(try dsimp only at h);go_simp;(try with_reducible rfl);done))|refine tkB held_at8 ?_
       (try simp only [Act.put,qsa,qsz,qss])
       first|(refine tkA (v:=?_) held_at9 ?_ ?_;rotate_left;focus (intro _ h;(try dsimp only at h);go_simp;(try with_reducible rfl);done))|refine tkB held_at9 ?_
       (try simp only [Act.put,qsa,qsz,qss])
       refine wpAnyH_ready (rs:=[10]) (by kernel_rfl) (by simp) ?_
       refine AllReadyH.cons held_at10 (fun K hK=>?_) AllReadyH.nil
       (try simp only [qsa,qsz,qss])
       go_simp
       have hal5:Below w4.drew.heap.size w4.drew (w4.drew.alloc (.cells #[.int .i64 x,.int .i64 (-f0)] 3)):=(qbr _ _).alloc (qr _) _
       have M6:=qh (M5.out.move hal5)
       have HW6:=qh (Whole.new w4.drew w4.heap.size 3 [.int .i64 x,.int .i64 (-f0)] rfl)
       have HB6:=qh (dboth_any q (fun j=>((E j\/j=w.heap.size)\/Cv (.slice lA lN lc) j)\/j=w4.heap.size) (fun j=>j=w4.heap.size) mp' s.1 (some ⟨w4.heap.size,0,none⟩) 2 2 [x,(-f0)] (w4.drew.alloc (.cells #[.int .i64 x,.int .i64 (-f0)] 3))
        ((M5.out.dk.aside hal5).mono fun j hj=>hj.imp id fun hj=>by subst hj;simp) (Whole.ints (S:=fun j=>j=w4.heap.size) (xs:=[x,(-f0)]) HW6.out rfl rfl) (fun j hj=>⟨by subst hj;simp,.inl (.inr hj)⟩) ⟨qr _,by unfold maxLen;omega⟩ (by omega) HLI.out hv1 HRC'.out)
       refine hK.out _ _ M6.out.dk.cell5 (fun hHeld=>?_)
       clear hK K hm4
       (try simp only [Act.put,qsa,qsz,qss])
       refine wpAnyH_ready (rs:=[11]) (by kernel_rfl) (by simp) ?_
       refine AllReadyH.cons held_at11 (fun K hK=>?_) AllReadyH.nil
       (try simp only [qsa,qsz,qss])
       go_simp
       go_at_call 79
       refine HB6.out.mono ?_
       rintro e w7 ⟨rfl,hd7,hf7⟩
       rw [<- HRR.out] at hd7 ⊢
       have M7:=qh (M6.out.turn (hd7.mono fun _ h=>.inl h) hf7 fun _ h=>.inl h)
       clear hd7 hf7 HB6 HW6 hal5
       refine hK.out _ _ M7.out.dk.cell5 (fun hHeld=>?_)
       clear hK K
       (try simp only [Act.put,qsa,qsz,qss])
       refine wpAnyH_ready (rs:=[12]) (by kernel_rfl) (by simp) ?_
       refine AllReadyH.cons held_at12 (fun K hK=>?_) AllReadyH.nil
       obtain ⟨w8,hput,hd8,hf8,hs8⟩:=M7.out.dk.put hxw hfw hrw (by have:=HMP.out;unfold maxLen;omega)
       have M8:=qh (M7.out.turn hd8 hf8 fun _ h=>h)
       clear hd8 hf8 hs8
       (try simp only [qsa,qsz,qss])
       go_simp
       refine hK.out _ _ M8.out.dk.cell5 (fun hHeld=>?_)
       clear hK K hput M5 M6 M7
       (try simp only [Act.put,qsa,qsz,qss])
       refine wpAnyH_done (by kernel_rfl) ?_ _
       obtain ⟨rd,rx⟩:=r
       dsimp only at hrb hrw
       have hl8:=M8.out.dk.look hxw hfw
       have hsp:(setPair rd x (-f0) rx).pair x (-f0)=rx:=by unfold setPair;simp
       rw [hsp] at hl8
       have d5:=M8.out.dk.cell5
       have dlt8:=M8.out.dk.lt
       have HN:Hid (meansTo q.X q.ps a but d (i+1)=(setPair rd x (-f0) rx,s.2++[rx])):=qh (by rw [HR.out,<- HRR.out])
       have HO8:Hid (w8.ownsRow w.heap.size 3 1 (.slice lA lN lc) lN (s.2.map (.int .i64))):=qh (by have h:=M8.out.own;rw [<- HLN.out] at h;exact h)
       have hsz8:w.heap.size<=w8.heap.size:=M8.out.fd.size
       clear hsp hl4
       go_wp2_with (at_builtin;(refine wpList_append_own_at _ rfl _ _ 27 rfl w.heap.size 3 i0 (.int .i64 0) 1 8 Tryz.underlying27 Hi.out Hz0.out Hz1.out Hz2.out rfl (by decide) _ _ _ rfl (HO8.out.alloc _) ⟨w8.heap.size,0,none⟩ 1 1 [.int .i64 rx] rfl rfl ?d1nr ?d2nr ?d3nr ?d4nr ?d5nr ?_))
       try (case d1nr=>exact cell_one_new _ _ _)
       try (case d2nr=>simp [Value.oneCell'])
       try (case d3nr=>unfold maxLen;omega)
       try (case d4nr=>omega)
       try (case d5nr=>first | omega | (simp;omega))
       intro lv' w9 hown9 hg9 _ hat9
       have M9:=qh (Mst.push (x:=rx) M8.out hqb (by (try dsimp only);rw [<- HLN.out];simpa using hown9) hg9 (by simpa using hat9))
       clear hown9 hg9 hat9
       go_wp2
       go_roundg (gk - 1)
       case measure=>have:=Hk.out;omega
       case rel=>exact ⟨i+1,(mp'+1),qh (by have:=Hk.out;omega),by go_num,qh (by have:=HMP.out;omega),qh (by rw [HN.out];exact M9.out)⟩
      have HN:Hid (meansTo q.X q.ps a but d (i+1)=(s.1,s.2++[v])):=qh (by
       rw [HST.out,meanStep_old HG.out Hfl.out (by rw [HPK.out];exact HIX.out) (by rw [<- HX.out,HF.out,<- hvv];exact h0),<- HX.out,HF.out,<- hvv])
      have hv0:(v == 0)=false:=by simpa using h0
      clear hvv h0
      go_wp2_with (at_builtin;(refine wpList_append_own_at _ rfl _ _ 27 rfl w.heap.size 3 i0 (.int .i64 0) 1 8 Tryz.underlying27 Hi.out Hz0.out Hz1.out Hz2.out rfl (by decide) _ _ _ rfl (HO4.out.alloc _) ⟨w4.heap.size,0,none⟩ 1 1 [.int .i64 v] rfl rfl ?d1no ?d2no ?d3no ?d4no ?d5no ?_))
      try (case d1no=>exact cell_one_new _ _ _)
      try (case d2no=>simp [Value.oneCell'])
      try (case d3no=>unfold maxLen;omega)
      try (case d4no=>omega)
      try (case d5no=>first | omega | (simp;omega))
      intro lv' w9 hown9 hg9 _ hat9
      have M9:=qh (Mst.push (x:=v) M4.out hqb (by (try dsimp only);rw [<- HLN.out];simpa using hown9) hg9 (by simpa using hat9))
      clear hown9 hg9 hat9
      go_wp2
      go_roundg (gk - 1)
      case measure=>have:=Hk.out;omega
      case rel=>exact ⟨i+1,mp',qh (by have:=Hk.out;omega),by go_num,qh (by have:=HMP.out;omega),qh (by rw [HN.out];exact M9.out)⟩
     have HF:Hid (askD q.X a i k=f0):=qh (by rw [HASK.out,if_pos hon])
     rw [hon] at a5
     clear hon
     have HFB:Hid (f0.natAbs<=s.1.vars):=HOB
     go_upto_region 13 with (first | (go_at_call 80;refine (Hix.out _ W4.out).mono ?_;rintro e w5 ⟨rfl,hw5⟩;have hw6:=hw5.symm;subst hw6;refine Hid.out ?_))
     refine qh ?_
     -- the literal that is asked: f0
     have hfw:(Lit.int .i64 f0).wf=true:=wf_of (by omega) (by omega)
     have hl4:=M4.out.dk.look hxw hfw
     obtain ⟨v,hvv⟩:∃ v,v=s.1.pair x f0:=⟨_,rfl⟩
     rw [<- hvv] at hl4
     by_cases h0:v=0
     ·subst h0
      have HR:Hid (meansTo q.X q.ps a but d (i+1)=(setPair (bothD s.1 [x,f0]).1 x f0 (bothD s.1 [x,f0]).2,s.2++[(bothD s.1 [x,f0]).2])):=qh (by
       rw [HST.out,meanStep_new HG.out Hfl.out (by rw [HPK.out];exact HIX.out) (by rw [<- HX.out,HF.out];exact hvv.symm),<- HX.out,HF.out])
      have hbin:=bothD_in HIN1.out.1 (l:=[x,f0]) (fun y hy=>by
       simp only [List.mem_cons,List.not_mem_nil,or_false] at hy
       rcases hy with rfl | rfl
       ·rw [HX.out];exact HIN1.out.1.pick i (by rw [HLen.out];exact hi)
       exact HFB.out)
      have hrv:(bothD s.1 [x,f0]).1.vars<=100001:=by
       have:(bothD s.1 [x,f0]).1.vars=s.1.vars+1:=rfl
       omega
      have hrc:(bothD s.1 [x,f0]).1.cls.length<=100000:=by
       have h:=HV2.out
       rw [HR.out] at h;exact h
      have HLI:Hid (LIn s.1 [x,f0]):=qh (fun y hy=>by
       simp only [List.mem_cons,List.not_mem_nil,or_false] at hy
       rcases hy with rfl | rfl
       ·rw [HX.out];exact HIN1.out.1.pick i (by rw [HLen.out];exact hi)
       exact HFB.out)
      obtain ⟨r,hr⟩:∃ r,r=bothD s.1 [x,f0]:=⟨_,rfl⟩
      have HRR:=qh hr
      rw [<- hr] at hbin hrv
      have hrb : -200000<=r.2/\r.2<=200000:=by have:=hbin.2;omega
      have hrw:(Lit.int .i64 r.2).wf=true:=wf_of (by omega) (by omega)
      have HRC':=qh hrc
      clear hvv hbin hrv hr hrc
      go_upto_region 14 with fail
      have hm4:=M4.out.dk.cell5
      have M5:=qh (M4.out.move (below_drewN (qbr _ w4) 1))
      refine wp_region_held_drew (S:=(fun w'=>w'.cell? ⟨q.b,5,none⟩=some (.map (some q.mb)))) (by kernel_rfl) (M4.out.dk.cell5) (fun hHeld=>?_)
      first|(refine tkA (v:=?_) held_at0 ?_ ?_;rotate_left;focus (intro _ h;(try dsimp only at h);go_simp;(try with_reducible rfl);done))|refine tkB held_at0 ?_
      (try simp only [Act.put,qsa,qsz,qss])
      first|(refine tkA (v:=?_) held_at1 ?_ ?_;rotate_left;focus (intro _ h;(try dsimp only at h);go_simp;(try with_reducible rfl);done))|refine tkB held_at1 ?_
      (try simp only [Act.put,qsa,qsz,qss])
      first|(refine tkA (v:=?_) held_at2 ?_ ?_;rotate_left;focus (intro _ h;(try dsimp only at h);go_simp;(try with_reducible rfl);done))|refine tkB held_at2 ?_
      (try simp only [Act.put,qsa,qsz,qss])
      first|(refine tkA (v:=?_) held_at3 ?_ ?_;rotate_left;focus (intro _ h;(try dsimp only at h);go_simp;(try with_reducible rfl);done))|refine tkB held_at3 ?_
      (try simp only [Act.put,qsa,qsz,qss])
      first|(refine tkA (v:=?_) held_at4 ?_ ?_;rotate_left;focus (intro _ h;(try dsimp only at h);go_simp;(try with_reducible rfl);done))|refine tkB held_at4 ?_
      (try simp only [Act.put,qsa,qsz,qss])
      first|(refine tkA (v:=?_) held_at5 ?_ ?_;rotate_left;focus (intro _ h;(try dsimp only at h);go_simp;(try with_reducible rfl);done))|refine tkB held_at5 ?_
      (try simp only [Act.put,qsa,qsz,qss])
      first|(refine tkA (v:=?_) held_at6 ?_ ?_;rotate_left;focus (intro _ h;(try dsimp only at h);go_simp;(try with_reducible rfl);done))|refine tkB held_at6 ?_
      (try simp only [Act.put,qsa,qsz,qss])
      first|(refine tkA (v:=?_) held_at7 ?_ ?_;rotate_left;focus (intro _ h;(try dsimp only at h);go_simp;(try with_reducible rfl);done))|refine tkB held_at7 ?_
      (try simp only [Act.put,qsa,qsz,qss])
      first|(refine tkA (v:=?_) held_at8 ?_ ?_;rotate_left;focus (intro _ h;(try dsimp only at h);go_simp;(try with_reducible rfl);done))|refine tkB held_at8 ?_
      (try simp only [Act.put,qsa,qsz,qss])
      first|(refine tkA (v:=?_) held_at9 ?_ ?_;rotate_left;focus (intro _ h;(try dsimp only at h);go_simp;(try with_reducible rfl);done))|refine tkB held_at9 ?_
      (try simp only [Act.put,qsa,qsz,qss])
      refine wpAnyH_ready (rs:=[10]) (by kernel_rfl) (by simp) ?_
      refine AllReadyH.cons held_at10 (fun K hK=>?_) AllReadyH.nil
      (try simp only [qsa,qsz,qss])
      go_simp
      have hal5:Below w4.drew.heap.size w4.drew (w4.drew.alloc (.cells #[.int .i64 x,.int .i64 f0] 3)):=(qbr _ _).alloc (qr _) _
      have M6:=qh (M5.out.move hal5)
      have HW6:=qh (Whole.new w4.drew w4.heap.size 3 [.int .i64 x,.int .i64 f0] rfl)
      have HB6:=qh (dboth_any q (fun j=>((E j\/j=w.heap.size)\/Cv (.slice lA lN lc) j)\/j=w4.heap.size) (fun j=>j=w4.heap.size) mp' s.1 (some ⟨w4.heap.size,0,none⟩) 2 2 [x,f0] (w4.drew.alloc (.cells #[.int .i64 x,.int .i64 f0] 3))
       ((M5.out.dk.aside hal5).mono fun j hj=>hj.imp id fun hj=>by subst hj;simp) (Whole.ints (S:=fun j=>j=w4.heap.size) (xs:=[x,f0]) HW6.out rfl rfl) (fun j hj=>⟨by subst hj;simp,.inl (.inr hj)⟩) ⟨qr _,by unfold maxLen;omega⟩ (by omega) HLI.out hv1 HRC'.out)
      refine hK.out _ _ M6.out.dk.cell5 (fun hHeld=>?_)
      clear hK K hm4
      (try simp only [Act.put,qsa,qsz,qss])
      refine wpAnyH_ready (rs:=[11]) (by kernel_rfl) (by simp) ?_
      refine AllReadyH.cons held_at11 (fun K hK=>?_) AllReadyH.nil
      (try simp only [qsa,qsz,qss])
      go_simp
      go_at_call 79
      refine HB6.out.mono ?_
      rintro e w7 ⟨rfl,hd7,hf7⟩
      rw [<- HRR.out] at hd7 ⊢
      have M7:=qh (M6.out.turn (hd7.mono fun _ h=>.inl h) hf7 fun _ h=>.inl h)
      clear hd7 hf7 HB6 HW6 hal5
      refine hK.out _ _ M7.out.dk.cell5 (fun hHeld=>?_)
      clear hK K
      (try simp only [Act.put,qsa,qsz,qss])
      refine wpAnyH_ready (rs:=[12]) (by kernel_rfl) (by simp) ?_
      refine AllReadyH.cons held_at12 (fun K hK=>?_) AllReadyH.nil
      obtain ⟨w8,hput,hd8,hf8,hs8⟩:=M7.out.dk.put hxw hfw hrw (by have:=HMP.out;unfold maxLen;omega)
      have M8:=qh (M7.out.turn hd8 hf8 fun _ h=>h)
      clear hd8 hf8 hs8
      (try simp only [qsa,qsz,qss])
      go_simp
      refine hK.out _ _ M8.out.dk.cell5 (fun hHeld=>?_)
      clear hK K hput M5 M6 M7
      (try simp only [Act.put,qsa,qsz,qss])
      refine wpAnyH_done (by kernel_rfl) ?_ _
      obtain ⟨rd,rx⟩:=r
      dsimp only at hrb hrw
      have hl8:=M8.out.dk.look hxw hfw
      have hsp:(setPair rd x f0 rx).pair x f0=rx:=by unfold setPair;simp
      rw [hsp] at hl8
      have d5:=M8.out.dk.cell5
      have dlt8:=M8.out.dk.lt
      have HN:Hid (meansTo q.X q.ps a but d (i+1)=(setPair rd x f0 rx,s.2++[rx])):=qh (by rw [HR.out,<- HRR.out])
      have HO8:Hid (w8.ownsRow w.heap.size 3 1 (.slice lA lN lc) lN (s.2.map (.int .i64))):=qh (by have h:=M8.out.own;rw [<- HLN.out] at h;exact h)
      have hsz8:w.heap.size<=w8.heap.size:=M8.out.fd.size
      clear hsp hl4
      go_wp2_with (at_builtin;(refine wpList_append_own_at _ rfl _ _ 27 rfl w.heap.size 3 i0 (.int .i64 0) 1 8 Tryz.underlying27 Hi.out Hz0.out Hz1.out Hz2.out rfl (by decide) _ _ _ rfl (HO8.out.alloc _) ⟨w8.heap.size,0,none⟩ 1 1 [.int .i64 rx] rfl rfl ?d1pr ?d2pr ?d3pr ?d4pr ?d5pr ?_))
      try (case d1pr=>exact cell_one_new _ _ _)
      try (case d2pr=>simp [Value.oneCell'])
      try (case d3pr=>unfold maxLen;omega)
      try (case d4pr=>omega)
      try (case d5pr=>first | omega | (simp;omega))
      intro lv' w9 hown9 hg9 _ hat9
      have M9:=qh (Mst.push (x:=rx) M8.out hqb (by (try dsimp only);rw [<- HLN.out];simpa using hown9) hg9 (by simpa using hat9))
      clear hown9 hg9 hat9
      go_wp2
      go_roundg (gk - 1)
      case measure=>have:=Hk.out;omega
      case rel=>exact ⟨i+1,(mp'+1),qh (by have:=Hk.out;omega),by go_num,qh (by have:=HMP.out;omega),qh (by rw [HN.out];exact M9.out)⟩
     have HN:Hid (meansTo q.X q.ps a but d (i+1)=(s.1,s.2++[v])):=qh (by
      rw [HST.out,meanStep_old HG.out Hfl.out (by rw [HPK.out];exact HIX.out) (by rw [<- HX.out,HF.out,<- hvv];exact h0),<- HX.out,HF.out,<- hvv])
     have hv0:(v == 0)=false:=by simpa using h0
     clear hvv h0
     go_wp2_with (at_builtin;(refine wpList_append_own_at _ rfl _ _ 27 rfl w.heap.size 3 i0 (.int .i64 0) 1 8 Tryz.underlying27 Hi.out Hz0.out Hz1.out Hz2.out rfl (by decide) _ _ _ rfl (HO4.out.alloc _) ⟨w4.heap.size,0,none⟩ 1 1 [.int .i64 v] rfl rfl ?d1po ?d2po ?d3po ?d4po ?d5po ?_))
     try (case d1po=>exact cell_one_new _ _ _)
     try (case d2po=>simp [Value.oneCell'])
     try (case d3po=>unfold maxLen;omega)
     try (case d4po=>omega)
     try (case d5po=>first | omega | (simp;omega))
     intro lv' w9 hown9 hg9 _ hat9
     have M9:=qh (Mst.push (x:=v) M4.out hqb (by (try dsimp only);rw [<- HLN.out];simpa using hown9) hg9 (by simpa using hat9))
     clear hown9 hg9 hat9
     go_wp2
     go_roundg (gk - 1)
     case measure=>have:=Hk.out;omega
     case rel=>exact ⟨i+1,mp',qh (by have:=Hk.out;omega),by go_num,qh (by have:=HMP.out;omega),qh (by rw [HN.out];exact M9.out)⟩
   have hnm2:(p.nm == a.nm)=false:=by simpa using hnm
   have HN:Hid (meansTo q.X q.ps a but d (i+1)=s):=qh (by rw [HST.out];unfold meanStep;rw [if_pos (.inr (.inl (by rw [HPK.out];exact hnm)))])
   clear hnm
   go_wp2
   go_roundg (gk - 1)
   case measure=>have:=Hk.out;omega
   case rel=>exact ⟨i+1,mp',qh (by have:=Hk.out;omega),by go_num,qh (by have:=HMP.out;omega),qh (by rw [HN.out];exact M1.out)⟩
  obtain rfl:i=q.n:=by have:=Hk.out;omega
  have he:meansTo q.X q.ps a but d q.n=meansD q.X q.ps a but d:=by unfold meansD;rw [HLen.out]
  rw [he] at HM
  obtain ⟨lA,lc,hlv,hl1,hl2,hrow⟩:=own_formK HM.out.own
  rw [Nat.mul_one] at hrow
  subst hlv
  have HP:Hid (MeansP q E mp (meansD q.X q.ps a but d) w (.returned (.slice lA (meansD q.X q.ps a but d).2.length lc)) wr):=qh
   ⟨lA,lc,mp',rfl,hl1,hl2,hrow,HM.out.dk.mono fun j hj=>hj.imp .inl id,HM.out.fd,fun j hj he=>HM.out.ne j hj (.inl he),HMP.out⟩
  clear hst0 hle hlei he hrow hl1 hl2
  generalize (meansD q.X q.ps a but d).2.length=LL at HP HM ⊢
  go_wp2
  go_ret
  exact HP.out
end
section
open Go.RowKit Qm
def ixB {α:Type} (p:α->Bool) (xs:List α):Int:=match xs.findIdx? p with | some i=>(i:Int) | none=>-1
theorem ixB_hit {α:Type} {p:α->Bool} {xs:List α} {k:Nat} {x:α} (hk:xs[k]? = some x) (hp:p x=true) (hn:(xs.take k).any p=false):ixB p xs=k:=by
 obtain ⟨hk',hx⟩:=List.getElem?_eq_some_iff.1 hk
 have e:xs.take k++x :: xs.drop (k+1)=xs:=by
  rw [<- hx,List.getElem_cons_drop,List.take_append_drop]
 have h1:(xs.take k).findIdx? p=none:=by
  rw [List.findIdx?_eq_none_iff];intro y hy;exact by simpa using List.any_eq_false.1 hn y hy
 have h2:(xs.take k++x :: xs.drop (k+1)).findIdx? p=some k:=by
  have hl:(xs.take k).length=k:=by rw [List.length_take];omega
  rw [List.findIdx?_append,h1,List.findIdx?_cons,hp,hl];simp
 rw [e] at h2
 unfold ixB
 rw [h2]
theorem ixB_next {α:Type} {p:α->Bool} {xs:List α} {k:Nat} {x:α} (hk:xs[k]? = some x) (hp:p x=false) (hn:(xs.take k).any p=false):(xs.take (k+1)).any p=false:=by
 obtain ⟨hk',rfl⟩:=List.getElem?_eq_some_iff.1 hk
 clear hk
 rw [List.take_succ_eq_append_getElem hk',List.any_append,hn];simp [hp]
theorem ixB_none {α:Type} {p:α->Bool} {xs:List α} (h:xs.any p=false):ixB p xs = -1:=by
 have h1:xs.findIdx? p=none:=by
  rw [List.findIdx?_eq_none_iff];intro y hy;exact by simpa using List.any_eq_false.1 h y hy
 unfold ixB;rw [h1]
theorem ixB_any {α:Type} (p:α->Bool) (xs:List α):decide ((0:Int)<=ixB p xs)=xs.any p:=by
 cases h:xs.any p
 ·rw [ixB_none h];rfl
 unfold ixB
 cases h1:xs.findIdx? p with
 | none =>
  rw [List.findIdx?_eq_none_iff] at h1
  obtain ⟨x,hx,hp⟩:=List.any_eq_true.1 h
  rw [h1 x hx] at hp;cases hp
 | some i=>simp
def AsksB {α:Type} (P:Program) (w:World) (F:FuncId) (caps:Array Value) (R:List Value->α->Prop) (xs:List α) (p:α->Bool):Prop:=
 (∀ (args:Array Value) (W:World),(callFunc F args).run P W=.ok (.enter F args) W) /\
  ∀ x∈xs,∀ (cx:List Value) (W:World),Below w.heap.size w W->R cx x->Calls P F (#[.agg cx.toArray]++caps) W fun e w'=>e=.returned (.bool (p x))/\Below W.heap.size W w'
end
section
open Go.RowKit Qm
def ShapeC_M (x:List Value):Prop:=∃ (x0:Int) (x1a:Option Addr) (x1n x1c:Nat),x=[.int .i64 x0,.slice x1a x1n x1c]
theorem indexF_M {α:Type} (R:List Value->α->Prop) (p:α->Bool) (A:Option Addr) (n c:Nat) (xs:List α) (F:FuncId) (caps:Array Value) (w:World) (S:Nat->Prop) (hK:RSeq 2 R w S A n xs) (hS:∀ k,S k->k<w.heap.size) (hn:n<=maxLen) (hF:AsksB Tryz.prog w F caps R xs p) (hsh:∀ x y,R x y->ShapeC_M x) :
  Calls Tryz.prog 49 #[.slice A n c,.func (.func F) #[] caps] w fun e w'=>e=.returned (.int .i64 (ixB p xs))/\Below w.heap.size w w':=by
 unfold maxLen at hn
 have HK:=qh hK;have HS:=qh hS;have HF:=qh hF;clear hK hS hF
 have Hlen:=qh HK.out.len
 go_enter Tryz.func49,Tryz.ntmps49
 go_wp2
 go_loopg [8] n (fun g iv wr=>∃ (j:Nat),Hid (j+g=n)/\iv=.int .i64 j/\Hid ((xs.take j).any p=false)/\Below w.heap.size w wr)
 case atStart=>exact ⟨0,qh (Nat.zero_add _),rfl,qh rfl,qbr _ _⟩
 case round =>
  obtain ⟨j,Hj,rfl,Hcl,hb⟩:=hrel
  have HBr:=qh hb;clear hb
  by_cases hj:j<n
  ·obtain ⟨b,o,x,y,rfl,hb,hy,hxy,hxl,hcell⟩:=(HK.out.keep (w':=wr) (fun p hp=>HBr.out.cell (HS.out _ hp)) fun _ _ h=>h).at_ hj (by decide)
   have Hhit:=qh (fun h=>ixB_hit hy h Hcl.out)
   have Hmiss:=qh (fun h=>ixB_next hy h Hcl.out)
   have hmem:=List.mem_of_getElem? hy
   obtain ⟨x0,x1a,x1n,x1c,rfl⟩:=hsh _ _ hxy
   have g0:=hcell 0 (by omega);have g1:=hcell 1 (by omega)
   simp only [qgz,qgs,Nat.add_zero] at g0 g1
   clear hcell hy
   have hcall:=HF.out.2 _ hmem _ _ HBr.out hxy
   have henter:=HF.out.1
   clear hxy hxl hmem
   generalize p y=q at hcall Hhit Hmiss
   have Hcall:=qh hcall;clear hcall
   cases q
   ·have Hm:=qh (Hmiss.out rfl)
    go_wp2_with fail
    refine Hcall.out.mono ?_
    rintro e w' ⟨rfl,hb'⟩
    have HB3:=qh (HBr.out.trans (hb'.mono HBr.out.size));clear hb'
    go_wp2_with fail
    go_roundg (gk - 1)
    case measure=>have:=Hj.out;omega
    case rel=>exact ⟨j+1,qh (by have:=Hj.out;omega),by go_num,Hm,HB3.out⟩
   have Hh:=qh (Hhit.out rfl)
   go_wp2_with fail
   refine Hcall.out.mono ?_
   rintro e w' ⟨rfl,hb'⟩
   have HB3:=qh (HBr.out.trans (hb'.mono HBr.out.size));clear hb'
   go_wp2_with fail
   go_ret
   exact ⟨ret_int Hh.out.symm,HB3.out⟩
  go_wp2_with fail
  go_ret
  refine ⟨ret_int ?_,HBr.out⟩
  have h1:=Hcl.out
  rw [List.take_of_length_le (by have:=Hlen.out;omega)] at h1
  exact (ixB_none h1).symm
theorem containsF_M {α:Type} (R:List Value->α->Prop) (p:α->Bool) (A:Option Addr) (n c:Nat) (xs:List α) (F:FuncId) (caps:Array Value) (w:World) (S:Nat->Prop) (hK:RSeq 2 R w S A n xs) (hS:∀ k,S k->k<w.heap.size) (hn:n<=maxLen) (hF:AsksB Tryz.prog w F caps R xs p) (hsh:∀ x y,R x y->ShapeC_M x) :
  Calls Tryz.prog 84 #[.slice A n c,.func (.func F) #[] caps] w fun e w'=>e=.returned (.bool (xs.any p))/\Below w.heap.size w w':=by
 have Hcall:=qh (indexF_M R p A n c xs F caps w S hK hS hn hF hsh)
 have Hi:=qh (ixB_any p xs)
 clear hK hS hF
 generalize ixB p xs=i at Hcall Hi
 go_enter Tryz.func84,Tryz.ntmps84
 go_wp2_with fail
 refine Hcall.out.mono ?_
 rintro e w' ⟨rfl,hb⟩
 have HB:=qh hb;clear hb
 go_wp2_with fail
 go_ret
 exact ⟨ret_bool Hi.out,HB.out⟩
end
section
open Go.RowKit Qm
end
section
open Go.RowKit Qm
structure Cx (ps:List Pk) (l:List Mem) (S:Nat->Prop) (A:Option Addr) (n c:Nat) (B:Option Addr) (q d:Nat) (w:World):Prop where
 t:RTree w S A n ps
 s:RSet w S B q l
 nc:n<=c
 cm:c<=maxLen
 n8:n<=8
 qd:q<=d
 dm:d<=maxLen
 ok:∀ m∈l,MemOk ps m
 lt:∀ k,S k->k<w.heap.size
section
variable {ps : List Pk} {l : List Mem} {S : Nat → Prop} {A B : Option Addr} {n c q d : Nat} {w w' : World}
theorem Cx.under (h:Cx ps l S A n c B q d w) (hb:Below w.heap.size w w'):Cx ps l S A n c B q d w':=
 ⟨h.t.under hb h.lt,h.s.under hb h.lt,h.nc,h.cm,h.n8,h.qd,h.dm,h.ok,fun k hk=>ql (h.lt k hk) hb.size⟩
end
theorem shape_mem {w:World} {S:Nat->Prop} {x:List Value} {m:Mem} (h:RMem w S x m):ShapeC_M x:=by
 obtain ⟨A,n,c,rfl,_⟩:=h
 exact ⟨_,_,_,_,rfl⟩
end
end Go.Proofs.YtedbhlgjcnnknaaGreatDoor
