/- Parts. -/
import Derived.Test.YtedbhlgjcnnknaaGreatDoorQ9
import Derived.Lib.AppendIntMem
import Derived.WalkLawsBesides
import Derived.Sort.Walk0
import Derived.Lib.OthersKept
import Derived.Lib.DecodeN
import Derived.Laws.Runes
import Derived.WalkMore
import Derived.Lib.TrimUEq
import Derived.LoopN
set_option linter.unusedVariables false
set_option linter.unusedSimpArgs false
set_option linter.unusedSectionVars false
set_option maxRecDepth 100000
set_option maxHeartbeats 12800000
namespace Go.Proofs.YtedbhlgjcnnknaaGreatDoor
section
open Go.RowKit Qm
theorem own_made1 {w:World} {base:Nat} {e:TypeId} {x:Value} (hb:base<=w.heap.size):(w.alloc (.cells #[x] e)).ownsRow base e 1 (.slice (some ⟨w.heap.size,0,none⟩) 1 1) 1 [x]:=
 ⟨by simp,.inr ⟨w.heap.size,1,#[x],rfl,hb,heap_alloc_new w _,qr _,by unfold maxLen;omega,rfl,by simp⟩⟩
section
variable {q : Dp} {E Sc : Nat → Prop} {mp : Nat} {d : Dk} {w w1 : World}
theorem Desk.vars (h:Desk q E mp d w) (v:Nat):Desk q E mp { d with vars:=v } (w.setCell ⟨q.b,3,none⟩ (.int .i64 (v:Int)))/\Fd q E w (w.setCell ⟨q.b,3,none⟩ (.int .i64 (v:Int))):=by
 obtain ⟨P,hs,h⟩:=h
 have F:Far (fun i=>i=q.b) w (w.setCell ⟨q.b,3,none⟩ (.int .i64 (v:Int))):=Far.set_ (D:=fun i=>i=q.b) rfl 3 _
 have hsz:∀ k,OwnD q.base q.b q.mb P E w.heap.size k->OwnD q.base q.b q.mb P E (w.setCell ⟨q.b,3,none⟩ (.int .i64 (v:Int))).heap.size k:=fun k hk=>hk.mono (fun _ h _=>h) F.size
 refine ⟨⟨P,hs,h.blk.set_ 3 _,F.own h.own fun g hg e=>h.pb (by rw [hg,e]),(F.heads' h.heads fun k hk=>⟨hk.2.1,hk.2.2.1⟩).more hsz,h.pair.block (F.block _ h.pair.lt fun e=>h.ne e.symm),h.st.keep fun p hp=>?_,h.s0,fun k hk=>hsz k (h.s1 k hk),h.bb,h.bm,h.bp,fun k hk=>⟨(h.e k hk).1,ql (h.e k hk).2 F.size⟩,h.caps⟩,F.mono fun i x=>by rw [x];exact h.bb⟩
 rcases hp with hp | hp
 ·have h0:=h.s0 _ hp
  have:=h.bb.1
  exact F.cell (ql h0 h.base_) fun e=>by omega
 exact F.cell (h.s1 _ hp).2.1 (h.s1 _ hp).2.2.1
end
def bothTo (d:Dk) (xs:List Int) (k:Nat):Dk:={ d with vars:=d.vars+1,cls:=d.cls++(xs.take k).map fun n=>[-((d.vars:Int)+1),n] }
def negs (v:Int) (xs:List Int) (k:Nat):List Int:=v :: (xs.take k).map Neg.neg
theorem bothTo_succ {d:Dk} {xs:List Int} {k:Nat} {x:Int} (h:k<xs.length) (hx:xs.getD k 0=x):addD (bothTo d xs k) [-((d.vars:Int)+1),x]=bothTo d xs (k+1):=by
 unfold addD bothTo
 rw [List.take_succ_eq_append_getElem h,List.map_append]
 rw [qgd,qge h] at hx
 simp only [Option.getD_some] at hx
 simp [hx]
theorem negs_succ {v:Int} {xs:List Int} {k:Nat} {x:Int} (h:k<xs.length) (hx:xs.getD k 0=x):negs v xs (k+1)=negs v xs k++[-x]:=by
 unfold negs
 rw [List.take_succ_eq_append_getElem h,List.map_append]
 rw [qgd,qge h] at hx
 simp only [Option.getD_some] at hx
 simp [hx]
theorem bothTo_all {d:Dk} {xs:List Int} (h:xs.length≠1):addD (bothTo d xs xs.length) (negs ((d.vars:Int)+1) xs xs.length)=(bothD d xs).1/\(bothD d xs).2=(d.vars:Int)+1:=by
 rcases bothD_cases d xs with ⟨x,rfl,_⟩ | ⟨_,e⟩
 ·simp at h
 rw [e]
 unfold addD bothTo negs gate
 simp
theorem bothTo_len {d:Dk} {xs:List Int} {k:Nat} (h:xs.length≠1):(bothTo d xs k).cls.length<=(bothD d xs).1.cls.length:=by
 rcases bothD_cases d xs with ⟨x,rfl,_⟩ | ⟨_,e⟩
 ·simp at h
 rw [e]
 unfold bothTo
 simp only [List.length_append,List.length_map,List.length_take,gate_len]
 omega
theorem int_infoE:(Tryz.prog.info? 3).map (fun i=>(i.zero,i.size,i.bytes))=some (some (.int .i64 0),1,8):=by kernel_rfl
theorem dboth_any (q:Dp) (E Sl:Nat->Prop) (mp:Nat) (d:Dk) (A':Option Addr) (n' c':Nat) (xs:List Int) (w:World) (hD:Desk q E mp d w) (hr:RInts w Sl A' n' xs) (hSl:∀ k,Sl k->k<w.heap.size/\(E k\/k<q.base)) (hn:n'<=c'/\c'<=maxLen) (h1k:n'<=1000) (hl:LIn d xs) (hv:d.vars<=100000) (hc:(bothD d xs).1.cls.length<=100000) :
  Calls Tryz.prog 79 #[.pointer (some ⟨q.b,0,none⟩),.slice A' n' c'] w fun e w'=>e=.returned (.int .i64 (bothD d xs).2)/\Desk q E mp (bothD d xs).1 w'/\Fd q E w w':=by
 have hlen:=hr.len
 by_cases h1:n'=1
 ·subst h1
  obtain ⟨b2,o2,rfl,hb2,hc2⟩:=hr.at_ (k:=0) (by omega)
  obtain ⟨x,rfl⟩:∃ x,xs=[x]:=by
   match xs,hlen with
   | [x],_=>exact ⟨x,rfl⟩
  simp only [List.getD_cons_zero,Nat.add_zero] at hc2
  have HD:=qh hD
  clear hD hr hSl hl hc hlen hv
  go_enter Tryz.func79,Tryz.ntmps79
  go_wp2
  go_ret
  exact ⟨rfl,HD.out,Fd.refl _ _ _⟩
 have hx1:xs.length≠1:=by omega
 have HX1:=qh hx1
 have hn1:(n':Int)≠1:=by omega
 have hn2:((n':Int) == 1)=false:=by simpa using hn1
 obtain ⟨i0,hi0,hz0,hz1,hz2⟩:=info_parts int_infoE
 have Hi:=qh hi0;have Hz0:=qh hz0;have Hz1:=qh hz1;have Hz2:=qh hz2
 have HD:=qh hD;have HR:=qh hr;have HSl:=qh hSl;have HL:=qh hl;have HC:=qh hc;have HLen:=qh hlen;have Hn:=qh hn
 have hqb:=hD.base_
 obtain ⟨v,hvv⟩:∃ v:Nat,v=d.vars:=⟨_,rfl⟩
 have HV:=qh hvv
 obtain ⟨P,hs,H0⟩:=hD
 have c3:=H0.blk.cell 3
 have f3:=H0.blk.free 3
 have hbw:=H0.blk.lt
 simp only [qgz,qgs] at c3
 rw [<- hvv] at c3 hv
 have hwv:(Lit.int .i64 ((v:Int)+1)).wf=true:=wf_of (by omega) (by omega)
 obtain ⟨hD1,hF1⟩:=HD.out.vars (v+1)
 have HD1:=qh hD1;have HF1:=qh hF1
 clear hi0 hz0 hz1 hz2 H0 hr hSl hl hc hn hx1 hlen hn1 hvv hD1 hF1 h1
 go_enter Tryz.func79,Tryz.ntmps79
 go_wp2
 have hown0:((w.setCell ⟨q.b,3,none⟩ (.int .i64 ((v:Int)+1))).alloc (.cells #[.int .i64 ((v:Int)+1)] 3)).ownsRow w.heap.size 3 1 (.slice (some ⟨w.heap.size,0,none⟩) 1 1) 1 [.int .i64 ((v:Int)+1)]:=by
  have:=own_made1 (w:=w.setCell ⟨q.b,3,none⟩ (.int .i64 ((v:Int)+1))) (base:=w.heap.size) (e:=3) (x:=.int .i64 ((v:Int)+1)) (by simp)
  simpa using this
 have hal0:Below (w.setCell ⟨q.b,3,none⟩ (.int .i64 ((v:Int)+1))).heap.size (w.setCell ⟨q.b,3,none⟩ (.int .i64 ((v:Int)+1))) ((w.setCell ⟨q.b,3,none⟩ (.int .i64 ((v:Int)+1))).alloc (.cells #[.int .i64 ((v:Int)+1)] 3)):=(qbr _ _).alloc (qr _) _
 have HO0:=qh hown0
 have HDK0:Hid (Desk q (fun j=>E j\/Cv (.slice (some ⟨w.heap.size,0,none⟩) 1 1) j) mp (bothTo d xs 0) ((w.setCell ⟨q.b,3,none⟩ (.int .i64 ((v:Int)+1))).alloc (.cells #[.int .i64 ((v:Int)+1)] 3))):=qh (by
  have h1:=HD1.out.aside hal0
  have e1:bothTo d xs 0={ d with vars:=v+1 } := by unfold bothTo;rw [HV.out];simp
  rw [e1]
  refine h1.mono fun i hi=>hi.imp id fun hi=>?_
  unfold Cv at hi
  simp only [Value.ownBlock] at hi
  injection hi with hi
  subst hi
  simp)
 have HF0:Hid (Fd q E w ((w.setCell ⟨q.b,3,none⟩ (.int .i64 ((v:Int)+1))).alloc (.cells #[.int .i64 ((v:Int)+1)] 3))):=qh (HF1.out.trans (Fd.of_below q E hal0) fun _ _ h=>h)
 have HN0:Hid (∀ j,Cv (.slice (some ⟨w.heap.size,0,none⟩) 1 1) j->¬ E j):=qh fun j hj he=>by
  have:=(HD.out.e j he).2
  unfold Cv at hj
  simp only [Value.ownBlock] at hj
  injection hj with hj
  omega
 clear hown0 hal0 c3 f3 hbw
 generalize (w.setCell ⟨q.b,3,none⟩ (.int .i64 ((v:Int)+1))).alloc (.cells #[.int .i64 ((v:Int)+1)] 3)=w0 at *
 go_loopg [6,33] n' (fun g cv iv wr=>∃ (k:Nat),Hid (k+g=n')/\iv=.int .i64 k/\Hid (wr.ownsRow w.heap.size 3 1 cv (k+1) ((negs ((v:Int)+1) xs k).map (.int .i64)))/\Hid (Desk q (fun j=>E j\/Cv cv j) mp (bothTo d xs k) wr)/\Hid (Fd q E w wr)/\Hid (∀ j,Cv cv j->¬ E j))
 case atStart=>exact ⟨0,qh (Nat.zero_add _),rfl,HO0,HDK0,HF0,HN0⟩
 case round =>
  obtain ⟨k,Hk,rfl,HO,HK,HFr,HN⟩:=hrel
  obtain ⟨CA,cc,rfl,hc1,hc2,hcrow⟩:=own_form HO.out
  by_cases hk:k<n'
  ·have hsz:=HFr.out.size
   obtain ⟨b2,o2,rfl,hb2,hcell⟩:=(HFr.out.ints HR.out HSl.out).at_ hk
   have hlk:k<xs.length:=by rw [HLen.out];exact hk
   have hmem:xs.getD k 0∈xs:=by rw [qgd,qge hlk];exact List.getElem_mem hlk
   have hxb:=HL.out _ hmem
   generalize hx:xs.getD k 0=x at hcell hxb
   have hb3:b2<wr.heap.size:=ql (HSl.out _ hb2).1 hsz
   have hv1:v=d.vars:=HV.out
   have hxb2 : -200000<=x/\x<=200000:=by omega
   have Hst:=qh (bothTo_succ (d:=d) hlk hx)
   have Hng:=qh (negs_succ (v:=(v:Int)+1) hlk hx)
   have hal:Below wr.heap.size wr (wr.alloc (.cells #[.int .i64 (-((v:Int)+1)),.int .i64 x] 3)):=(qbr _ wr).alloc (qr _) _
   have HW:=qh (Whole.new wr wr.heap.size 3 [.int .i64 (-((v:Int)+1)),.int .i64 x] rfl)
   have HA:=qh (dadd_any q (fun j=>E j\/Cv (.slice CA (k+1) cc) j) (fun j=>j=wr.heap.size) mp (bothTo d xs k) (some ⟨wr.heap.size,0,none⟩) 2 2 [-((v:Int)+1),x] (wr.alloc (.cells #[.int .i64 (-((v:Int)+1)),.int .i64 x] 3))
    ((HK.out.aside hal).mono fun i hi=>hi.imp id fun hi=>by subst hi;simp) (Whole.ints (S:=fun j=>j=wr.heap.size) (xs:=[-((v:Int)+1),x]) HW.out rfl rfl) ⟨qr _,by unfold maxLen;omega⟩ (fun j hj he=>by subst hj;have:=(HK.out.e _ he).2;omega) (qlt (bothTo_len HX1.out) HC.out))
   clear hx hmem hlk hv1 hxb HD1 HF1 HDK0 HF0 HO0 HN0
   go_wp2_with (first | (go_at_call 45;refine HA.out.mono ?_;rintro e w3 ⟨rfl,hd3,hf3⟩;refine Hid.out ?_))
   refine qh ?_
   have HO3:=qh (hf3.own (HO.out.alloc _) fun g hg=>.inl (.inr hg))
   have HD3:=qh hd3
   have HF3:Hid (Fd q E w w3):=qh ((HFr.out.trans (Fd.of_below q E hal) fun _ _ h=>h).trans hf3 fun i _ h=>.inl (.inl h))
   have hb0:=HF3.out.size
   clear hd3 hf3 HA HW
   go_wp2_with (at_builtin;refine wpList_append_own_at _ rfl _ _ 117 rfl w.heap.size 3 i0 (.int .i64 0) 1 8 Tryz.underlying117 Hi.out Hz0.out Hz1.out Hz2.out rfl (by decide) _ _ _ rfl (HO3.out.alloc _) ⟨w3.heap.size,0,none⟩ 1 1 [.int .i64 (-x)] rfl rfl ?d1 ?d2 ?d3 ?d4 ?d5 ?_)
   case d1=>exact cell_one_new _ _ _
   case d2=>simp [Value.oneCell']
   case d3=>unfold maxLen;omega
   case d4=>omega
   case d5=>simp;omega
   intro cv' w4 hown4 hg4 _ hat4
   have HR4:=qh (Desk.reown HD3.out HO3.out hown4 hqb hg4 (by simpa using hat4) HN.out)
   have HO4:Hid (w4.ownsRow w.heap.size 3 1 cv' (k+1+1) ((negs ((v:Int)+1) xs (k+1)).map (.int .i64))):=qh (by rw [Hng.out,List.map_append];exact hown4)
   clear hown4 hg4 hat4
   go_wp2
   go_roundg (gk - 1)
   case measure=>have:=Hk.out;omega
   case rel=>exact ⟨k+1,qh (by have:=Hk.out;omega),by go_num,HO4,qh (by rw [<- Hst.out,<- HV.out];exact HR4.out.1),qh (HF3.out.trans HR4.out.2.1 fun _ _ h=>h),qh HR4.out.2.2⟩
  obtain rfl:n'=k:=by have:=Hk.out;omega
  obtain ⟨Cx,cx,hcv,hcx1,hcx2,hrow⟩:=own_formK HO.out
  rw [Nat.mul_one] at hrow
  obtain ⟨rfl,rfl⟩:CA=Cx/\cc=cx:=by injection hcv with h1 h2 h3;exact ⟨h1,h3⟩
  have HA:=qh (dadd_any q E (Cv (.slice CA (n'+1) cc)) mp (bothTo d xs n') CA (n'+1) cc (negs ((v:Int)+1) xs n') wr HK.out hrow ⟨hc1,hc2⟩ HN.out (qlt (bothTo_len HX1.out) HC.out))
  have HE:Hid (addD (bothTo d xs n') (negs ((v:Int)+1) xs n')=(bothD d xs).1/\(bothD d xs).2=(v:Int)+1):=qh (by
   have:=bothTo_all (d:=d) HX1.out
   rw [HLen.out,<- HV.out] at this;exact this)
  clear hcv hrow HD1 HF1 HDK0 HF0 HO0 HN0
  go_wp2_with (first | (go_at_call 45;refine HA.out.mono ?_;rintro e w3 ⟨rfl,hd3,hf3⟩;refine Hid.out ?_))
  refine qh ?_
  have HD3:=qh hd3
  have HF3:Hid (Fd q E w w3):=qh (HFr.out.trans hf3 fun i _ h=>.inl h)
  clear hd3 hf3 HA
  go_wp2
  go_ret
  exact ⟨by rw [HE.out.2];rfl,by rw [<- HE.out.1];exact HD3.out,HF3.out⟩
end
section
open Go.RowKit Qm
theorem negL_succ {xs:List Int} {k:Nat} {x:Int} (h:k<xs.length) (hx:xs.getD k 0=x):(xs.take (k+1)).map Neg.neg=(xs.take k).map Neg.neg++[-x]:=by
 rw [List.take_succ_eq_append_getElem h,List.map_append]
 rw [qgd,qge h] at hx
 simp only [Option.getD_some] at hx
 simp [hx]
theorem done_any (q:Dp) (E Sl:Nat->Prop) (mp:Nat) (d:Dk) (A':Option Addr) (n' c':Nat) (xs:List Int) (w:World) (hD:Desk q E mp d w) (hr:RInts w Sl A' n' xs) (hSl:∀ k,Sl k->k<w.heap.size/\(E k\/k<q.base)) (hn:n'<=c'/\c'<=maxLen) (h1k:n'<=1000) (hl:LIn d xs) (hv:d.vars<=100000) (hc:(oneD d xs).1.cls.length<=100000) :
  Calls Tryz.prog 78 #[.pointer (some ⟨q.b,0,none⟩),.slice A' n' c'] w fun e w'=>e=.returned (.int .i64 (oneD d xs).2)/\Desk q E mp (oneD d xs).1 w'/\Fd q E w w':=by
 have hlen:=hr.len
 obtain ⟨i0,hi0,hz0,hz1,hz2⟩:=info_parts int_infoE
 have Hi:=qh hi0;have Hz0:=qh hz0;have Hz1:=qh hz1;have Hz2:=qh hz2
 have HD:=qh hD;have HR:=qh hr;have HSl:=qh hSl;have HL:=qh hl;have HC:=qh hc;have HLen:=qh hlen;have Hn:=qh hn
 have hqb:=hD.base_
 have Hin:Hid ((oneD d xs).2.natAbs<=100001):=qh (by
  have h1:(bothD d (xs.map Neg.neg)).2.natAbs<=d.vars+1:=by
   rcases bothD_cases d (xs.map Neg.neg) with ⟨x,hx,e⟩ | ⟨_,e⟩
   ·rw [e]
    have:x∈xs.map Neg.neg:=by rw [hx];exact List.mem_singleton.2 rfl
    obtain ⟨y,hy,rfl⟩:=List.mem_map.1 this
    have:=hl y hy
    dsimp only
    omega
   rw [e];dsimp only;omega
  show (-(bothD d (xs.map Neg.neg)).2).natAbs<=_
  omega)
 clear hD hr hSl hl hc hlen hn hi0 hz0 hz1 hz2
 go_enter Tryz.func78,Tryz.ntmps78
 go_wp2
 go_loopg [5,10] n' (fun g cv iv wr=>∃ (k:Nat),Hid (k+g=n')/\iv=.int .i64 k/\Hid (wr.ownsRow w.heap.size 3 1 cv k (((xs.take k).map Neg.neg).map (.int .i64)))/\Hid (Desk q (fun j=>E j\/Cv cv j) mp d wr)/\Hid (Fd q E w wr)/\Hid (∀ j,Cv cv j->¬ E j))
 case atStart =>
  exact ⟨0,qh (Nat.zero_add _),rfl,qh (World.ownsRow_nil _ _ _ _),qh (HD.out.mono fun j hj=>hj.elim id fun h=>by cases h),qh (Fd.refl _ _ _),qh fun j hj=>by cases hj⟩
 case round =>
  obtain ⟨k,Hk,rfl,HO,HK,HFr,HN⟩:=hrel
  obtain ⟨CA,cc,rfl,hc1,hc2,hcrow⟩:=own_form HO.out
  by_cases hk:k<n'
  ·have hsz:=HFr.out.size
   obtain ⟨b2,o2,rfl,hb2,hcell⟩:=(HFr.out.ints HR.out HSl.out).at_ hk
   have hlk:k<xs.length:=by rw [HLen.out];exact hk
   have hmem:xs.getD k 0∈xs:=by rw [qgd,qge hlk];exact List.getElem_mem hlk
   have hxb:=HL.out _ hmem
   generalize hx:xs.getD k 0=x at hcell hxb
   have hb3:b2<wr.heap.size:=ql (HSl.out _ hb2).1 hsz
   have hxb2 : -200000<=x/\x<=200000:=by omega
   have Hng:=qh (negL_succ hlk hx)
   clear hx hmem hlk hxb
   go_wp2_with (at_builtin;refine wpList_append_own_at _ rfl _ _ 27 rfl w.heap.size 3 i0 (.int .i64 0) 1 8 Tryz.underlying27 Hi.out Hz0.out Hz1.out Hz2.out rfl (by decide) _ _ _ rfl (HO.out.alloc _) ⟨wr.heap.size,0,none⟩ 1 1 [.int .i64 (-x)] rfl rfl ?d1 ?d2 ?d3 ?d4 ?d5 ?_)
   case d1=>exact cell_one_new _ _ _
   case d2=>simp [Value.oneCell']
   case d3=>unfold maxLen;omega
   case d4=>omega
   case d5=>simp;omega
   intro cv' w4 hown4 hg4 _ hat4
   have HR4:=qh (Desk.reown HK.out HO.out hown4 hqb hg4 (by simpa using hat4) HN.out)
   have HO4:Hid (w4.ownsRow w.heap.size 3 1 cv' (k+1) (((xs.take (k+1)).map Neg.neg).map (.int .i64))):=qh (by rw [Hng.out,List.map_append];simpa using hown4)
   clear hown4 hg4 hat4
   go_wp2
   go_roundg (gk - 1)
   case measure=>have:=Hk.out;omega
   case rel=>exact ⟨k+1,qh (by have:=Hk.out;omega),by go_num,HO4,qh HR4.out.1,qh (HFr.out.trans HR4.out.2.1 fun _ _ h=>h),qh HR4.out.2.2⟩
  obtain rfl:n'=k:=by have:=Hk.out;omega
  obtain ⟨Cx,cx,hcv,hcx1,hcx2,hrow⟩:=own_formK HO.out
  rw [Nat.mul_one] at hrow
  obtain ⟨rfl,rfl⟩:CA=Cx/\cc=cx:=by injection hcv with h1 h2 h3;exact ⟨h1,h3⟩
  have hrow2:RInts wr (Cv (.slice CA n' cc)) CA n' (xs.map Neg.neg):=by
   have h:=hrow
   rwa [List.take_of_length_le (by rw [HLen.out];exact qr _)] at h
  have HA:=qh (dboth_any q (fun j=>E j\/Cv (.slice CA n' cc) j) (Cv (.slice CA n' cc)) mp d CA n' cc (xs.map Neg.neg) wr HK.out hrow2 (fun j hj=>⟨(HK.out.e j (.inr hj)).2,.inl (.inr hj)⟩) ⟨hc1,hc2⟩ h1k (fun x hx=>by obtain ⟨y,hy,rfl⟩:=List.mem_map.1 hx;rw [Int.natAbs_neg];exact HL.out y hy) hv HC.out)
  have HE:Hid (oneD d xs=((bothD d (xs.map Neg.neg)).1,-(bothD d (xs.map Neg.neg)).2)):=qh rfl
  obtain ⟨r,hrr⟩:∃ r,r=bothD d (xs.map Neg.neg):=⟨_,rfl⟩
  rw [<- hrr] at HE HA
  have hrb : -200000<=r.2/\r.2<=200000:=by have:=Hin.out;rw [HE.out] at this;dsimp only at this;omega
  clear hcv hrow hrow2 hrr
  obtain ⟨rd,rx⟩:=r
  dsimp only at hrb HA HE
  go_wp2_with (first | (go_at_call 79;refine HA.out.mono ?_;rintro e w3 ⟨rfl,hd3,hf3⟩;refine Hid.out ?_))
  refine qh ?_
  have HD3:=qh hd3
  have HF3:Hid (Fd q E w w3):=qh (HFr.out.trans hf3 fun i _ h=>.inl h)
  clear hd3 hf3 HA
  go_wp2
  go_ret
  exact ⟨by rw [HE.out];rfl,by rw [HE.out];exact HD3.out.mono fun _ h=>.inl h,HF3.out⟩
end
section
open Go.RowKit Qm
structure LaidV (w:World):Prop where
 syn : ∃ tp p, w.var? Tryz.prog "strconv.ErrSyntax" = some #[.iface tp p]
 rng : ∃ tp p, w.var? Tryz.prog "strconv.ErrRange" = some #[.iface tp p]
 tab : Lib.TabIs Tryz.prog w "internal/strconv.uint64pow10" .u64 Lib.pow10Tab
theorem var_below {P:Program} {w w':World} {n:String} {cs:Array Value} (h:w.var? P n=some cs) (hb:Below w.heap.size w w'):w'.var? P n=some cs:=by
 unfold World.var? at h ⊢
 cases hg:P.globalNamed n with
 | none=>rw [hg] at h;cases h
 | some g =>
  rw [hg] at h
  simp only [Option.bind_some] at h ⊢
  have hlt:g<w.heap.size:=by
   rcases Nat.lt_or_ge g w.heap.size with hlt | hge
   ·exact hlt
   rw [Array.getElem?_eq_none hge] at h;cases h
  rw [hb.block g hlt]
  exact h
theorem LaidV.below {w w':World} (h:LaidV w) (hb:Below w.heap.size w w'):LaidV w':=by
 obtain ⟨⟨t1,p1,h1⟩,⟨t2,p2,h2⟩,h3⟩:=h
 exact ⟨⟨t1,p1,var_below h1 hb⟩,⟨t2,p2,var_below h2 hb⟩,var_below h3 hb⟩
theorem bs_eq (a:List UInt8) (s:ByteArray):(a == s.toList)=decide (a=s.data.toList):=by
 rw [Lib.toList_data,Bool.eq_iff_iff]
 simp
theorem number_any (s:ByteArray) (w:World) (hs:s.size<=140737488355328) (hL:LaidV w) :
  Calls Tryz.prog 181 #[.string s] w fun e w'=>∃ n,e=.returned (.tuple #[.int .i64 n,.bool (number s.data.toList).isSome])/\(∀ v,number s.data.toList=some v->n=v)/\Below w.heap.size w w':=by
 obtain ⟨⟨tp,p,h1⟩,⟨tp2,p2,h2⟩,h3⟩:=hL
 rcases h:Lib.atoiAll s.data.toList with v | _ | _
 ·skip
  have hat:=Tryz.strconv_Atoi_ok s (by omega) v h w
  obtain ⟨hv0,hv1⟩:=Lib.atoiAll_bounds h
  go_enter Tryz.func181,Tryz.ntmps181
  go_wp2_with (first | (go_at_call 127;refine hat.mono ?_;rintro e w1 ⟨rfl,hw1⟩;refine Hid.out ?_))
  have hb1:Hid (Below w.heap.size w w1):=qh (by
   rcases hw1 with rfl | ⟨t,rfl⟩
   ·exact qbr _ _
   exact Lib.bytesWorld_below _ _ _)
  clear hw1
  have hit:=Tryz.strconv_Itoa v (by omega) (by omega) w1 (var_below h3 hb1.out)
  have Hit:=qh hit
  clear hit
  have hcmp:=bs_eq (Lib.itoa v) s
  have HV:=qh (show number s.data.toList=if Lib.itoa v=s.data.toList then some v else none by unfold number;rw [h])
  clear h
  generalize Lib.itoa v=T at hcmp HV Hit
  by_cases e1:T=s.data.toList
  ·rw [qdt e1] at hcmp
   have E1:=qh e1;clear e1
   refine qh ?_
   go_wp2_with (first | (go_at_call 100;refine Hit.out.mono ?_;rintro e w2 ⟨rfl,k,os,hw2⟩))
   go_ret2
   refine ⟨v, ?_, ?_,hb1.out.trans (by subst hw2;exact (Lib.below_grow _ _ (qr _) _ _).mono hb1.out.size)⟩
   ·rw [HV.out,if_pos E1.out];rfl
   rw [HV.out,if_pos E1.out];intro u hu;injection hu
  rw [qdf e1] at hcmp
  have E1:=qh e1;clear e1
  refine qh ?_
  go_wp2_with (first | (go_at_call 100;refine Hit.out.mono ?_;rintro e w2 ⟨rfl,k,os,hw2⟩))
  go_ret2
  refine ⟨v, ?_, ?_,hb1.out.trans (by subst hw2;exact (Lib.below_grow _ _ (qr _) _ _).mono hb1.out.size)⟩
  ·rw [HV.out,if_neg E1.out];rfl
  rw [HV.out,if_neg E1.out];intro u hu;cases hu
 ·have hat:=Any.strconv_Atoi_syntax_var Tryz.laysC172 s (by omega) h tp p w h1
  go_enter Tryz.func181,Tryz.ntmps181
  go_wp2_with (first | (go_at_call 127;refine hat.mono ?_;rintro e w1 ⟨N,rfl,-,-,hb⟩))
  go_ret2
  have hn:number s.data.toList=none:=by unfold number;rw [h]
  exact ⟨_,by rw [hn];rfl,(by rw [hn];intro v hv;cases hv),hb⟩
 have hat:=Tryz.strconv_Atoi_range_var s (by omega) h tp2 p2 w h2
 go_enter Tryz.func181,Tryz.ntmps181
 go_wp2_with (first | (go_at_call 127;refine hat.mono ?_;rintro e w1 ⟨N,rfl,-,-,hb⟩))
 go_ret2
 have hn:number s.data.toList=none:=by unfold number;rw [h]
 exact ⟨_,by rw [hn];rfl,(by rw [hn];intro v hv;cases hv),hb⟩
end
section
open Go.RowKit Qm
theorem fits_any (s f:ByteArray) (op ver slot v sl:Int) (on:Bool) (w:World) :
  Calls Tryz.prog 81 #[atv s op ver slot f on,.int .i64 v,.int .i64 sl] w fun e w'=>e=.returned (.bool (fitsP (atOf s op ver slot f on) v sl))/\Below w.heap.size w w':=by
 have BN:=qh (Boxed.new w s op ver slot f on (t:=75))
 unfold atv
 by_cases z:slot=0
 ·subst z
  by_cases a1:op=1
  ·subst a1
   go_enter Tryz.func81,Tryz.ntmps81
   go_wp2
   go_ret
   exact ⟨ret_bool (by rw [Bool.eq_iff_iff];simp [fitsP,atOf, *] <;> exact decide_eq_true_iff.symm),(qbr _ _).alloc (qr _) _⟩
  have b1:(op == 1)=false:=by simpa using a1
  by_cases a2:op=2
  ·subst a2
   go_enter Tryz.func81,Tryz.ntmps81
   go_wp2
   go_ret
   exact ⟨ret_bool (by rw [Bool.eq_iff_iff];simp [fitsP,atOf, *] <;> exact decide_eq_true_iff.symm),(qbr _ _).alloc (qr _) _⟩
  have b2:(op == 2)=false:=by simpa using a2
  by_cases a3:op=3
  ·subst a3
   go_enter Tryz.func81,Tryz.ntmps81
   go_wp2
   go_ret
   exact ⟨ret_bool (by rw [Bool.eq_iff_iff];simp [fitsP,atOf, *] <;> exact decide_eq_true_iff.symm),(qbr _ _).alloc (qr _) _⟩
  have b3:(op == 3)=false:=by simpa using a3
  go_enter Tryz.func81,Tryz.ntmps81
  go_wp2
  go_ret
  exact ⟨ret_bool (by rw [Bool.eq_iff_iff];simp [fitsP,atOf, *] <;> exact decide_eq_true_iff.symm),(qbr _ _).alloc (qr _) _⟩
 have z1:(slot != 0)=true:=by simpa using z
 by_cases y:slot=sl
 ·have y1:(slot != sl)=false:=by simpa using y
  by_cases a1:op=1
  ·subst a1
   go_enter Tryz.func81,Tryz.ntmps81
   go_wp2
   go_ret
   exact ⟨ret_bool (by rw [Bool.eq_iff_iff];simp [fitsP,atOf, *] <;> exact decide_eq_true_iff.symm),(qbr _ _).alloc (qr _) _⟩
  have b1:(op == 1)=false:=by simpa using a1
  by_cases a2:op=2
  ·subst a2
   go_enter Tryz.func81,Tryz.ntmps81
   go_wp2
   go_ret
   exact ⟨ret_bool (by rw [Bool.eq_iff_iff];simp [fitsP,atOf, *] <;> exact decide_eq_true_iff.symm),(qbr _ _).alloc (qr _) _⟩
  have b2:(op == 2)=false:=by simpa using a2
  by_cases a3:op=3
  ·subst a3
   go_enter Tryz.func81,Tryz.ntmps81
   go_wp2
   go_ret
   exact ⟨ret_bool (by rw [Bool.eq_iff_iff];simp [fitsP,atOf, *] <;> exact decide_eq_true_iff.symm),(qbr _ _).alloc (qr _) _⟩
  have b3:(op == 3)=false:=by simpa using a3
  go_enter Tryz.func81,Tryz.ntmps81
  go_wp2
  go_ret
  exact ⟨ret_bool (by rw [Bool.eq_iff_iff];simp [fitsP,atOf, *] <;> exact decide_eq_true_iff.symm),(qbr _ _).alloc (qr _) _⟩
 have y1:(slot != sl)=true:=by simpa using y
 go_enter Tryz.func81,Tryz.ntmps81
 go_wp2
 go_ret
 exact ⟨ret_bool (by unfold fitsP;rw [if_pos ⟨z,y⟩]),(qbr _ _).alloc (qr _) _⟩
end
section
open Go.RowKit Qm
theorem RNd.far {w w':World} {S D:Nat->Prop} {x:List Value} {y:Nd} (h:RNd w S x y) (hf:Far D w w') (hS:∀ k,S k->k<w.heap.size/\¬ D k):RNd w' S x y:=h.keep fun _ hp=>hf.cell (hS _ hp).1 (hS _ hp).2
def RdSt (w:World) (R:Nat) (S:Nat->Prop) (ws:List Qm.W):Prop:=
 ∃ A c,Whole w R 181 [.slice A ws.length c]/\ws.length<=c/\c<=maxLen/\Row w S A ws.length (strs ws)/\¬ S R
theorem RdSt.far {w w':World} {R:Nat} {S D:Nat->Prop} {ws:List Qm.W} (h:RdSt w R S ws) (hf:Far D w w') (hR:¬ D R) (hS:∀ k,S k->k<w.heap.size/\¬ D k):RdSt w' R S ws:=by
 obtain ⟨A,c,h1,h2,h3,h4,h5⟩:=h
 exact ⟨A,c,hf.whole h1 hR,h2,h3,h4.keep fun _ hp=>hf.cell (hS _ hp).1 (hS _ hp).2,h5⟩
def NextPost (w:World) (R:Nat) (S:Nat->Prop) (ws:List Qm.W) (e:Ending) (w':World):Prop:=
 e=.returned (.string ⟨(ws.headD []).toArray⟩)/\RdSt w' R S ws.tail/\Far (fun i=>i=R) w w'/\w'.heap.size=w.heap.size
theorem next_any (R:Nat) (S:Nat->Prop) (ws:List Qm.W) (w:World) (h:RdSt w R S ws) :
  Calls Tryz.prog 147 #[.pointer (some ⟨R,0,none⟩)] w (NextPost w R S ws):=by
 obtain ⟨A,c,hw,hc1,hc2,hr,hS⟩:=h
 have HW:=qh hw;have HR:=qh hr;have HS:=qh hS
 have g0:=hw.cell 0
 have f0:=hw.free 0
 simp only [qgz] at g0
 unfold maxLen at hc2
 cases ws with
 | nil =>
  clear hw hr hS
  simp only [List.length_nil] at g0
  go_enter Tryz.func147,Tryz.ntmps147
  go_wp2
  go_ret
  exact ⟨rfl,⟨A,c,HW.out,hc1,by unfold maxLen;omega,HR.out,HS.out⟩,Far.refl _ _,rfl⟩
 | cons a r =>
  obtain ⟨b,o,rfl,hb⟩:=hr.some_lit (by simp)
  have hcell:=(hr.2 (by simp))
  obtain ⟨b',o',e,_,hcell⟩:=hcell
  injection e with e;injection e with e1 e2
  subst e1 e2
  have k0:=hcell 0 (by simp)
  simp only [Nat.add_zero,strs,List.map_cons,qgz] at k0
  clear hcell
  have hl:(a :: r).length=r.length+1:=rfl
  rw [hl] at g0 hc1
  have hdrop:=hr.drop (k:=1) (cap:=c) (by simp) hc1
  have Hdrop:=qh hdrop
  clear hw hr hS hdrop hl
  by_cases c1:c=1
  ·subst c1
   go_enter Tryz.func147,Tryz.ntmps147
   go_wp2
   go_ret
   obtain rfl:r=[]:=List.eq_nil_of_length_eq_zero (by omega)
   refine ⟨rfl,⟨some ⟨b,o,none⟩,0,HW.out.set_ 0 _,qr _,by unfold maxLen;omega, ?_,HS.out⟩,Far.set_ (D:=fun i=>i=R) rfl 0 _,by simp [World.setCell]⟩
   have hd:=Hdrop.out
   simp only [if_true] at hd
   exact hd.keep fun p hp=>World.cell?_setCell_other _ _ _ _ (fun e=>HS.out (by rw [<- e] at hp;exact hp))
  have h2:2<=c:=by omega
  go_enter Tryz.func147,Tryz.ntmps147
  go_wp2
  go_ret
  refine ⟨rfl,⟨some ⟨b,o+1,none⟩,c - 1,HW.out.set_ 0 _,by simp only [List.tail_cons];omega,by unfold maxLen;omega, ?_,HS.out⟩,Far.set_ (D:=fun i=>i=R) rfl 0 _,by simp [World.setCell]⟩
  have hd:=Hdrop.out
  rw [if_neg (by omega)] at hd
  exact hd.keep fun p hp=>World.cell?_setCell_other _ _ _ _ (fun e=>HS.out (by rw [<- e] at hp;exact hp))
end
section
open Go.RowKit Qm
def bas (ws:List Qm.W):List ByteArray:=ws.map fun l=>⟨l.toArray⟩
theorem strs_cell {w:World} {S:Nat->Prop} {b o:Nat} {ws:List Qm.W} (h:Row w S (some ⟨b,o,none⟩) ws.length (strs ws)):∀ j,j<(bas ws).length->w.cell? ⟨b,o+j,none⟩=some (.string ((bas ws).getD j ByteArray.empty)):=by
 intro j hj
 have hj':j<ws.length:=by simpa [bas] using hj
 obtain ⟨b',o',e,_,hc⟩:=h.at_ hj'
 injection e with e;injection e with e1 e2
 subst e1 e2
 rw [hc]
 simp only [strs,bas,qgm,qgd,qge hj',Option.map_some,Option.getD_some]
end
section
open Go.RowKit Qm
def ixI:Option Nat->Int
 | some k=>(k:Int)
 | none=>-1
theorem idxFrom_ix (x:Qm.W):∀ (fs:List Qm.W) (i:Nat),Lib.idxFromS (bas fs) ⟨x.toArray⟩ i=ixI ((ixOf x fs).map (· + i))
 | [],i=>rfl
 | f :: r,i=>by
  have ih:=idxFrom_ix x r (i+1)
  have hb:bas (f :: r)=⟨f.toArray⟩ :: bas r:=rfl
  rw [hb]
  have he:((⟨f.toArray⟩:ByteArray)=⟨x.toArray⟩)↔f=x:=by
   constructor
   ·intro h;have:=congrArg (·.data.toList) h;simpa using this
   rintro rfl;rfl
  unfold Lib.idxFromS
  simp only [ixOf]
  by_cases hf:f=x
  ·rw [if_pos hf,if_pos (he.2 hf)]
   simp [ixI]
  rw [if_neg hf,if_neg (fun h=>hf (he.1 h)),ih]
  cases ixOf x r with
  | none=>rfl
  | some k=>simp [ixI];omega
theorem indexS_any (A:Option Addr) (n c:Nat) (fs:List Qm.W) (x:Qm.W) (w:World) (S:Nat->Prop) (h:Row w S A n (strs fs)) (hn:n<=maxLen) :
  Calls Tryz.prog 80 #[.slice A n c,.string ⟨x.toArray⟩] w fun e w'=>e=.returned (.int .i64 (ixI (ixOf x fs)))/\w'=w:=by
 have hl:fs.length=n:=by have:=h.len;simpa [strs] using this
 unfold maxLen at hn
 have hx:Lib.idxOfS (bas fs) ⟨x.toArray⟩=ixI (ixOf x fs):=by
  unfold Lib.idxOfS;rw [idxFrom_ix];cases ixOf x fs <;> rfl
 by_cases h0:n=0
 ·subst h0
  obtain rfl:=List.eq_nil_of_length_eq_zero hl
  exact (Tryz.slices_Index_string_empty A c ⟨x.toArray⟩ w).mono fun e w' ⟨he,hw⟩=>⟨he.trans (by rw [show Lib.idxOfS [] ⟨x.toArray⟩=ixI (ixOf x []) from hx]),hw⟩
 obtain ⟨b,o,rfl,_⟩:=h.some_lit (by omega)
 refine (Tryz.slices_Index_string b o n c (bas fs) ⟨x.toArray⟩ w (by simp [bas,hl]) (by omega) (strs_cell (by rw [hl];exact h))).mono fun e w' ⟨he,hw⟩=>⟨?_,hw⟩
 rw [he,List.take_of_length_le (by simp [bas,hl]),hx]
end
section
open Go.RowKit Qm
theorem before_any (p p':Pk) (A A':Option Addr) (n c n' c':Nat) (k k':Int) (a a':At) (f f':Qm.W) (no no':Bool) (D D':Option Addr) (q d q' d':Nat) (w:World) :
  Calls Tryz.prog 111 #[.agg (pkRow p A n c (ndRow k a f no D q d)).toArray,.agg (pkRow p' A' n' c' (ndRow k' a' f' no' D' q' d')).toArray] w fun e w' =>
   e=.returned (.bool (beforeP p p'))/\Below w.heap.size w w':=by
 unfold pkRow ndRow
 have HR:Hid (beforeP p p'=(decide (p.nm<p'.nm) || (decide (p.nm=p'.nm) && decide (p.ver<p'.ver)))):=qh rfl
 generalize beforeP p p'=R at HR ⊢
 obtain ⟨nm,ver,slot,fs,nd⟩:=p
 obtain ⟨nm',ver',slot',fs',nd'⟩:=p'
 have hb:=bytesLess_eq nm nm'
 dsimp only at HR hb ⊢
 by_cases h1:nm<nm'
 ·rw [qdt h1] at hb
  have H1:=qh h1;clear h1
  go_enter Tryz.func111,Tryz.ntmps111
  go_wp2
  go_ret
  exact ⟨ret_bool (by rw [HR.out,qdt H1.out];rfl),((qbr _ w).alloc (qr _) _).alloc (by simp) _⟩
 rw [qdf h1] at hb
 have H1:=qh h1;clear h1
 by_cases h2:nm=nm'
 ·subst h2
  by_cases h3:ver<ver'
  ·go_enter Tryz.func111,Tryz.ntmps111
   go_wp2
   go_ret
   exact ⟨ret_bool (by rw [HR.out,qdf H1.out,qdt h3];simp),((qbr _ w).alloc (qr _) _).alloc (by simp) _⟩
  go_enter Tryz.func111,Tryz.ntmps111
  go_wp2
  go_ret
  exact ⟨ret_bool (by rw [HR.out,qdf H1.out,qdf (Int.not_lt.2 h3)];simp),((qbr _ w).alloc (qr _) _).alloc (by simp) _⟩
 have H2:=qh h2
 have h2':(nm == nm')=false:=by simpa using h2
 clear h2
 go_enter Tryz.func111,Tryz.ntmps111
 go_wp2
 go_ret
 exact ⟨ret_bool (by rw [HR.out,qdf H1.out,qdf H2.out];rfl),((qbr _ w).alloc (qr _) _).alloc (by simp) _⟩
end
section
open Go.RowKit Qm
theorem containsS_any (A:Option Addr) (n c:Nat) (fs:List Qm.W) (x:Qm.W) (w:World) (S:Nat->Prop) (h:Row w S A n (strs fs)) (hn:n<=maxLen) :
  Calls Tryz.prog 92 #[.slice A n c,.string ⟨x.toArray⟩] w fun e w'=>e=.returned (.bool (fs.contains x))/\w'=w:=by
 have hl:fs.length=n:=by have:=h.len;simpa [strs] using this
 unfold maxLen at hn
 by_cases h0:n=0
 ·subst h0
  obtain rfl:=List.eq_nil_of_length_eq_zero hl
  exact (Tryz.slices_Contains_string_empty A c ⟨x.toArray⟩ w).mono fun e w' ⟨he,hw⟩=>⟨by simpa using he,hw⟩
 obtain ⟨b,o,rfl,_⟩:=h.some_lit (by omega)
 refine (Tryz.slices_Contains_string b o n c (bas fs) ⟨x.toArray⟩ w (by simp [bas,hl]) (by omega) (strs_cell (by rw [hl];exact h))).mono fun e w' ⟨he,hw⟩=>⟨?_,hw⟩
 rw [he,List.take_of_length_le (by simp [bas,hl])]
 congr 2
 rw [Bool.eq_iff_iff,Lib.containsS_iff,List.contains_iff_mem]
 unfold bas
 rw [List.mem_map]
 constructor
 ·rintro ⟨y,hy,e⟩
  have:=congrArg (·.data.toList) e
  simp only at this
  rwa [<- show y=x from this]
 intro hx;exact ⟨x,hx,rfl⟩
end
section
open Go.RowKit Qm
theorem indexRune_bad (s:ByteArray) (r:Int) (w:World) (h128:128<=r) (hne:r≠65533) (hv:Lib.validRune r=false) :
  Calls Tryz.prog 184 #[.string s,.int .i32 r] w fun e w'=>e=.returned (.int .i64 (-1))/\Below w.heap.size w w':=by
 have h1:decide (r<128)=false:=by simp;omega
 have h2:(r == 65533)=false:=by simpa using hne
 have h3:0<=r:=by omega
 have hval:=Tryz.utf8_ValidRune r w
 rw [hv] at hval
 go_enter Tryz.func184,Tryz.ntmps184
 go_wp2_with (first | (go_at_call 208;refine hval.mono ?_;rintro e w1 ⟨rfl,rfl⟩))
 go_ret
 exact ⟨rfl,qbr _ _⟩
theorem indexRune_err (s:ByteArray) (w:World) (hsa:∀ i (h:i<s.size),(s[i]'h).toNat<128) :
  Calls Tryz.prog 184 #[.string s,.int .i32 65533] w fun e w'=>e=.returned (.int .i64 (-1))/\Below w.heap.size w w':=by
 have HS:=qh hsa;clear hsa
 have HK:=qh (World.iter_heap w s 0)
 have HB:Hid (Below w.heap.size w (w.iter s 0)):=qh ((qbr _ w).alloc (qr _) _)
 go_enter Tryz.func184,Tryz.ntmps184
 go_wp2
 go_loopw [5,6] (fun _ _ wr=>∃ pos:Nat,pos<=s.size/\wr.heap[w.heap.size]? = some (.stringIter s pos)/\Below w.heap.size w wr) (fun _ _ wr=>s.size - wr.iterPos w.heap.size)
 case atStart=>exact ⟨0,Nat.zero_le _,HK.out,HB.out⟩
 case round =>
  obtain ⟨pos,hps,hk,hnx⟩:=hrel
  by_cases hp:pos<s.size
  ·have h128:=HS.out pos hp
   have hnext:∀ ty,(Instr.next (.pointer (some ⟨w.heap.size,0,none⟩)) true ty).run Tryz.prog wr=_:=fun ty=>Lib.run_next_ascii_at wr w.heap.size s pos ty hk hp h128
   have hk1:=Lib.iterAt_heap wr w.heap.size s pos (pos+1) hk
   have hnx1:Below w.heap.size w (wr.iterAt w.heap.size s (pos+1)):=Lib.below_iterAt hnx (qr _) s (pos+1)
   have hmu:wr.iterPos w.heap.size=pos:=by simp [World.iterPos,hk]
   have HM:=qh hmu;clear hmu hk
   have HK1:=qh hk1;clear hk1
   have HN:=qh hnx1;clear hnx hnx1
   generalize wr.iterAt w.heap.size s (pos+1)=W1 at hnext HK1 HN
   have hc:(((s[pos]'hp).toNat:Int) == 65533)=false:=by simp;omega
   generalize (s[pos]'hp).toNat=c at hnext hc h128
   go_wp2
   go_roundw
   case rel=>exact ⟨pos+1,by omega,HK1.out,HN.out⟩
   case measure =>
    have hmu2:W1.iterPos w.heap.size=pos+1:=by simp [World.iterPos,HK1.out]
    rw [HM.out,hmu2]
    omega
  have hnext:∀ ty,(Instr.next (.pointer (some ⟨w.heap.size,0,none⟩)) true ty).run Tryz.prog wr=_:=fun ty=>Lib.run_next_end_at wr w.heap.size s pos ty hk hp
  have HN:=qh hnx;clear hnx hk
  go_wp2
  go_ret
  exact ⟨rfl,HN.out⟩
theorem indexByte_far (t:ByteArray) (c:UInt8) (hc:128<=c.toNat) (ht:∀ b∈t.data.toList,b.toNat<128) (w:World) :
  Calls Tryz.prog 180 #[.string t,.int .u8 (c.toNat:Int)] w fun e w'=>e=.returned (.int .i64 (-1))/\w'=w:=by
 have h:=Tryz.strings_IndexByte t (c.toNat:Int) w
 have e:Lib.indexByte t.data.toList ((c.toNat:Int).toNat.toUInt8) = -1:=by
  have hc':((c.toNat:Int).toNat.toUInt8)=c:=by simp
  rw [hc']
  generalize t.data.toList=l at ht
  induction l with
  | nil=>rfl
  | cons x r ih =>
   have hx:=ht x (List.mem_cons_self ..)
   have hne:(x == c)=false:=by
    rw [beq_eq_false_iff_ne]
    rintro rfl
    omega
   simp [Lib.indexByte,hne,ih fun b hb=>ht b (List.mem_cons_of_mem _ hb)]
 rw [e] at h
 exact h
theorem indexRune_far (s:ByteArray) (r:Int) (w:World) (h128:128<=r) (hne:r≠65533) (hv:Lib.validRune r=true) (hs:s.size<=3) (hsa:∀ i (h:i<s.size),(s[i]'h).toNat<128) :
  Calls Tryz.prog 184 #[.string s,.int .i32 r] w fun e w'=>e=.returned (.int .i64 (-1))/\Below w.heap.size w w':=by
 have h1:decide (r<128)=false:=by simp;omega
 have h2:(r == 65533)=false:=by simpa using hne
 have h3:0<=r:=by omega
 have hval:=Tryz.utf8_ValidRune r w
 rw [hv] at hval
 obtain ⟨hE2,hE4,hEl⟩:=encode_facts r (by rw [validRune_eq];exact hv) h128
 have hcv:=run_convert_int_string (P:=Tryz.prog) w 21 9 .i32 r (by kernel_rfl) Tryz.underlying9
 generalize Utf8.encode r=E at hE2 hE4 hEl hcv
 have HS:=qh hsa;clear hsa
 have HEl:=qh hEl;clear hEl
 clear hne hv h128
 go_enter Tryz.func184,Tryz.ntmps184
 go_wp2_with (first | (go_at_call 208;refine hval.mono ?_;rintro e w ⟨rfl,rfl⟩))
 have hl0:(E.size:Int) - 1=((E.size - 1:Nat):Int):=by omega
 go_step3
 go_wp2
 go_loopw [9,10] (fun i j wr=>∃ k q:Nat,i=.int .i64 k/\j=.int .i64 q/\k+1=q+E.size/\k<=4/\Below w.heap.size w wr) (fun i _ _=>s.size - (intOf i).toNat)
 case atStart=>exact ⟨E.size - 1,0,by rw [<- hl0],rfl,by omega,by omega,qbr _ _⟩
 case round =>
  obtain ⟨k,q,rfl,rfl,hkq,hk4,hb⟩:=hrel
  have HB:=qh hb;clear hb
  by_cases hlt:k<s.size
  ·have ha:=HS.out k hlt
   have hz:=HEl.out (by omega)
   have hlast:E.size - 1<E.size:=by omega
   have hcmp:(((s[k]'hlt).toNat:Int) == ((E[E.size - 1]'hlast).toNat:Int))=false:=by simp;omega
   have hcmp2:(((s[k]'hlt).toNat:Int) != ((E[E.size - 1]'hlast).toNat:Int))=true:=by simp;omega
   go_wp2
   go_step3
   go_wp2
   go_quiet (fail)
   rename_i nq
   have HB2:Hid (Below w.heap.size w (wr.drewN nq)):=qh (below_drewN HB.out nq)
   generalize wr.drewN nq=wz at HB2 ⊢
   go_wp2_with fail
   have hib:=fun (t:ByteArray) (ht:∀ b∈t.data.toList,b.toNat<128) (wx:World)=>indexByte_far t (E[E.size - 1]'hlast) hz ht wx
   have hsub:∀ b∈(s.extract (k+1) s.size).data.toList,b.toNat<128:=fun b hb=>by
    have hm:=mem_extract hb
    obtain ⟨i,hi,rfl⟩:=List.getElem_of_mem hm
    rw [Array.length_toList] at hi
    exact HS.out i hi
   have hcall:=hib _ hsub
   have Hcall:=qh hcall
   clear hib hsub hcall
   have hw1:IntKind.i64.wrap ((k:Int)+1)=(k:Int)+1:=IntWalk.i64_in _ (by omega)
   have hw2:(0:Int)<=(k:Int)+1:=by omega
   have hw3:((k:Int)+1).toNat=k+1:=by omega
   have hw4:k+1<=s.size:=by omega
   have HKQ:=qh hkq;clear hkq
   go_quiet ((go_at_call 180;exact Calls.quiet_of_same (Hcall.out _)))
   go_wp2
   simp only [Exit.noGoto_ret,Exit.inBlock]
   go_wp2
   simp only [Exit.noGoto_ret,Exit.inBlock]
   go_ret
   exact ⟨rfl,below_drewN HB2.out _⟩
  go_wp2
  simp only [Exit.noGoto_ret,Exit.inBlock]
  go_ret
  exact ⟨rfl,HB.out⟩
end
section
open Go.RowKit Qm
theorem decodeN_high (n b0 b1 b2 b3:Nat) (hn:1<=n) (h0:128<=b0) :
  128<=(Lib.decodeN n b0 b1 b2 b3).1/\1<=(Lib.decodeN n b0 b1 b2 b3).2/\(Lib.decodeN n b0 b1 b2 b3).2<=n/\(2<=(Lib.decodeN n b0 b1 b2 b3).2->128<=b1) /\
   (3<=(Lib.decodeN n b0 b1 b2 b3).2->128<=b2)/\(4<=(Lib.decodeN n b0 b1 b2 b3).2->128<=b3)/\(Lib.decodeN n b0 b1 b2 b3).2<=4:=by
 unfold Lib.decodeN
 rw [if_neg (by omega)]
 repeat' split
 all_goals (refine ⟨?_, ?_, ?_, ?_, ?_, ?_, ?_⟩ <;> simp only [] <;> omega)
theorem decode_high (s:ByteArray) (pos:Nat) (hp:pos<s.size) (hb:128<=(s.data.toList.getD pos 0).toNat) :
  128<=(Utf8.decode s pos).1/\1<=(Utf8.decode s pos).2/\pos+(Utf8.decode s pos).2<=s.size/\∀ j,pos<=j->j<pos+(Utf8.decode s pos).2->128<=(s.data.toList.getD j 0).toNat:=by
 have hl:s.size=s.data.toList.length:=Lib.size_eq s
 have h:=decodeN_high (s.data.toList.length - pos) (s.data.toList.getD pos 0).toNat (s.data.toList.getD (pos+1) 0).toNat (s.data.toList.getD (pos+2) 0).toNat (s.data.toList.getD (pos+3) 0).toNat (by omega) hb
 rw [<- Lib.decode_N] at h
 obtain ⟨h1,h2,h3,h4,h5,h6,h7⟩:=h
 refine ⟨h1,h2,by omega,fun j hj hj2=>?_⟩
 have hc:j=pos\/j=pos+1\/j=pos+2\/j=pos+3:=by omega
 rcases hc with rfl | rfl | rfl | rfl
 ·exact hb
 ·exact h4 (by omega)
 ·exact h5 (by omega)
 exact h6 (by omega)
theorem noAny_skip {l chars:List UInt8} {pos k:Nat} (h:Lib.NoAny l chars pos) (hc:∀ b∈chars,b.toNat<128) (hk:∀ j,pos<=j->j<pos+k->128<=(l.getD j 0).toNat):Lib.NoAny l chars (pos+k):=by
 intro j b hj hb
 rcases Nat.lt_or_ge j pos with hlt | hge
 ·exact h j b hlt hb
 have h1:=hk j hge hj
 have h2:l.getD j 0=b:=by simp [List.getD,hb]
 rw [h2] at h1
 cases e:chars.contains b
 ·rfl
 have:=hc b (by simpa using e)
 omega
theorem indexByte_contains (chars:List UInt8) (b:UInt8):decide (0<=Lib.indexByte chars b)=chars.contains b:=by
 induction chars with
 | nil=>rfl
 | cons x r ih =>
  unfold Lib.indexByte
  by_cases hx:(x == b)=true
  ·have:x=b:=by simpa using hx
   subst this
   simp
  have hx':(x == b)=false:=by simpa using hx
  have hx2:(b == x)=false:=by rw [beq_eq_false_iff_ne];rintro rfl;simp at hx
  rw [List.contains_cons,hx2,Bool.false_or,<- ih,hx']
  have:=Lib.indexByte_ge r b
  by_cases h1:Lib.indexByte r b = -1
  ·simp [h1]
  have h2:(Lib.indexByte r b == -1)=false:=by simpa using h1
  simp only [h2,Bool.false_eq_true,if_false]
  rw [Bool.eq_iff_iff];simp;omega
theorem indexRune_high (s:ByteArray) (r:Int) (w:World) (h128:128<=r) (hs:s.size<=3) (hsa:∀ i (h:i<s.size),(s[i]'h).toNat<128) :
  Calls Tryz.prog 184 #[.string s,.int .i32 r] w fun e w'=>e=.returned (.int .i64 (-1))/\Below w.heap.size w w':=by
 by_cases h1:r=65533
 ·subst h1;exact indexRune_err s w hsa
 cases hv:Lib.validRune r
 ·exact indexRune_bad s r w h128 h1 hv
 exact indexRune_far s r w h128 h1 hv hs hsa
theorem indexAny_any (s chars:ByteArray) (w:World) (hs:s.size<4294967281) (hc2:2<=chars.size) (hc3:chars.size<=3) (hca:∀ b∈chars.data.toList,b.toNat<128) :
  Calls Tryz.prog 179 #[.string s,.string chars] w fun e w'=>e=.returned (.int .i64 (Lib.indexAny s.data.toList chars.data.toList))/\Below w.heap.size w w':=by
 have hcj:∀ (j:Nat) b,chars.data.toList[j]? = some b->b.toNat<128:=fun j b h=>hca b (List.mem_of_getElem? h)
 by_cases h8:8<s.size
 ·refine (Tryz.strings_IndexAny_long (zero_of_info (P:=Tryz.prog) (t:=190) (v:=.agg (Array.replicate 256 (.bool false))) (n:=256) (by kernel_rfl)).1 s chars w hc2 h8 hs (by omega) hcj).mono ?_
  rintro e w' ⟨rfl,rfl⟩
  exact ⟨rfl,((qbr _ w).alloc (qr _) _).alloc (by simp) _⟩
 have hci:∀ i (h:i<chars.size),(chars[i]'h).toNat<128:=fun i h=>hca _ (Array.getElem_mem_toList (xs:=chars.data) h)
 have hhigh:=fun (r:Int) (hr:128<=r) wx=>indexRune_high chars r wx hr hc3 hci
 have hlow:=fun (r:Int) (h0:0<=r) (h1:r<128) wx=>Tryz.strings_IndexRune_ascii chars r wx h0 h1
 have HH:=qh hhigh
 have HLo:=qh hlow
 have HCA:=qh hca
 have hce:chars.toList.isEmpty=false:=by
  rw [Lib.toList_data]
  have:chars.size=chars.data.toList.length:=Lib.size_eq chars
  cases e:chars.data.toList
  ·rw [e,List.length_nil] at this;omega
  rfl
 have hc1:((chars.size:Int) == 1)=false:=beq_eq_false_iff_ne.2 (by omega)
 have huse:=Tryz.strings_shouldUseASCIISet (s.size:Int) w
 have hu:decide ((8:Int)<(s.size:Int))=false:=qdf (by omega)
 rw [hu] at huse
 have HK:=qh (World.iter_heap w s 0)
 have HB:Hid (Below w.heap.size w (w.iter s 0)):=qh ((qbr _ w).alloc (qr _) _)
 have HSL:=qh (Lib.size_eq s)
 clear hhigh hlow hca hcj hci
 go_enter Tryz.func179,Tryz.ntmps179
 go_wp2_with (first | (go_at_call 207;refine huse.mono ?_;rintro e w1 ⟨rfl,hw1⟩;subst w1))
 go_loopw [9,10] (fun _ _ wr=>∃ pos:Nat,pos<=s.size/\wr.heap[w.heap.size]? = some (.stringIter s pos)/\Lib.NoAny s.data.toList chars.data.toList pos/\Below w.heap.size w wr) (fun _ _ wr=>s.size - wr.iterPos w.heap.size)
 case atStart=>exact ⟨0,Nat.zero_le _,HK.out,Lib.NoAny.zero _ _,HB.out⟩
 case round =>
  obtain ⟨pos,hps,hk,hno,hnx⟩:=hrel
  have HNo:=qh hno;clear hno
  have hmu:wr.iterPos w.heap.size=pos:=by simp [World.iterPos,hk]
  have HM:=qh hmu;clear hmu
  by_cases hp:pos<s.size
  ·have hget:s.data.toList[pos]? = some (s[pos]'hp):=by
    rw [qge (by have:=HSL.out;omega)];rfl
   have HG:=qh hget;clear hget
   by_cases hb:(s[pos]'hp).toNat<128
   ·have hnext:∀ ty,(Instr.next (.pointer (some ⟨w.heap.size,0,none⟩)) true ty).run Tryz.prog wr=_:=fun ty=>Lib.run_next_ascii_at wr w.heap.size s pos ty hk hp hb
    have HK1:=qh (Lib.iterAt_heap wr w.heap.size s pos (pos+1) hk)
    have HN:=qh (show Below w.heap.size w (wr.iterAt w.heap.size s (pos+1)) from Lib.below_iterAt hnx (qr _) s (pos+1))
    clear hk hnx
    generalize wr.iterAt w.heap.size s (pos+1)=W1 at hnext HK1 HN
    generalize s[pos]'hp=c at hnext HG hb
    have hcall:=HLo.out (c.toNat:Int) (by omega) (by omega) W1
    have hcc:(c.toNat:Int).toNat.toUInt8=c:=by simp
    rw [hcc] at hcall
    have hcon:=indexByte_contains chars.data.toList c
    generalize Lib.indexByte chars.data.toList c=z at hcall hcon
    clear hcc
    by_cases hz:0<=z
    ·rw [qdt hz] at hcon
     have HC:=qh hcon;clear hcon
     go_wp2_with (first | (go_at_call 184;refine hcall.mono ?_;rintro e W1 ⟨rfl,rfl⟩))
     go_ret
     exact ⟨ret_int (Lib.indexAny_hit HNo.out HG.out HC.out.symm).symm,HN.out⟩
    rw [qdf hz] at hcon
    have hz1:decide (0<=z)=false:=qdf hz
    have HC:=qh hcon;clear hcon
    go_wp2_with (first | (go_at_call 184;refine hcall.mono ?_;rintro e W1 ⟨rfl,rfl⟩))
    go_roundw
    case rel=>exact ⟨pos+1,by omega,HK1.out,HNo.out.succ HG.out HC.out.symm,HN.out⟩
    case measure =>
     have hmu2:W1.iterPos w.heap.size=pos+1:=by simp [World.iterPos,HK1.out]
     rw [HM.out,hmu2]
     omega
   have hgd:(s.data.toList.getD pos 0)=s[pos]'hp:=by simp [List.getD,HG.out]
   obtain ⟨r1,r2,r3,r4⟩:=decode_high s pos hp (by rw [hgd];omega)
   have hnext:∀ ty,(Instr.next (.pointer (some ⟨w.heap.size,0,none⟩)) true ty).run Tryz.prog wr=_:=fun ty=>Lib.run_next_any_at wr w.heap.size s pos ty hk hp
   have HK1:=qh (Lib.iterAt_heap wr w.heap.size s pos (pos+(Utf8.decode s pos).2) hk)
   have HN:=qh (show Below w.heap.size w (wr.iterAt w.heap.size s (pos+(Utf8.decode s pos).2)) from Lib.below_iterAt hnx (qr _) s _)
   have HSk:=qh (noAny_skip HNo.out HCA.out r4)
   clear hk hnx r4 hgd
   generalize wr.iterAt w.heap.size s (pos+(Utf8.decode s pos).2)=W1 at hnext HK1 HN
   generalize (Utf8.decode s pos).1=r at hnext r1
   generalize (Utf8.decode s pos).2=k at HK1 r2 r3 HSk
   have hcall:=HH.out (r:Int) (by omega) W1
   go_wp2_with (first | (go_at_call 184;refine hcall.mono ?_;rintro e W2 ⟨rfl,hb2⟩))
   go_roundw
   case rel=>exact ⟨pos+k,r3,by rw [hb2.block _ (by have:=HK1.out;exact (Array.getElem?_eq_some_iff.1 this).1)];exact HK1.out,HSk.out,HN.out.trans (hb2.mono HN.out.size)⟩
   case measure =>
    have hmu2:W2.iterPos w.heap.size=pos+k:=by
     have:W2.heap[w.heap.size]? = some (.stringIter s (pos+k)):=by rw [hb2.block _ (Array.getElem?_eq_some_iff.1 HK1.out).1];exact HK1.out
     simp [World.iterPos,this]
    rw [HM.out,hmu2]
    omega
  have hnext:∀ ty,(Instr.next (.pointer (some ⟨w.heap.size,0,none⟩)) true ty).run Tryz.prog wr=_:=fun ty=>Lib.run_next_end_at wr w.heap.size s pos ty hk hp
  have HN:=qh hnx;clear hnx hk
  go_wp2
  go_ret
  refine ⟨ret_int (Lib.indexAny_none ?_).symm,HN.out⟩
  have h1:=HNo.out
  have h2:pos=s.data.toList.length:=by have:=HSL.out;omega
  rw [h2] at h1
  exact h1
end
section
open Go.RowKit Qm
def AtEnd (r:At×Int):Ending:=.returned (.tuple #[.agg #[.string ⟨r.1.nm.toArray⟩,.int .i64 r.1.op,.int .i64 r.1.ver,.int .i64 r.1.slot,.string ⟨r.1.fl.toArray⟩,.bool r.1.on],.int .i64 r.2])
theorem fail_any (w:World) :
  Calls Tryz.prog 178 #[] w fun e w'=>e=.returned (.tuple #[.agg #[.string ⟨#[]⟩,.int .i64 0,.int .i64 0,.int .i64 0,.string ⟨#[]⟩,.bool false],.int .i64 1])/\Below w.heap.size w w':=by
 go_enter Tryz.func178,Tryz.ntmps178
 go_wp2
 refine bodyPost_ret (v:=.tuple #[.agg #[_,_,_,_,_,_],.int .i64 _]) (by simp [results,Tryz.results178,go_sem]) rfl ⟨rfl, ?_⟩
 exact (qbr _ _).alloc (qr _) _
structure PS (w:World) (op ver slot:Int) (f:ByteArray) (on:Bool) (wx:World):Prop where
 z:Whole wx w.heap.size 75 [.string ⟨#[]⟩,.int .i64 0,.int .i64 0,.int .i64 0,.string ⟨#[]⟩,.bool false]
 a:Whole wx (w.heap.size+1) 75 [.string ⟨#[]⟩,.int .i64 op,.int .i64 ver,.int .i64 slot,.string f,.bool on]
 b:Below w.heap.size w wx
section
variable {w wx wy : World} {op ver slot : Int} {f : ByteArray} {on : Bool}
theorem PS.below (h:PS w op ver slot f on wx) (hb:Below wx.heap.size wx wy):PS w op ver slot f on wy:=
 ⟨h.z.below hb h.z.lt,h.a.below hb h.a.lt,h.b.trans (hb.mono h.b.size)⟩
theorem PS.new (w:World):PS w 0 0 0 ⟨#[]⟩ false ((w.alloc (.cells #[.string ⟨#[]⟩,.int .i64 0,.int .i64 0,.int .i64 0,.string ⟨#[]⟩,.bool false] 75)).alloc (.cells #[.string ⟨#[]⟩,.int .i64 0,.int .i64 0,.int .i64 0,.string ⟨#[]⟩,.bool false] 75)):=
 ⟨(Whole.new w _ _ [.string ⟨#[]⟩,.int .i64 0,.int .i64 0,.int .i64 0,.string ⟨#[]⟩,.bool false] rfl).alloc _,Whole.new _ _ _ [.string ⟨#[]⟩,.int .i64 0,.int .i64 0,.int .i64 0,.string ⟨#[]⟩,.bool false] (by simp),
  ((qbr _ w).alloc (qr _) _).alloc (by simp) _⟩
theorem PS.drew (h:PS w op ver slot f on wx):PS w op ver slot f on wx.drew:=⟨h.z.drew,h.a.drew,h.b.drew⟩
theorem PS.flag (h:PS w op ver slot f on wx) (g:ByteArray):PS w op ver slot g on (wx.setCell ⟨w.heap.size+1,4,none⟩ (.string g)):=
 ⟨h.z.far (by show w.heap.size≠w.heap.size+1;omega) _,h.a.set_ 4 _,h.b.setCell (by show w.heap.size<=w.heap.size+1;omega) _⟩
theorem PS.on_ (h:PS w op ver slot f on wx) (g:Bool):PS w op ver slot f g (wx.setCell ⟨w.heap.size+1,5,none⟩ (.bool g)):=
 ⟨h.z.far (by show w.heap.size≠w.heap.size+1;omega) _,h.a.set_ 5 _,h.b.setCell (by show w.heap.size<=w.heap.size+1;omega) _⟩
theorem PS.slot_ (h:PS w op ver slot f on wx) (g:Int):PS w op ver g f on (wx.setCell ⟨w.heap.size+1,3,none⟩ (.int .i64 g)):=
 ⟨h.z.far (by show w.heap.size≠w.heap.size+1;omega) _,h.a.set_ 3 _,h.b.setCell (by show w.heap.size<=w.heap.size+1;omega) _⟩
theorem PS.op_ (h:PS w op ver slot f on wx) (g v:Int):PS w g v slot f on ((wx.setCell ⟨w.heap.size+1,1,none⟩ (.int .i64 g)).setCell ⟨w.heap.size+1,2,none⟩ (.int .i64 v)):=
 ⟨(h.z.far (by show w.heap.size≠w.heap.size+1;omega) _).far (by show w.heap.size≠w.heap.size+1;omega) _,(h.a.set_ 1 _).set_ 2 _,(h.b.setCell (by show w.heap.size<=w.heap.size+1;omega) _).setCell (by show w.heap.size<=w.heap.size+1;omega) _⟩
end
theorem ops_at0 (wx:World):(Instr.index 227 (.agg #[.string ⟨#[]⟩,.string ⟨#[61]⟩,.string ⟨#[62,61]⟩,.string ⟨#[60]⟩]) (.int .i64 0)).run Tryz.prog wx=.ok (.string ⟨#[]⟩) wx:=by
 simp [Instr.index,run_underlying Tryz.underlying227,go_sem]
def cutLen:Option (List UInt8×UInt8×List UInt8)->Int
 | none=>-1
 | some (a,_,_)=>(a.length:Int)
theorem cut_any (cs:List UInt8) (p:UInt8->Bool) (h:∀ c,cs.contains c=p c) (l:List UInt8):Lib.indexAny l cs=cutLen (cutAt p l):=by
 rw [cutAt_indexAny]
 have:(fun c=>List.contains cs c)=p:=funext h
 rw [this]
 rcases cutAt p l with _ | ⟨a,b,d⟩ <;> rfl
theorem beq_d (a b:UInt8):(a == b)=decide (a=b):=by rw [Bool.eq_iff_iff];simp
theorem cut_sign (l:List UInt8):Lib.indexAny l [43,45]=cutLen (cutAt signB l):=cut_any _ _ (fun c=>by simp [signB,beq_d]) l
theorem cut_op (l:List UInt8):Lib.indexAny l [61,60,62]=cutLen (cutAt opB l):=cut_any _ _ (fun c=>by simp [opB,beq_d,Bool.or_assoc]) l
theorem cut_colon (l:List UInt8):Lib.indexByte l 58=cutLen (cutAt (· == 58) l):=by
 rw [<- Lib.indexAny_one]
 exact cut_any _ _ (fun c=>by simp [beq_d]) l
theorem bs_take (R:ByteArray) {a d:List UInt8} {c:UInt8} (h:R.data.toList=a++c :: d):(R.extract 0 a.length).data.toList=a:=by
 rw [Lib.extract_data,h];simp
theorem bs_drop (R:ByteArray) {a d:List UInt8} {c:UInt8} (h:R.data.toList=a++c :: d):(R.extract (a.length+1) R.size).data.toList=d:=by
 rw [Lib.extract_to_end,h];simp
theorem bs_get (R:ByteArray) {a d:List UInt8} {c:UInt8} (h:R.data.toList=a++c :: d) (hlt:a.length<R.size):R[a.length]'hlt=c:=by
 have:R.data.toList[a.length]? = some c:=by rw [h];simp
 have h2:R.data.toList[a.length]? = some (R[a.length]'hlt):=by
  rw [qge (by rw [<- Lib.size_eq];exact hlt)];rfl
 rw [h2] at this
 exact Option.some.inj this
end
end Go.Proofs.YtedbhlgjcnnknaaGreatDoor
