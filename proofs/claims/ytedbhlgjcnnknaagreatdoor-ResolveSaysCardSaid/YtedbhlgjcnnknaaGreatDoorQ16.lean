/- Parts. -/
import Derived.Test.YtedbhlgjcnnknaaGreatDoorQ15
set_option linter.unusedVariables false
set_option linter.unusedSimpArgs false
set_option linter.unusedSectionVars false
set_option maxRecDepth 100000
set_option maxHeartbeats 12800000
namespace Go.Proofs.YtedbhlgjcnnknaaGreatDoor
section
open Go.RowKit Qm
structure Nst (q:Dp) (E:Nat->Prop) (w:World) (nv:List Value) (mp:Nat) (s:Dk×List Int) (lv:Value) (wr:World):Prop where
 box:Whole wr w.heap.size 99 nv
 own:wr.ownsRow w.heap.size 3 1 lv s.2.length (s.2.map (.int .i64))
 dk:Desk q (fun j=>(E j\/j=w.heap.size)\/Cv lv j) mp s.1 wr
 fd:Fd q E w wr
 ne:∀ j,Cv lv j->¬ (E j\/j=w.heap.size)
section
variable {q : Dp} {E : Nat → Prop} {w : World} {av : List Value} {mp : Nat} {s : Dk × List Int} {lv : Value} {wr wy : World}
theorem Nst.move (h:Nst q E w av mp s lv wr) (hb:Below wr.heap.size wr wy):Nst q E w av mp s lv wy:=
 ⟨h.box.below hb h.box.lt,(Far.of_below (fun _=>False) hb).own h.own fun _ _ h=>h,h.dk.move hb,h.fd.trans (Fd.of_below q E hb) fun _ _ h=>h,h.ne⟩
theorem Nst.push (h:Nst q E w av mp s lv wr) {x:Int} {lv':Value} {w4:World} {o:Obj} (hb:q.base<=w.heap.size) (ho:w4.ownsRow w.heap.size 3 1 lv' (s.2.length+1) (s.2.map (.int .i64)++[.int .i64 x])) (hg:(wr.alloc o).grownBy w4 lv.ownBlock)
  (hv:lv'.ownBlock=lv.ownBlock\/lv'.ownBlock=some (wr.alloc o).heap.size):Nst q E w av mp (s.1,s.2++[x]) lv' w4:=by
 have hal:Below wr.heap.size wr (wr.alloc o):=(qbr _ wr).alloc (qr _) _
 obtain ⟨h1,h2,h3⟩:=Desk.reown h.dk h.own ho hb hg hv h.ne
 exact ⟨((h.box.alloc o)).grown hg fun e=>h.ne _ e.symm (.inr rfl),by simpa using ho,h1,h.fd.trans (h2.mono fun _ h=>.inl h) fun _ _ h=>h,h3⟩
theorem Nst.turn (h:Nst q E w av mp s lv wr) {mp':Nat} {d':Dk} {E':Nat->Prop} (hd:Desk q (fun j=>(E j\/j=w.heap.size)\/Cv lv j) mp' d' wy) (hf:Fd q E' wr wy) (hE:∀ j,((E j\/j=w.heap.size)\/Cv lv j)->E' j):Nst q E w av mp' (d',s.2) lv wy:=
 ⟨hf.whole h.box (hE _ (.inl (.inr rfl))),hf.own h.own fun g hg=>hE _ (.inr hg),hd,h.fd.trans (hf.mono hE) fun _ _ h=>.inl (.inl h),h.ne⟩
theorem Nst.start (h:Desk q E mp s.1 w) (hs:s.2=[]):Nst q E w av mp s (.slice none 0 0) (w.alloc (.cells av.toArray 99)):=by
 have hal:Below w.heap.size w (w.alloc (.cells av.toArray 99)):=(qbr _ w).alloc (qr _) _
 refine ⟨Whole.new w _ _ av rfl,by rw [hs];exact World.ownsRow_nil _ _ _ _,(h.aside hal).mono fun i hi=>?_,Fd.of_below q E hal,fun j hj=>by cases hj⟩
 rcases hi with (hi | hi) | hi
 ·exact .inl hi
 ·subst hi;exact .inr ⟨qr _,by simp⟩
 cases hi
end
theorem kidsD_snoc {X:Chs} {ps:List Pk} {i:Nat} {x:Nd}:∀ (ks:List Nd) (d:Dk),kidsD X ps i (ks++[x]) d=((needD X ps i x (kidsD X ps i ks d).1).1,(kidsD X ps i ks d).2++[(needD X ps i x (kidsD X ps i ks d).1).2])
 | [],d=>rfl
 | y :: r,d=>by
  have ih:=kidsD_snoc (X:=X) (ps:=ps) (i:=i) (x:=x) r (needD X ps i y d).1
  rw [List.cons_append,kidsD,ih,kidsD]
  rfl
theorem kidsD_take {X:Chs} {ps:List Pk} {i j:Nat} {x:Nd} {ks:List Nd} {d:Dk} (h:ks[j]? = some x):kidsD X ps i (ks.take (j+1)) d=((needD X ps i x (kidsD X ps i (ks.take j) d).1).1,(kidsD X ps i (ks.take j) d).2++[(needD X ps i x (kidsD X ps i (ks.take j) d).1).2]):=by
 obtain ⟨hj,rfl⟩:=List.getElem?_eq_some_iff.1 h
 rw [List.take_succ_eq_append_getElem hj,kidsD_snoc]
theorem kidsD_mono {X:Chs} {ps:List Pk} {i:Nat} {ks:List Nd} {d:Dk} (j:Nat):DLe (kidsD X ps i (ks.take j) d).1 (kidsD X ps i ks d).1:=by
 have:∀ (a b:List Nd) (d:Dk),DLe (kidsD X ps i a d).1 (kidsD X ps i (a++b) d).1:=by
  intro a
  induction a with
  | nil=>intro b d;exact kidsD_le X ps i b (fun y _ d=>needD_le X ps i y d) d
  | cons y r ih=>intro b d;rw [List.cons_append,kidsD,kidsD];exact ih b _
 have h:=this (ks.take j) (ks.drop j) d
 rwa [List.take_append_drop] at h
theorem nodesL_take {ks:List Nd} {i:Nat} {y:Nd} (h:ks[i]? = some y):nodesL (ks.take i)+y.nodes<=nodesL ks:=by
 induction ks generalizing i with
 | nil=>simp at h
 | cons x r ih =>
  cases i with
  | zero=>simp only [qgz,Option.some.injEq] at h;subst h;simp [nodesL]
  | succ i =>
   have:=ih (i:=i) (by simpa using h)
   simp only [List.take_succ_cons,nodesL];omega
theorem kidsD_len {X:Chs} {ps:List Pk} {i:Nat}:∀ (ks:List Nd) (d:Dk),(kidsD X ps i ks d).2.length=ks.length
 | [],_=>rfl
 | x :: r,d=>by rw [kidsD];simp [kidsD_len r]
def NeedP (q:Dp) (E:Nat->Prop) (mp k:Nat) (r:Dk×Int) (w:World) (e:Ending) (w':World):Prop:=
 e=.returned (.int .i64 r.2)/\∃ mp',Desk q E mp' r.1 w'/\Fd q E w w'/\mp'<=mp+k
theorem dneed_any (q:Dp) (i:Nat) (hi:i<q.n) (h8:q.n<=8):∀ (y:Nd) (E:Nat->Prop) (mp:Nat) (d:Dk) (cx:List Value) (w:World),Desk q E mp d w->DIn q.X q.ps d->RNd w q.S0 cx y->(∀ f∈flagsN y,f∈(pkOf q.ps i).fs)->y.nodes<=20->mp+8 * y.nodes<=900000 ->
   (needD q.X q.ps i y d).1.vars<=100000->(needD q.X q.ps i y d).1.cls.length<=100000 ->
  Calls Tryz.prog 46 #[.pointer (some ⟨q.b,0,none⟩),.int .i64 (i:Int),.agg cx.toArray] w (NeedP q E mp (8 * y.nodes) (needD q.X q.ps i y d) w):=by
 refine Nd.ind fun kd a f no ks ih=>?_
 intro E mp d cx w hD hin hx hfl hnd hmp hv hc
 obtain ⟨D,r,e,rfl,hre,he,h1,h2,h3,hK⟩:=hx.open_
 have hqb:=hD.base_
 have HD:=qh hD;have HIN:=qh hin;have HK:=qh hK;have HNS:Hid (1+nodesL ks<=20/\mp+8 * (1+nodesL ks)<=900000):=qh (by simp only [Nd.nodes] at hnd hmp;exact ⟨hnd,hmp⟩)
 have HIH:=qh ih
 have HFL:=qh hfl
 have HLen:=qh hD.len
 have hip:i<q.ps.length:=by rw [HLen.out];exact hi
 have HIP:=qh hip
 have M0:=qh (Nst.start (av:=ndRow kd a f no D r e) (s:=(d,[])) HD.out rfl)
 have hdef:needD q.X q.ps i (.mk kd a f no ks) d=if kd=1 then oneD (meansD q.X q.ps a (-1) d).1 (meansD q.X q.ps a (-1) d).2
  else if kd=2 then ((oneD (meansD q.X q.ps a i d).1 (meansD q.X q.ps a i d).2).1,-(oneD (meansD q.X q.ps a i d).1 (meansD q.X q.ps a i d).2).2)
  else if kd=4 then oneD (kidsD q.X q.ps i ks d).1 (kidsD q.X q.ps i ks d).2
  else if kd=5 then oneD (bothD (kidsD q.X q.ps i ks d).1 (kidsD q.X q.ps i ks d).2).1 [-ifLit q.X q.ps i f no,(bothD (kidsD q.X q.ps i ks d).1 (kidsD q.X q.ps i ks d).2).2]
  else bothD (kidsD q.X q.ps i ks d).1 (kidsD q.X q.ps i ks d).2:=by rw [needD]
 rw [show 8 * Nd.nodes (.mk kd a f no ks)=8 * (1+nodesL ks) by simp only [Nd.nodes]]
 unfold maxLen at he
 unfold ndRow at M0 ⊢
 clear hD hin hx hfl ih hK h1 h2 h3 hnd hmp
 by_cases k1:kd=1
 ·subst k1
  rw [if_pos rfl] at hdef
  rw [hdef] at hv hc ⊢
  have hm:=meansTo_in HIN.out a (-1) q.ps.length (qr _)
  have hml:=oneD_le (meansD q.X q.ps a (-1) d).1 (meansD q.X q.ps a (-1) d).2
  have HM:=qh (dmeans_any q (fun j=>E j\/j=w.heap.size) mp d a (-1) _ (M0.out.dk.mono fun _ h=>.inl h) HIN.out h8 (by have:=HNS.out;omega) (qlt hml.1 hv) (qlt hml.2 hc))
  have HON:=qh (fun (wx:World) (mp':Nat) A c (hd:Desk q (fun j=>(E j\/j=w.heap.size)\/Cv (.slice A (meansD q.X q.ps a (-1) d).2.length c) j) mp' (meansD q.X q.ps a (-1) d).1 wx) (hr:RInts wx (Cv (.slice A (meansD q.X q.ps a (-1) d).2.length c)) A (meansD q.X q.ps a (-1) d).2.length (meansD q.X q.ps a (-1) d).2) (hn:(meansD q.X q.ps a (-1) d).2.length<=c/\c<=maxLen) =>
   done_any q _ (Cv (.slice A (meansD q.X q.ps a (-1) d).2.length c)) mp' (meansD q.X q.ps a (-1) d).1 A (meansD q.X q.ps a (-1) d).2.length c (meansD q.X q.ps a (-1) d).2 wx hd hr (fun k hk=>⟨(hd.e k (.inr hk)).2,.inl (.inr hk)⟩) hn (by have h:=meansTo_len (X:=q.X) (ps:=q.ps) (a:=a) (but:=(-1)) (d:=d) q.ps.length;have:=HLen.out;unfold meansD;omega) hm.2 (qlt hml.1 hv) hc)
  have hob:=oneD_in hm.1 hm.2
  have HOB:Hid ((oneD (meansD q.X q.ps a (-1) d).1 (meansD q.X q.ps a (-1) d).2).2.natAbs<=100000):=qh (qlt hob.2 hv)
  have n1:=M0.out.box.cell 1;have n2:=M0.out.box.cell 2;have n3:=M0.out.box.cell 3;have n4:=M0.out.box.cell 4;have n5:=M0.out.box.cell 5;have n6:=M0.out.box.cell 6
  simp only [qgz,qgs] at n1 n2 n3 n4 n5 n6
  clear hm hml hv hc hdef hob
  generalize (meansD q.X q.ps a (-1) d)=md at HM HON HOB ⊢
  go_enter Tryz.func46,Tryz.ntmps46
  go_wp2_with (first | (go_at_call 47;refine HM.out.mono ?_;rintro e2 w3 ⟨A3,c3,mp3,rfl,hc3,hm3,hr3,hd3,hf3,hn3,hp3⟩;refine Hid.out ?_))
  refine qh ?_
  have HO:=qh (HON.out w3 mp3 A3 c3 hd3 hr3 ⟨hc3,hm3⟩)
  have HF3:Hid (Fd q E w w3):=qh (M0.out.fd.trans hf3 fun _ _ h=>.inl h)
  have HP3:=qh hp3
  obtain ⟨md1,ml⟩:=md
  dsimp only at HO ⊢
  generalize ml.length=LL at HO ⊢
  generalize hone:oneD md1 ml=ro at HO HOB ⊢
  obtain ⟨rd,rx⟩:=ro
  dsimp only at HO HOB ⊢
  have hrx : -200000<=rx/\rx<=200000:=by have:=HOB.out;omega
  clear hc3 hm3 hr3 hd3 hf3 hn3 hp3 HON HM n1 n2 n3 n4 n5 n6
  have HRO:=qh hone
  clear hone
  go_wp2_with (first | (go_at_call 78;refine HO.out.mono ?_;rintro e3 w4 ⟨rfl,hd4,hf4⟩;refine Hid.out ?_))
  refine qh ?_
  have HD4:=qh (hd4.mono fun j h=>.inl (.inl h))
  have HF4:Hid (Fd q E w w4):=qh (HF3.out.trans hf4 fun _ _ h=>.inl (.inl h))
  clear hd4 hf4 HO
  go_wp2
  go_ret
  exact ⟨by rw [HRO.out];rfl,mp3,by rw [HRO.out];exact HD4.out,HF4.out,by have:=HP3.out;omega⟩
 by_cases k2:kd=2
 ·subst k2
  rw [if_neg (by decide),if_pos rfl] at hdef
  rw [hdef] at hv hc ⊢
  dsimp only at hv hc
  have hbi:(i:Int)<=8:=by omega
  have hm:=meansTo_in HIN.out a (i:Int) q.ps.length (qr _)
  have hml:=oneD_le (meansD q.X q.ps a (i:Int) d).1 (meansD q.X q.ps a (i:Int) d).2
  have HM:=qh (dmeans_any q (fun j=>E j\/j=w.heap.size) mp d a (i:Int) _ (M0.out.dk.mono fun _ h=>.inl h) HIN.out h8 (by have:=HNS.out;omega) (qlt hml.1 hv) (qlt hml.2 hc))
  have HON:=qh (fun (wx:World) (mp':Nat) A c (hd:Desk q (fun j=>(E j\/j=w.heap.size)\/Cv (.slice A (meansD q.X q.ps a (i:Int) d).2.length c) j) mp' (meansD q.X q.ps a (i:Int) d).1 wx) (hr:RInts wx (Cv (.slice A (meansD q.X q.ps a (i:Int) d).2.length c)) A (meansD q.X q.ps a (i:Int) d).2.length (meansD q.X q.ps a (i:Int) d).2) (hn:(meansD q.X q.ps a (i:Int) d).2.length<=c/\c<=maxLen) =>
   done_any q _ (Cv (.slice A (meansD q.X q.ps a (i:Int) d).2.length c)) mp' (meansD q.X q.ps a (i:Int) d).1 A (meansD q.X q.ps a (i:Int) d).2.length c (meansD q.X q.ps a (i:Int) d).2 wx hd hr (fun k hk=>⟨(hd.e k (.inr hk)).2,.inl (.inr hk)⟩) hn (by have h:=meansTo_len (X:=q.X) (ps:=q.ps) (a:=a) (but:=(i:Int)) (d:=d) q.ps.length;have:=HLen.out;unfold meansD;omega) hm.2 (qlt hml.1 hv) hc)
  have hob:=oneD_in hm.1 hm.2
  have HOB:Hid ((oneD (meansD q.X q.ps a (i:Int) d).1 (meansD q.X q.ps a (i:Int) d).2).2.natAbs<=100000):=qh (qlt hob.2 hv)
  have n1:=M0.out.box.cell 1;have n2:=M0.out.box.cell 2;have n3:=M0.out.box.cell 3;have n4:=M0.out.box.cell 4;have n5:=M0.out.box.cell 5;have n6:=M0.out.box.cell 6
  simp only [qgz,qgs] at n1 n2 n3 n4 n5 n6
  clear hm hml hv hc hdef hob
  generalize (meansD q.X q.ps a (i:Int) d)=md at HM HON HOB ⊢
  go_enter Tryz.func46,Tryz.ntmps46
  go_wp2_with (first | (go_at_call 47;refine HM.out.mono ?_;rintro e2 w3 ⟨A3,c3,mp3,rfl,hc3,hm3,hr3,hd3,hf3,hn3,hp3⟩;refine Hid.out ?_))
  refine qh ?_
  have HO:=qh (HON.out w3 mp3 A3 c3 hd3 hr3 ⟨hc3,hm3⟩)
  have HF3:Hid (Fd q E w w3):=qh (M0.out.fd.trans hf3 fun _ _ h=>.inl h)
  have HP3:=qh hp3
  obtain ⟨md1,ml⟩:=md
  dsimp only at HO ⊢
  generalize ml.length=LL at HO ⊢
  generalize hone:oneD md1 ml=ro at HO HOB ⊢
  obtain ⟨rd,rx⟩:=ro
  dsimp only at HO HOB ⊢
  have hrx : -200000<=rx/\rx<=200000:=by have:=HOB.out;omega
  clear hc3 hm3 hr3 hd3 hf3 hn3 hp3 HON HM n1 n2 n3 n4 n5 n6
  have HRO:=qh hone
  clear hone
  go_wp2_with (first | (go_at_call 78;refine HO.out.mono ?_;rintro e3 w4 ⟨rfl,hd4,hf4⟩;refine Hid.out ?_))
  refine qh ?_
  have HD4:=qh (hd4.mono fun j h=>.inl (.inl h))
  have HF4:Hid (Fd q E w w4):=qh (HF3.out.trans hf4 fun _ _ h=>.inl (.inl h))
  clear hd4 hf4 HO
  go_wp2
  go_ret
  exact ⟨by rw [HRO.out];rfl,mp3,by rw [HRO.out];exact HD4.out,HF4.out,by have:=HP3.out;omega⟩
 have k1':(kd == 1)=false:=by simpa using k1
 have k2':(kd == 2)=false:=by simpa using k2
 rw [if_neg k1,if_neg k2] at hdef
 have hkle:DLe (kidsD q.X q.ps i ks d).1 (needD q.X q.ps i (.mk kd a f no ks) d).1:=by
  rw [hdef]
  split
  ·exact oneD_le ..
  split
  ·exact (bothD_le ..).trans (oneD_le ..)
  exact bothD_le ..
 have HKL:=qh hkle
 have HV:=qh hv;have HC:=qh hc
 have HDEF:=qh hdef
 have HK12:=qh (And.intro k1 k2)
 have Hkl:=qh HK.out.len
 have n0:=M0.out.box.cell 0;have n9:=M0.out.box.cell 9
 simp only [qgz,qgs] at n0 n9
 have M1:Hid (Nst q E w [.int .i64 kd,.string ⟨a.nm.toArray⟩,.int .i64 a.op,.int .i64 a.ver,.int .i64 a.slot,.string ⟨a.fl.toArray⟩,.bool a.on,.string ⟨f.toArray⟩,.bool no,.slice D r e] mp (kidsD q.X q.ps i (ks.take 0) d) (.slice none 0 0) (w.alloc (.cells #[.int .i64 kd,.string ⟨a.nm.toArray⟩,.int .i64 a.op,.int .i64 a.ver,.int .i64 a.slot,.string ⟨a.fl.toArray⟩,.bool a.on,.string ⟨f.toArray⟩,.bool no,.slice D r e] 99))):=M0
 obtain ⟨i0,hi0,hz0,hz1,hz2⟩:=info_parts int_infoE
 have Hi:=qh hi0;have Hz0:=qh hz0;have Hz1:=qh hz1;have Hz2:=qh hz2
 clear hkle hv hc hdef k1 k2 M0 hi0 hz0 hz1 hz2
 go_enter Tryz.func46,Tryz.ntmps46
 go_wp2
 go_loopg [7,35] r (fun g lv iv wr=>∃ (j mp':Nat),Hid (j+g=r)/\iv=.int .i64 j/\Hid (mp'<=mp+8 * nodesL (ks.take j))/\Hid (Nst q E w [.int .i64 kd,.string ⟨a.nm.toArray⟩,.int .i64 a.op,.int .i64 a.ver,.int .i64 a.slot,.string ⟨a.fl.toArray⟩,.bool a.on,.string ⟨f.toArray⟩,.bool no,.slice D r e] mp' (kidsD q.X q.ps i (ks.take j) d) lv wr))
 case atStart=>exact ⟨0,mp,qh (Nat.zero_add _),rfl,qh (Nat.le_add_right _ _),M1⟩
 case round =>
  obtain ⟨j,mp',Hj,rfl,HMP,HM⟩:=hrel
  clear M1 n0 n9
  by_cases hj:j<r
  ·obtain ⟨b,o,x,y,hCe,hbS,hy,hxy,hcell⟩:=(HK.out.keep (w':=wr) fun p hp=>HM.out.fd.old (HD.out.s0 _ hp) hqb).at_ hj
   subst hCe
   have hyk:=List.mem_of_getElem? hy
   have hst:=kidsD_take (X:=q.X) (ps:=q.ps) (i:=i) (d:=d) hy
   have hmo:=kidsD_mono (X:=q.X) (ps:=q.ps) (i:=i) (ks:=ks) (d:=d) (j+1)
   have hin:=kidsD_in (ks.take j) (fun x _ d h=>needD_in HIP.out x d h) d HIN.out
   have hnt:=nodesL_take hy
   have hntn:nodesL (ks.take (j+1))=nodesL (ks.take j)+y.nodes:=by
    obtain ⟨hjj,rfl⟩:=List.getElem?_eq_some_iff.1 hy
    rw [List.take_succ_eq_append_getElem hjj]
    have:∀ (u:List Nd) (z:Nd),nodesL (u++[z])=nodesL u+z.nodes:=by
     intro u z
     induction u with
     | nil=>simp [nodesL]
     | cons c t ih=>rw [List.cons_append,nodesL,ih,nodesL];omega
    exact this _ _
   have hns:=HNS.out
   have hlen:=kidsD_len (X:=q.X) (ps:=q.ps) (i:=i) (ks.take j) d
   rw [List.length_take] at hlen
   have hkl:=kids_nodes (ks:=ks)
   have Hkl1:=Hkl.out
   obtain ⟨s,hs⟩:∃ s,s=kidsD q.X q.ps i (ks.take j) d:=⟨_,rfl⟩
   rw [<- hs] at HM hst hin hlen
   obtain ⟨lN,hlN⟩:∃ N,N=s.2.length:=⟨_,rfl⟩
   have hl3:lN<=100:=by omega
   have hown:=HM.out.own
   rw [<- hlN] at hown
   obtain ⟨lA,lc,rfl,hl1,hl2,hlrow⟩:=own_form hown
   have HLN:=qh hlN
   have HST:=qh hst
   have HNT:=qh hntn
   have hbl:b<wr.heap.size:=ql (ql (HD.out.s0 _ hbS) hqb) HM.out.fd.size
   have hob:=needD_in HIP.out y s.1 hin.1
   have hle1:DLe (needD q.X q.ps i y s.1).1 (needD q.X q.ps i (.mk kd a f no ks) d).1:=by
    rw [hst] at hmo;exact hmo.trans HKL.out
   have hyn:y.nodes<=20:=by omega
   have hyf:∀ g∈flagsN y,g∈(pkOf q.ps i).fs:=fun g hg=>HFL.out g (by unfold flagsN;exact List.mem_append_right _ (flagsN_sub hyk g hg))
   obtain ⟨k2,a2,f2,no2,ks2⟩:=y
   obtain ⟨D2,r2,e2,rfl,_,_,_,_,_,_⟩:=hxy.open_
   have g0:=hcell 0 (by omega);have g1:=hcell 1 (by omega);have g2:=hcell 2 (by omega);have g3:=hcell 3 (by omega);have g4:=hcell 4 (by omega);have g5:=hcell 5 (by omega);have g6:=hcell 6 (by omega);have g7:=hcell 7 (by omega);have g8:=hcell 8 (by omega);have g9:=hcell 9 (by omega)
   have hbx:Below wr.heap.size wr (wr.alloc (.cells (ndRow k2 a2 f2 no2 D2 r2 e2).toArray 99)):=(qbr _ _).alloc (qr _) _
   have M1:=qh (HM.out.move hbx)
   have HCL:=qh (HIH.out _ hyk (fun j=>(E j\/j=w.heap.size)\/Cv (.slice lA lN lc) j) mp' s.1 (ndRow k2 a2 f2 no2 D2 r2 e2) _ M1.out.dk hin.1 (hxy.keep fun p hp=>hbx.cell (ql (ql (HD.out.s0 _ hp) hqb) HM.out.fd.size)) hyf hyn (by have:=HMP.out;omega) (qlt hle1.1 HV.out) (qlt hle1.2 HC.out))
   have HOB:Hid ((needD q.X q.ps i (.mk k2 a2 f2 no2 ks2) s.1).2.natAbs<=100000):=qh (qlt hob.2 (qlt hle1.1 HV.out))
   generalize Nd.nodes (.mk k2 a2 f2 no2 ks2)=ny at HCL HNT
   generalize needD q.X q.ps i (.mk k2 a2 f2 no2 ks2) s.1=rr at HCL HOB HST
   obtain ⟨rd,rx⟩:=rr
   unfold ndRow at g0 g1 g2 g3 g4 g5 g6 g7 g8 g9 HCL M1
   simp only [qgz,qgs,Nat.add_zero] at g0 g1 g2 g3 g4 g5 g6 g7 g8 g9
   have hrx : -200000<=rx/\rx<=200000:=by have:=HOB.out;dsimp only at this;omega
   clear hcell hxy hy hyk hbx hst hmo hin hnt hntn hns hlen hkl Hkl1 hs hown hlN hl2 hlrow hob hle1 hyn hyf HM hbS
   go_wp2_with (first | (go_at_call 46;refine HCL.out.mono ?_;rintro e3 w3 ⟨rfl,mp3,hd3,hf3,hp3⟩;refine Hid.out ?_))
   refine qh ?_
   have M3:=qh (M1.out.turn hd3 hf3 fun _ h=>h)
   have HP3:=qh hp3
   have HO3:Hid (w3.ownsRow w.heap.size 3 1 (.slice lA lN lc) lN (s.2.map (.int .i64))):=qh (by have h:=M3.out.own;rw [<- HLN.out] at h;exact h)
   have hsz3:w.heap.size<=w3.heap.size:=M3.out.fd.size
   clear hd3 hf3 hp3 g0 g1 g2 g3 g4 g5 g6 g7 g8 g9 HCL M1
   go_wp2_with (at_builtin;refine wpList_append_own_at _ rfl _ _ 27 rfl w.heap.size 3 i0 (.int .i64 0) 1 8 Tryz.underlying27 Hi.out Hz0.out Hz1.out Hz2.out rfl (by decide) _ _ _ rfl (HO3.out.alloc _) ⟨w3.heap.size,0,none⟩ 1 1 [.int .i64 rx] rfl rfl ?d1 ?d2 ?d3 ?d4 ?d5 ?_)
   try (case d1=>exact cell_one_new _ _ _)
   try (case d2=>simp [Value.oneCell'])
   try (case d3=>unfold maxLen;omega)
   try (case d4=>omega)
   try (case d5=>first | omega | (simp;omega))
   intro lv' w9 hown9 hg9 _ hat9
   have M9:=qh (Nst.push (x:=rx) M3.out hqb (by (try dsimp only);rw [<- HLN.out];simpa using hown9) hg9 (by simpa using hat9))
   clear hown9 hg9 hat9
   go_wp2
   go_roundg (gk - 1)
   case measure=>have:=Hj.out;omega
   case rel=>exact ⟨j+1,mp3,qh (by have:=Hj.out;omega),by go_num,qh (by have:=HP3.out;have:=HMP.out;rw [HNT.out];omega),qh (by rw [HST.out];exact M9.out)⟩
  obtain rfl:r=j:=by have:=Hj.out;omega
  have hfull:ks.take r=ks:=List.take_of_length_le (by rw [Hkl.out];exact qr _)
  rw [hfull] at HM HMP
  have hin:=kidsD_in ks (fun x _ d h=>needD_in HIP.out x d h) d HIN.out
  have hlen:=kidsD_len (X:=q.X) (ps:=q.ps) (i:=i) ks d
  have hns:=HNS.out
  have hkl:=kids_nodes (ks:=ks)
  rw [Hkl.out] at hlen hkl
  have hr20:r<=20:=by omega
  obtain ⟨s,hs⟩:∃ s,s=kidsD q.X q.ps i ks d:=⟨_,rfl⟩
  rw [<- hs] at HM hin hlen HKL HDEF
  have HINs:=qh hin
  obtain ⟨lA,lc,hlv,hl1,hl2,hrow⟩:=own_formK HM.out.own
  rw [Nat.mul_one] at hrow
  subst hlv
  have HROW:=qh hrow
  have HCAP:Hid (s.2.length<=lc/\lc<=maxLen):=qh ⟨hl1,hl2⟩
  obtain ⟨lN,hlN⟩:∃ N,N=s.2.length:=⟨_,rfl⟩
  rw [<- hlN] at HM HROW HCAP hlen ⊢
  subst hlen
  have n0:=HM.out.box.cell 0;have n7:=HM.out.box.cell 7;have n8:=HM.out.box.cell 8
  simp only [qgz,qgs] at n0 n7 n8
  have hbl:=HM.out.box.lt
  clear hfull hin hns hkl hs hrow hl1 hl2 hlN
  by_cases k4:kd=4
  ·subst k4
   have HN:Hid (needD q.X q.ps i (.mk 4 a f no ks) d=oneD s.1 s.2):=qh (by rw [HDEF.out,if_pos rfl])
   have HO:=qh (done_any q _ (Cv (.slice lA lN lc)) mp' s.1 lA lN lc s.2 wr HM.out.dk HROW.out (fun k hk=>⟨(HM.out.dk.e k (.inr hk)).2,.inl (.inr hk)⟩) HCAP.out (by omega) HINs.out.2 (qlt HKL.out.1 HV.out) (by rw [<- HN.out];exact HC.out))
   generalize oneD s.1 s.2=ro at HO HN
   obtain ⟨rd,rx⟩:=ro
   dsimp only at HO
   go_wp2_with (first | (go_at_call 78;refine HO.out.mono ?_;rintro e3 w4 ⟨rfl,hd4,hf4⟩;refine Hid.out ?_))
   refine qh ?_
   have HD4:=qh (hd4.mono fun j h=>.inl (.inl h))
   have HF4:Hid (Fd q E w w4):=qh (HM.out.fd.trans hf4 fun _ _ h=>.inl (.inl h))
   clear hd4 hf4 HO
   go_wp2
   go_ret
   exact ⟨by rw [HN.out];rfl,mp',by rw [HN.out];exact HD4.out,HF4.out,by have:=HMP.out;omega⟩
  have k4':(kd == 4)=false:=by simpa using k4
  have hdef:=HDEF.out
  rw [if_neg k4] at hdef
  have hbin:=bothD_in HINs.out.1 HINs.out.2
  have hble:DLe (bothD s.1 s.2).1 (needD q.X q.ps i (.mk kd a f no ks) d).1:=by
   rw [hdef]
   split
   ·exact oneD_le ..
   exact DLe.refl _
  have HB:=qh (dboth_any q _ (Cv (.slice lA lN lc)) mp' s.1 lA lN lc s.2 wr HM.out.dk HROW.out (fun k hk=>⟨(HM.out.dk.e k (.inr hk)).2,.inl (.inr hk)⟩) HCAP.out (by omega) HINs.out.2 (qlt HKL.out.1 HV.out) (qlt hble.2 HC.out))
  have HDEF2:=qh hdef
  have HBI:=qh hbin
  have HBV:Hid ((bothD s.1 s.2).1.vars<=100000):=qh (qlt hble.1 HV.out)
  clear hdef hbin hble
  generalize bothD s.1 s.2=rb at HB HDEF2 HBI HBV
  obtain ⟨db,xb⟩:=rb
  dsimp only at HB HBI HBV HDEF2
  have hxb : -200000<=xb/\xb<=200000:=by have:=HBI.out.2;have:=HBV.out;omega
  by_cases k5:kd=5
  ·subst k5
   have HN:Hid (needD q.X q.ps i (.mk 5 a f no ks) d=oneD db [-ifLit q.X q.ps i f no,xb]):=qh (by rw [HDEF2.out,if_pos rfl])
   have hff:f∈(pkOf q.ps i).fs:=HFL.out f (by unfold flagsN;rw [if_pos rfl];simp)
   have HFF:=qh hff
   clear hff
   go_upto_region 16 with (first | (go_at_call 79;refine HB.out.mono ?_;rintro e3 w3 ⟨rfl,hd3,hf3⟩;refine Hid.out ?_))
   refine qh ?_
   have M3:=qh (HM.out.turn hd3 hf3 fun _ h=>h)
   clear hd3 hf3 n0 n7 n8 hbl HB
   have n0:=M3.out.box.cell 0;have n7:=M3.out.box.cell 7;have n8:=M3.out.box.cell 8
   have hbl:=M3.out.box.lt
   obtain ⟨P3,hs3,hK3⟩:=M3.out.dk
   have d0:=hK3.blk.cell 0;have d2:=hK3.blk.cell 2
   have dlt:=hK3.blk.lt
   simp only [qgz,qgs] at n0 n7 n8 d0 d2
   obtain ⟨b2,o2,p,F,fn,fc,kd2,pa,pf,pno,G,gq,gd,hA,hbS2,hp,hP,hcell⟩:=hK3.st.tree.at_ hi
   have hpk:pkOf q.ps (i:Int)=p:=pkOf_at hp
   have p3:=hcell 3 (by omega)
   unfold pkRow ndRow at p3
   simp only [qgz,qgs] at p3
   rw [hA] at d0
   have hff:=HFF.out
   rw [hpk] at hff
   obtain ⟨fi,hfi⟩:∃ fi,ixOf f p.fs=some fi:=by
    cases h:ixOf f p.fs with
    | none=>exact absurd hff (ixOf_none.1 h)
    | some i=>exact ⟨i,rfl⟩
   have hkl:fi<(pkOf q.ps i).fs.length:=by rw [hpk];exact ixOf_lt hfi
   obtain ⟨b4,o4,A5,n5,c5,hoA,hbS4,hoc,hor,hn5,hc5⟩:=hK3.st.ons.at_ hi
   have hox:(onsX q.X q.ps).getD i []=(List.range (pkOf q.ps i).fs.length).map (q.X.on i):=by
    unfold onsX
    rw [qgd,qgm,List.getElem?_range HIP.out];rfl
   rw [hox] at hor
   have hn5l:=hor.len
   simp only [List.length_map,List.length_range] at hn5l
   obtain ⟨b5,o5,rfl,hbS5,hfc⟩:=hor.at_ (k:=fi) (by omega)
   have hfx:((List.range (pkOf q.ps i).fs.length).map (q.X.on i)).getD fi 0=q.X.on i fi:=by
    rw [qgd,qgm,List.getElem?_range hkl];rfl
   rw [hfx] at hfc
   rw [hoA] at d2
   have hb4:b4<w3.heap.size:=(hK3.s1 _ hbS4).2.1
   have hb5:b5<w3.heap.size:=(hK3.s1 _ hbS5).2.1
   have hS0:∀ k,q.S0 k->k<w3.heap.size:=fun k hk=>ql (hK3.s0 k hk) hK3.base_
   have hb2:b2<w3.heap.size:=hS0 _ hbS2
   have hkn:(fi:Int)<n5:=by omega
   have hk0:(0:Int)<=(fi:Int):=by omega
   have hi1:(i:Int)<q.n:=by omega
   have hi0:(0:Int)<=(i:Int):=by omega
   have hob:=HBI.out.1.on i fi HIP.out hkl
   have HIL:Hid (ifLit q.X q.ps i f no=if no=true then -q.X.on i fi else q.X.on i fi):=qh (by unfold ifLit;rw [hpk,hfi])
   obtain ⟨f0,hf0⟩:∃ f0,f0=q.X.on i fi:=⟨_,rfl⟩
   rw [<- hf0] at hfc hob HIL
   have hfb : -200000<=f0/\f0<=200000:=by have:=HBV.out;omega
   have hix:=indexS_any F fn fc p.fs f w3.drew q.S0 (hP.fs.row.keep (w':=w3.drew) fun _ _=>rfl) (qlt hP.cap hP.max)
   rw [hfi] at hix
   unfold ixI at hix
   have Hix:=qh hix
   have HOB:=qh hob
   have hqoc:=hK3.caps
   have hocc:q.n<=9223372036854775807:=by omega
   clear hK3 hA hbS2 hp hP hcell hpk hff hfi hkl hoA hbS4 hor hn5 hc5 hox hn5l hbS5 hfx hf0 hix hob hqoc hS0 HFF
   go_upto_region 16 with fail
   refine wp_region_held_drew (S:=(fun w'=>w'.cell? ⟨q.b,0,none⟩=some (.slice (some ⟨b2,o2,none⟩) q.n q.c)/\w'.cell? ⟨q.b,2,none⟩=some (.slice (some ⟨b4,o4,none⟩) q.n q.oc)/\w'.cell? ⟨b4,o4+i,none⟩=some (.slice (some ⟨b5,o5,none⟩) n5 c5)/\w'.cell? ⟨b2,o2+i * 14+3,none⟩=some (.slice F fn fc)/\w'.cell? ⟨w.heap.size,7,none⟩=some (.string ⟨f.toArray⟩)/\w'.cell? ⟨b5,o5+fi,none⟩=some (.int .i64 f0))) (by kernel_rfl) (⟨d0,d2,hoc,p3,n7,hfc⟩) (fun hHeld=>?_)
   first|(refine tkA (v:=?_) held_at0 ?_ ?_;rotate_left;focus (intro _ h;(try dsimp only at h);go_simp;(try with_reducible rfl);done))|refine tkB held_at0 ?_
   (try simp only [Act.put,qsa,qsz,qss])
   first|(refine tkA (v:=?_) held_at1 ?_ ?_;rotate_left;focus (intro _ h;(try dsimp only at h);go_simp;(try with_reducible rfl);done))|refine tkB held_at1 ?_
   (try simp only [Act.put,qsa,qsz,qss])
   first|(refine tkA (v:=?_) held_at2 ?_ ?_;rotate_left;focus (intro _ h;(try dsimp only at h);go_simp;(try with_reducible rfl);done))|refine tkB held_at2 ?_
   (try simp only [Act.put,qsa,qsz,qss])
   first|(refine tkA (v:=?_) held_at3 ?_ ?_;rotate_left;focus (intro _ h;(try dsimp only at h);go_simp;(try with_reducible rfl);done))|refine tkB held_at3 ?_
   (try simp only [Act.put,qsa,qsz,qss])
   first|(refine tkA (v:=?_) held_at4 ?_ ?_;rotate_left;focus (intro _ h;(try dsimp only at h);go_simp;(try with_reducible rfl);done))|refine tkB held_at4 ?_
   (try simp only [Act.put,qsa,qsz,qss])
   first|(refine tkA (v:=?_) held_at5 ?_ ?_;rotate_left;focus (intro _ h;(try dsimp only at h);go_simp;(try with_reducible rfl);done))|refine tkB held_at5 ?_
   (try simp only [Act.put,qsa,qsz,qss])
   first|(refine tkA (v:=?_) held_at6 ?_ ?_;rotate_left;focus (intro _ h;(try dsimp only at h);go_simp;(try with_reducible rfl);done))|refine tkB held_at6 ?_
   (try simp only [Act.put,qsa,qsz,qss])
   first|(refine tkA (v:=?_) held_at7 ?_ ?_;rotate_left;focus (intro _ h;(try dsimp only at h);go_simp;(try with_reducible rfl);done))|refine tkB held_at7 ?_
   (try simp only [Act.put,qsa,qsz,qss])
   first|(refine tkA (v:=?_) held_at8 ?_ ?_;rotate_left;focus (intro _ h;(try dsimp only at h);go_simp;(try with_reducible rfl);done))|refine tkB held_at8 ?_
   (try simp only [Act.put,qsa,qsz,qss])
   first|(refine tkA (v:=?_) held_at9 ?_ ?_;rotate_left;focus (intro _ h;(try dsimp only at h);go_simp;(try with_reducible rfl);done))|refine tkB held_at9 ?_
   (try simp only [Act.put,qsa,qsz,qss])
   first|(refine tkA (v:=?_) held_at10 ?_ ?_;rotate_left;focus (intro _ h;(try dsimp only at h);go_simp;(try with_reducible rfl);done))|refine tkB held_at10 ?_
   (try simp only [Act.put,qsa,qsz,qss])
   first|(refine tkA (v:=?_) held_at11 ?_ ?_;rotate_left;focus (intro _ h;(try dsimp only at h);go_simp;(try with_reducible rfl);done))|refine tkB held_at11 ?_
   (try simp only [Act.put,qsa,qsz,qss])
   first|(refine tkA (v:=?_) held_at12 ?_ ?_;rotate_left;focus (intro _ h;(try dsimp only at h);go_simp;(try with_reducible rfl);done))|refine tkB held_at12 ?_
   (try simp only [Act.put,qsa,qsz,qss])
   first|(refine tkA (v:=?_) held_at13 ?_ ?_;rotate_left;focus (intro _ h;(try dsimp only at h);go_simp;(try with_reducible rfl);done))|refine tkB held_at13 ?_
   (try simp only [Act.put,qsa,qsz,qss])
   first|(refine tkA (v:=?_) held_at14 ?_ ?_;rotate_left;focus (intro _ h;(try dsimp only at h);go_simp;(try with_reducible rfl);done))|refine tkB held_at14 ?_
   (try simp only [Act.put,qsa,qsz,qss])
   first|(refine tkA (v:=?_) held_at15 ?_ ?_;rotate_left;focus (intro _ h;(try dsimp only at h);go_simp;(try with_reducible rfl);done))|refine tkB held_at15 ?_
   (try simp only [Act.put,qsa,qsz,qss])
   first|(refine tkA (v:=?_) held_at16 ?_ ?_;rotate_left;focus (intro _ h;(try dsimp only at h);go_simp;(try with_reducible rfl);done))|refine tkB held_at16 ?_
   (try simp only [Act.put,qsa,qsz,qss])
   first|(refine tkA (v:=?_) held_at17 ?_ ?_;rotate_left;focus (intro _ h;(try dsimp only at h);go_simp;(try with_reducible rfl);done))|refine tkB held_at17 ?_
   (try simp only [Act.put,qsa,qsz,qss])
   refine wpAnyH_ready (rs:=[18]) (by kernel_rfl) (by simp) ?_
   refine AllReadyH.cons held_at18 (fun K hK=>?_) AllReadyH.nil
   (try simp only [qsa,qsz,qss])
   go_simp
   go_at_call 80
   refine Hix.out.mono ?_
   rintro e4 wn ⟨rfl,hwn⟩
   subst hwn
   refine hK.out _ _ ⟨d0,d2,hoc,p3,n7,hfc⟩ (fun hHeld=>?_)
   clear hK K
   (try simp only [Act.put,qsa,qsz,qss])
   first|(refine tkA (v:=?_) held_at19 ?_ ?_;rotate_left;focus (intro _ h;(try dsimp only at h);go_simp;(try with_reducible rfl);done))|refine tkB held_at19 ?_
   (try simp only [Act.put,qsa,qsz,qss])
   first|(refine tkA (v:=?_) held_at20 ?_ ?_;rotate_left;focus (intro _ h;(try dsimp only at h);go_simp;(try with_reducible rfl);done))|refine tkB held_at20 ?_
   (try simp only [Act.put,qsa,qsz,qss])
   first|(refine tkA (v:=?_) held_at21 ?_ ?_;rotate_left;focus (intro _ h;(try dsimp only at h);go_simp;(try with_reducible rfl);done))|refine tkB held_at21 ?_
   (try simp only [Act.put,qsa,qsz,qss])
   refine wpAnyH_done (by kernel_rfl) ?_ _
   have M5:=qh (M3.out.move (below_drewN (qbr _ w3) 1))
   have n8:=M5.out.box.cell 8
   simp only [qgz,qgs] at n8
   cases no
   ·
    have HN2:Hid (needD q.X q.ps i (.mk 5 a f false ks) d=oneD db [(-f0),xb]):=qh (by rw [HN.out,HIL.out];simp)
    have hal:Below w3.drew.heap.size w3.drew (w3.drew.alloc (.cells #[.int .i64 (-f0),.int .i64 xb] 3)):=(qbr _ _).alloc (qr _) _
    have HW:=qh (Whole.new w3.drew w3.heap.size 3 [.int .i64 (-f0),.int .i64 xb] rfl)
    have HO:=qh (done_any q (fun j=>(E j\/j=w.heap.size)\/j=w3.heap.size) (fun j=>j=w3.heap.size) mp' db (some ⟨w3.heap.size,0,none⟩) 2 2 [(-f0),xb] (w3.drew.alloc (.cells #[.int .i64 (-f0),.int .i64 xb] 3))
     ((M5.out.dk.aside hal).mono fun j hj=>hj.elim (fun h=>.inl (.inl h)) fun hj=>by subst hj;exact .inr ⟨qr _,by simp⟩) (Whole.ints (S:=fun j=>j=w3.heap.size) (xs:=[(-f0),xb]) HW.out rfl rfl) (fun j hj=>⟨by subst hj;simp,.inl (.inr hj)⟩) ⟨qr _,by unfold maxLen;omega⟩ (by omega)
     (fun y hy=>by
      simp only [List.mem_cons,List.not_mem_nil,or_false] at hy
      have:=HOB.out;have:=HBI.out.2
      rcases hy with rfl | rfl <;> omega) HBV.out (by rw [<- HN2.out];exact HC.out))
    generalize oneD db [(-f0),xb]=ro at HO HN2
    obtain ⟨rd,rx⟩:=ro
    dsimp only at HO
    clear n0 n7 p3 d0 d2 hoc hfc
    go_wp2_with (first | (go_at_call 78;refine HO.out.mono ?_;rintro e5 w6 ⟨rfl,hd6,hf6⟩;refine Hid.out ?_))
    refine qh ?_
    have HD6:=qh (hd6.mono fun j h=>.inl (.inl h))
    have HF6:Hid (Fd q E w w6):=qh ((M5.out.fd.trans (Fd.of_below q E hal) fun _ _ h=>h).trans hf6 fun _ _ h=>.inl (.inl h))
    clear hd6 hf6 HO hal
    go_wp2
    go_ret
    exact ⟨by rw [HN2.out];rfl,mp',by rw [HN2.out];exact HD6.out,HF6.out,by have:=HMP.out;omega⟩
   ·
    have HN2:Hid (needD q.X q.ps i (.mk 5 a f true ks) d=oneD db [f0,xb]):=qh (by rw [HN.out,HIL.out];simp)
    have hal:Below w3.drew.heap.size w3.drew (w3.drew.alloc (.cells #[.int .i64 f0,.int .i64 xb] 3)):=(qbr _ _).alloc (qr _) _
    have HW:=qh (Whole.new w3.drew w3.heap.size 3 [.int .i64 f0,.int .i64 xb] rfl)
    have HO:=qh (done_any q (fun j=>(E j\/j=w.heap.size)\/j=w3.heap.size) (fun j=>j=w3.heap.size) mp' db (some ⟨w3.heap.size,0,none⟩) 2 2 [f0,xb] (w3.drew.alloc (.cells #[.int .i64 f0,.int .i64 xb] 3))
     ((M5.out.dk.aside hal).mono fun j hj=>hj.elim (fun h=>.inl (.inl h)) fun hj=>by subst hj;exact .inr ⟨qr _,by simp⟩) (Whole.ints (S:=fun j=>j=w3.heap.size) (xs:=[f0,xb]) HW.out rfl rfl) (fun j hj=>⟨by subst hj;simp,.inl (.inr hj)⟩) ⟨qr _,by unfold maxLen;omega⟩ (by omega)
     (fun y hy=>by
      simp only [List.mem_cons,List.not_mem_nil,or_false] at hy
      have:=HOB.out;have:=HBI.out.2
      rcases hy with rfl | rfl <;> omega) HBV.out (by rw [<- HN2.out];exact HC.out))
    generalize oneD db [f0,xb]=ro at HO HN2
    obtain ⟨rd,rx⟩:=ro
    dsimp only at HO
    clear n0 n7 p3 d0 d2 hoc hfc
    go_wp2_with (first | (go_at_call 78;refine HO.out.mono ?_;rintro e5 w6 ⟨rfl,hd6,hf6⟩;refine Hid.out ?_))
    refine qh ?_
    have HD6:=qh (hd6.mono fun j h=>.inl (.inl h))
    have HF6:Hid (Fd q E w w6):=qh ((M5.out.fd.trans (Fd.of_below q E hal) fun _ _ h=>h).trans hf6 fun _ _ h=>.inl (.inl h))
    clear hd6 hf6 HO hal
    go_wp2
    go_ret
    exact ⟨by rw [HN2.out];rfl,mp',by rw [HN2.out];exact HD6.out,HF6.out,by have:=HMP.out;omega⟩
  have k5':(kd == 5)=false:=by simpa using k5
  have HN:Hid (needD q.X q.ps i (.mk kd a f no ks) d=(db,xb)):=qh (by rw [HDEF2.out,if_neg k5])
  clear k4 k5
  go_wp2_with (first | (go_at_call 79;refine HB.out.mono ?_;rintro e3 w4 ⟨rfl,hd4,hf4⟩;refine Hid.out ?_))
  refine qh ?_
  have M4:=qh (HM.out.turn hd4 hf4 fun _ h=>h)
  have n0:=M4.out.box.cell 0
  have hbl4:=M4.out.box.lt
  simp only [qgz] at n0
  clear hd4 hf4 HB
  go_wp2
  go_ret
  exact ⟨by rw [HN.out];rfl,mp',by rw [HN.out];exact M4.out.dk.mono fun j h=>.inl (.inl h),M4.out.fd,by have:=HMP.out;omega⟩
end
section
open Go.RowKit Qm
def pkIns (ins:List Mem) (n j:Nat):List Int:=(List.range n).map fun i=>if ((insP ins).take j).contains i=true then -((ixP (insP ins) i:Int)+1) else 0
def cntF (ins:List Mem) (i:Nat):Nat:=((List.range i).filter fun k=>!(insP ins).contains k).length
def pkAll (ps:List Pk) (v:Ws) (i:Nat):List Int:=(List.range ps.length).map fun k=>if k<i\/(insP v.ins).contains k=true then (chW ps v).pick k else 0
theorem getD_range {α:Type} {f:Nat->α} {z:α} {n i:Nat} (h:i<n):((List.range n).map f).getD i z=f i:=by
 rw [List.getD_eq_getElem?_getD,List.getElem?_map,List.getElem?_range h];rfl
theorem set_range {α:Type} {f g:Nat->α} {n p:Nat} {x:α} (hx:g p=x) (h:∀ i,i<n->i≠p->g i=f i):((List.range n).map f).set p x=(List.range n).map g:=by
 apply List.ext_getElem?
 intro i
 rw [List.getElem?_set]
 simp only [List.length_map,List.length_range,List.getElem?_map]
 by_cases hi:i<n
 ·rw [List.getElem?_range hi]
  by_cases hp:p=i
  ·subst hp;rw [if_pos rfl,if_pos hi,Option.map_some,hx]
  rw [if_neg hp,Option.map_some,Option.map_some,h i hi fun e=>hp e.symm]
 rw [List.getElem?_eq_none (by simpa using hi)]
 split
 ·split
  ·omega
  rfl
 rfl
section
variable {ps : List Pk} {v : Ws}
theorem insP_nodup (h:WsOk ps v):(insP v.ins).Nodup:=by
 have:=insP_rise (ps:=ps) h.ins
 exact this.imp fun h=>Nat.ne_of_lt h
theorem pkIns_step (h:WsOk ps v) {n j p:Nat} (hj:(insP v.ins)[j]? = some p):(pkIns v.ins n j).set p (-((j:Int)+1))=pkIns v.ins n (j+1):=by
 have hix:=ixP_of (insP_nodup h) hj
 obtain ⟨hl,hp⟩:=List.getElem?_eq_some_iff.1 hj
 have hmem:∀ i,((insP v.ins).take (j+1)).contains i=(((insP v.ins).take j).contains i || (i == p)):=fun i=>by
  rw [List.take_succ_eq_append_getElem hl,hp]
  rw [Bool.eq_iff_iff,Bool.or_eq_true,List.contains_iff_mem,List.contains_iff_mem,List.mem_append,List.mem_singleton,beq_iff_eq]
 unfold pkIns
 refine set_range ?_ fun i hi hne=>?_
 ·rw [if_pos (by rw [hmem];simp),hix]
 have:((insP v.ins).take (j+1)).contains i=((insP v.ins).take j).contains i:=by rw [hmem,beq_eq_false_iff_ne.2 hne,Bool.or_false]
 rw [this]
theorem pkIns_all (h:WsOk ps v):pkIns v.ins ps.length v.ins.length=pkAll ps v 0:=by
 unfold pkIns pkAll
 refine List.map_congr_left fun i hi=>?_
 have ht:(insP v.ins).take v.ins.length=insP v.ins:=List.take_of_length_le (by unfold insP;simp)
 rw [ht]
 by_cases hc:(insP v.ins).contains i=true
 ·rw [if_pos hc,if_pos (.inr hc)]
  show _=if (insP v.ins).contains i=true then -((ixP (ordP v.ins ps.length) i:Int)+1) else _
  rw [if_pos hc]
  have:ixP (ordP v.ins ps.length) i=ixP (insP v.ins) i:=by
   have hm:=List.contains_iff_mem.1 hc
   refine ixP_of (ordP_nodup h) ?_
   unfold ordP
   rw [List.getElem?_append_left (ixP_lt hm)]
   exact ixP_at hm
  rw [this]
 rw [if_neg hc,if_neg (by simpa using hc)]
theorem cntF_succ (ins:List Mem) (i:Nat):cntF ins (i+1)=cntF ins i+if (insP ins).contains i=true then 0 else 1:=by
 unfold cntF
 rw [List.range_succ,List.filter_append,List.length_append]
 congr 1
 by_cases hc:(insP ins).contains i=true
 ·rw [if_pos hc];simp only [List.filter_cons,hc];rfl
 have hf:(insP ins).contains i=false:=by simpa using hc
 rw [if_neg hc];simp only [List.filter_cons,hf];rfl
theorem ixP_free (h:WsOk ps v) {i:Nat} (hi:i<ps.length) (hc:(insP v.ins).contains i=false):ixP (ordP v.ins ps.length) i=v.ins.length+cntF v.ins i:=by
 refine ixP_of (ordP_nodup h) ?_
 have hl:(insP v.ins).length=v.ins.length:=by unfold insP;simp
 unfold ordP
 rw [List.getElem?_append_right (by omega),hl,Nat.add_sub_cancel_left]
 unfold freeP cntF
 have:∀ n,i<n->((List.range n).filter fun k=>!(insP v.ins).contains k)[((List.range i).filter fun k=>!(insP v.ins).contains k).length]? = some i:=by
  intro n
  induction n with
  | zero=>intro h;omega
  | succ n ih =>
   intro hn
   rw [List.range_succ,List.filter_append]
   by_cases e:i=n
   ·subst e
    rw [List.getElem?_append_right (Nat.le_refl _),Nat.sub_self]
    have hf:[i].filter (fun k=>!(insP v.ins).contains k)=[i]:=by simp only [List.filter_cons,hc];rfl
    rw [hf];rfl
   have:=ih (by omega)
   rw [List.getElem?_append_left (List.getElem?_eq_some_iff.1 this).1]
   exact this
 exact this _ hi
theorem pkAll_full:pkAll ps v ps.length=(List.range ps.length).map (chW ps v).pick:=by
 unfold pkAll
 refine List.map_congr_left fun i hi=>?_
 rw [if_pos (.inl (List.mem_range.1 hi))]
theorem pkAll_old {i:Nat} (hc:(insP v.ins).contains i=true):pkAll ps v (i+1)=pkAll ps v i:=by
 unfold pkAll
 refine List.map_congr_left fun k hk=>?_
 by_cases e:k=i
 ·subst e;rw [if_pos (.inr hc),if_pos (.inr hc)]
 by_cases h1:k<i\/(insP v.ins).contains k=true
 ·rw [if_pos h1,if_pos (h1.imp (by omega) id)]
 rw [if_neg h1,if_neg fun h2=>h1 (h2.imp (by omega) id)]
theorem pkAll_new (h:WsOk ps v) {i:Nat} (hi:i<ps.length) (hc:(insP v.ins).contains i=false):(pkAll ps v i).set i ((v.ins.length+cntF v.ins i+1:Nat):Int)=pkAll ps v (i+1):=by
 unfold pkAll
 refine set_range ?_ fun k hk hne=>?_
 ·rw [if_pos (.inl (Nat.lt_succ_self i))]
  show (if (insP v.ins).contains i=true then -((ixP (ordP v.ins ps.length) i:Int)+1) else (ixP (ordP v.ins ps.length) i:Int)+1)=_
  rw [if_neg (by rw [hc];decide),ixP_free h hi hc];omega
 by_cases h1:k<i\/(insP v.ins).contains k=true
 ·rw [if_pos h1,if_pos (h1.imp (by omega) id)]
 rw [if_neg h1,if_neg fun h2=>h1 (h2.imp (by omega) id)]
theorem pkAll_at {i:Nat} (hi:i<ps.length):(pkAll ps v i).getD i 0=if (insP v.ins).contains i=true then (chW ps v).pick i else 0:=by
 unfold pkAll
 rw [getD_range hi]
 by_cases hc:(insP v.ins).contains i=true
 ·rw [if_pos (.inr hc),if_pos hc]
 rw [if_neg hc,if_neg];simpa using hc
theorem pick_ne (i:Nat):(chW ps v).pick i≠0:=fun e=>by
 have:=pick_abs (ps:=ps) (v:=v) i
 rw [e] at this;simp at this
theorem cntF_all (h:WsOk ps v):v.ins.length+cntF v.ins ps.length=ps.length:=by
 have h1:=ordP_len h
 unfold ordP freeP at h1
 rw [List.length_append] at h1
 have hl:(insP v.ins).length=v.ins.length:=by unfold insP;simp
 unfold cntF;omega
theorem cntF_mono {i j:Nat} (h:i<=j):cntF v.ins i<=cntF v.ins j:=by
 induction j with
 | zero =>
   obtain rfl:i=0:=by omega
   exact Nat.le_refl _
 | succ j ih =>
  by_cases e:i=j+1
  ·subst e;exact Nat.le_refl _
  rw [cntF_succ];have:=ih (by omega);omega
theorem on_snoc {i k:Nat}:(List.range (k+1)).map ((chW ps v).on i)=(List.range k).map ((chW ps v).on i)++[(chW ps v).on i k]:=by
 rw [List.range_succ,List.map_append];rfl
theorem ons_snoc {i:Nat}:(List.range (i+1)).map (fun (i:Nat)=>(List.range (pkOf ps i).fs.length).map ((chW ps v).on i))=(List.range i).map (fun (i:Nat)=>(List.range (pkOf ps i).fs.length).map ((chW ps v).on i))++[(List.range (pkOf ps i).fs.length).map ((chW ps v).on i)]:=by
 rw [List.range_succ,List.map_append];rfl
end
theorem ckOn_mem {ps:List Pk}:∀ {l:List (Int×Int)} {prev:Option (Int×Int)},ckOn ps prev l=0->∀ x∈l,0<=x.1/\x.1<ps.length/\0<=x.2/\x.2<((pkOf ps x.1).fs.length:Int)
 | [],_,_,x,hx=>by cases hx
 | y :: r,prev,h,x,hx=>by
  unfold ckOn at h
  split at h
  ·cases h
  rename_i h1
  split at h
  ·cases h
  rcases List.mem_cons.1 hx with rfl | hx
  ·omega
  exact ckOn_mem h x hx
theorem fs_few {ps:List Pk} (h14:manyC ps<=14) {x:Int} (h0:0<=x) (h1:x<ps.length):(pkOf ps x).fs.length<=14:=by
 obtain ⟨i,rfl⟩:∃ i:Nat,x=i:=⟨x.toNat,by omega⟩
 have h:=flagsBef_mono (ps:=ps) (i:=i+1) (j:=ps.length) (by omega)
 simp only [flagsBef] at h
 unfold manyC at h14
 omega
theorem ckOn_len {ps:List Pk} (h14:manyC ps<=14):∀ {l:List (Int×Int)} {q:Int×Int},ckOn ps (some q) l=0->0<=q.1->q.1<ps.length->0<=q.2->q.2<100->(l.length:Int)+(100 * q.1+q.2)<100 * ps.length
 | [],q,_,_,_,_,_=>by simp;omega
 | y :: r,q,h,g1,g2,g3,g4=>by
  have hm:=ckOn_mem h y (List.mem_cons_self ..)
  have hf:=fs_few h14 hm.1 hm.2.1
  unfold ckOn at h
  split at h
  ·cases h
  split at h
  ·cases h
  rename_i h1 h2
  have ih:=ckOn_len h14 h hm.1 hm.2.1 hm.2.2.1 (by omega)
  have hb:q.1<y.1\/(q.1=y.1/\q.2<y.2):=by
   unfold badOn at h2
   simp at h2
   by_cases g:q.1<y.1
   ·exact .inl g
   exact .inr (h2 (by omega))
  simp only [List.length_cons]
  omega
theorem ckOn_few {ps:List Pk} {l:List (Int×Int)} (h14:manyC ps<=14) (h8:ps.length<=8) (h:ckOn ps none l=0):l.length<=801:=by
 match l,h with
 | [],_=>simp
 | y :: r,h =>
  have hm:=ckOn_mem h y (List.mem_cons_self ..)
  have hf:=fs_few h14 hm.1 hm.2.1
  unfold ckOn at h
  split at h
  ·cases h
  split at h
  ·cases h
  have ih:=ckOn_len h14 h hm.1 hm.2.1 hm.2.2.1 (by omega)
  simp only [List.length_cons]
  omega
end
section
open Go.RowKit Qm Go.WideMaps
theorem eqP_run (w:World) {x y a b:Int} (hx:(Lit.int .i64 x).wf=true) (hy:(Lit.int .i64 y).wf=true) (ha:(Lit.int .i64 a).wf=true) (hb:(Lit.int .i64 b).wf=true) :
  (Op.equalIn 10000 86 (.agg #[.int .i64 x,.int .i64 y]) (.agg #[.int .i64 a,.int .i64 b])).run Tryz.prog w=.ok (decide ((x,y)=(a,b))) w:=by
 obtain ⟨r,h1,h2⟩:=run_equal_deep w (P:=Tryz.prog) (m:=2) (by omega) (k:=86) (by kernel_rfl) (by rw [Tryz.underlying86]) (pairKey.key hx hy) (pairKey.key ha hb)
 have:r=decide ((x,y)=(a,b)):=by
  by_cases e:x=a/\y=b
  ·obtain ⟨rfl,rfl⟩:=e
   rw [h2.2 rfl];simp
  have hne:=pairKey.ne hx hy ha hb e
  have:r=false:=by
   cases r
   ·rfl
   exact absurd (h2.1 rfl) hne
  rw [this]
  refine (qdf fun e2=>e ?_).symm
  simpa using e2
 rw [<- this];exact h1
theorem indexP_any (A:Option Addr) (n c:Nat) (qs:List (Int×Int)) (x y:Int) (w:World) (S:Nat->Prop) (h:RSeq 2 RPair w S A n qs) (hn:n<=100000) (hS:∀ k,S k->k<w.heap.size) (hx:(Lit.int .i64 x).wf=true) (hy:(Lit.int .i64 y).wf=true)
  (hq:∀ z∈qs,(Lit.int .i64 z.1).wf=true/\(Lit.int .i64 z.2).wf=true) :
  Calls Tryz.prog 94 #[.slice A n c,.agg #[.int .i64 x,.int .i64 y]] w fun e w'=>∃ r:Int,e=.returned (.int .i64 r)/\decide (0<=r)=qs.contains (x,y) /\ -1<=r/\r<=100000/\Below w.heap.size w w':=by
 have HR:=qh h;have HS:=qh hS;have HQ:=qh hq;have HX:=qh (And.intro hx hy)
 have HL:=qh (RSeq.len h)
 have HW0:=qh (Whole.new w w.heap.size 86 [.int .i64 x,.int .i64 y] rfl)
 have HB0:Hid (Below w.heap.size w (w.alloc (.cells #[.int .i64 x,.int .i64 y] 86))):=qh ((qbr _ w).alloc (qr _) _)
 clear h hS hq hx hy
 go_enter Tryz.func94,Tryz.ntmps94
 go_wp2
 go_loopg [8] n (fun g iv wr=>∃ j:Nat,Hid (j+g=n)/\iv=.int .i64 j/\Hid (∀ k,k<j->qs[k]? ≠ some (x,y))/\Hid (Whole wr w.heap.size 86 [.int .i64 x,.int .i64 y])/\Hid (Below w.heap.size w wr))
 case atStart=>exact ⟨0,qh (Nat.zero_add _),rfl,qh (fun k hk=>absurd hk (by omega)),HW0,HB0⟩
 case round =>
  obtain ⟨j,Hj,rfl,HN,HW,HB⟩:=hrel
  clear HW0 HB0
  by_cases hj:j<n
  ·obtain ⟨b,o,xs,z,rfl,hbS,hz,hxz,_,hcell⟩:=(RSeq.keep HR.out (w':=wr) (fun p hp=>HB.out.cell (HS.out _ hp)) fun _ _ h=>h).at_ hj (by decide)
   unfold RPair at hxz
   subst hxz
   obtain ⟨z1,z2⟩:=z
   have g0:=hcell 0 (by omega);have g1:=hcell 1 (by omega)
   simp only [qgz,qgs,Nat.add_zero] at g0 g1
   have hzw:=HQ.out _ (List.mem_of_getElem? hz)
   have heq:=fun wx=>eqP_run wx HX.out.1 HX.out.2 hzw.1 hzw.2
   have b0:=HW.out.cell 0;have b1:=HW.out.cell 1
   simp only [qgz,qgs] at b0 b1
   have hj1:(j:Int)<n:=by omega
   have hj0:(0:Int)<=(j:Int):=by omega
   have HZ:=qh hz
   clear hcell hz hzw hbS
   by_cases he:(x,y)=(z1,z2)
   ·have hed:decide ((x,y)=(z1,z2))=true:=qdt he
    rw [hed] at heq
    have HC:Hid (qs.contains (x,y)=true):=qh (by rw [List.contains_iff_mem,he];exact List.mem_of_getElem? HZ.out)
    clear he hed
    go_wp2
    go_quiet (fail)
    go_wp2
    go_ret
    exact ⟨j,rfl,by rw [HC.out];exact qdt (by omega),by omega,by omega,below_drewN HB.out _⟩
   have hed:decide ((x,y)=(z1,z2))=false:=qdf he
   rw [hed] at heq
   have HN2:Hid (∀ k,k<j+1->qs[k]? ≠ some (x,y)):=qh (fun k hk=>by
    by_cases e:k=j
    ·subst e;rw [HZ.out];intro e2;injection e2 with e2;exact he e2.symm
    exact HN.out k (by omega))
   clear he hed
   go_wp2
   go_quiet (fail)
   rename_i nq
   have HWD:=qh (HW.out.drewN nq);have HBD:=qh (below_drewN HB.out nq)
   go_wp2
   go_roundg (gk - 1)
   case measure=>have:=Hj.out;omega
   case rel=>exact ⟨j+1,qh (by have:=Hj.out;omega),by go_num,HN2,HWD,HBD⟩
  obtain rfl:n=j:=by have:=Hj.out;omega
  have HC:Hid (qs.contains (x,y)=false):=qh (by
   cases hc:qs.contains (x,y)
   ·rfl
   obtain ⟨k,hk⟩:=List.getElem?_of_mem (List.contains_iff_mem.1 hc)
   have:=(List.getElem?_eq_some_iff.1 hk).1
   exact absurd hk (HN.out k (by rw [HL.out] at this;exact this)))
  go_wp2
  go_ret
  exact ⟨-1,rfl,by rw [HC.out];rfl,by omega,by omega,HB.out⟩
theorem containsP_any (A:Option Addr) (n c:Nat) (qs:List (Int×Int)) (x y:Int) (w:World) (S:Nat->Prop) (h:RSeq 2 RPair w S A n qs) (hn:n<=100000) (hS:∀ k,S k->k<w.heap.size) (hx:(Lit.int .i64 x).wf=true) (hy:(Lit.int .i64 y).wf=true)
  (hq:∀ z∈qs,(Lit.int .i64 z.1).wf=true/\(Lit.int .i64 z.2).wf=true) :
  Calls Tryz.prog 68 #[.slice A n c,.agg #[.int .i64 x,.int .i64 y]] w fun e w'=>e=.returned (.bool (qs.contains (x,y)))/\Below w.heap.size w w':=by
 have hal:Below w.heap.size w (w.alloc (.cells #[.int .i64 x,.int .i64 y] 86)):=(qbr _ w).alloc (qr _) _
 have HI:=qh (indexP_any A n c qs x y (w.alloc (.cells #[.int .i64 x,.int .i64 y] 86)) S (RSeq.keep h (fun p hp=>hal.cell (hS _ hp)) fun _ _ h=>h) hn (fun k hk=>ql (hS k hk) hal.size) hx hy hq)
 have HB:=qh hal
 clear h hS hx hy hq hal
 go_enter Tryz.func68,Tryz.ntmps68
 go_wp2_with (first | (go_at_call 94;refine HI.out.mono ?_;rintro e w2 ⟨r,rfl,hr,hr1,hr2,hb2⟩;refine Hid.out ?_))
 refine qh ?_
 have HB2:=qh (HB.out.trans (hb2.mono HB.out.size))
 have HR:=qh hr
 clear hr hb2
 by_cases h0:(0:Int)<=r
 ·have h0d:decide ((0:Int)<=r)=true:=qdt h0
  have HC:Hid (true=qs.contains (x,y)):=qh (by rw [<- HR.out,h0d])
  go_wp2
  go_ret
  exact ⟨ret_bool (by have h:=HC.out;first | exact h | simpa using h),HB2.out⟩
 have h0d:decide ((0:Int)<=r)=false:=qdf h0
 have HC:Hid (false=qs.contains (x,y)):=qh (by rw [<- HR.out,h0d])
 go_wp2
 go_ret
 exact ⟨ret_bool (by have h:=HC.out;first | exact h | simpa using h),HB2.out⟩
end
end Go.Proofs.YtedbhlgjcnnknaaGreatDoor
