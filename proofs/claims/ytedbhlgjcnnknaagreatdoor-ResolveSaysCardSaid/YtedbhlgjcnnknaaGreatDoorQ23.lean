/- Parts. -/
import Derived.Test.YtedbhlgjcnnknaaGreatDoorQ16
set_option linter.unusedVariables false
set_option linter.unusedSimpArgs false
set_option linter.unusedSectionVars false
set_option maxRecDepth 100000
set_option maxHeartbeats 12800000
namespace Go.Proofs.YtedbhlgjcnnknaaGreatDoor
section
open Go.RowKit Qm
theorem IntSet.block {P:Program} {w w':World} {b m:Nat} {K:Int->Bool} (h:IntSet P w b K m) (hb:w'.heap[b]? = w.heap[b]?):IntSet P w' b K m:=by
 obtain ⟨D,⟨es,clock,h1,r⟩,h2⟩:=h
 exact ⟨D,⟨es,clock,hb.trans h1,r⟩,h2⟩
theorem IntSet.ne_cells {P:Program} {w:World} {g b m:Nat} {K:Int->Bool} {cs:Array Value} {t:TypeId} {fr:Nat×Nat} (h:IntSet P w b K m) (hg:w.heap[g]? = some (.cells cs t fr)):g≠b:=by
 rintro rfl
 obtain ⟨D,⟨es,clock,h1,_⟩,_⟩:=h
 rw [hg] at h1;cases h1
structure Oc (z:Nat) (tv wv:List Value) (ob g mb:Nat) (lv:Value) (os:List Nat) (K:Int->Bool) (m:Nat) (wr:World):Prop where
 t:Whole wr z 24 tv
 wi:Whole wr (z+1) 30 wv
 bo:Whole wr ob 27 [lv]
 bm:Whole wr mb 120 [.map (some g)]
 own:wr.ownsRow z 3 1 lv os.length (os.map fun (k:Nat)=>Value.int .i64 (k:Int))
 mp:IntSet Tryz.prog wr g K m
 ne:ob≠z/\ob≠z+1/\ob≠mb
 lo:z<=ob/\z<=g/\z<=mb
section
variable {z : Nat} {tv wv : List Value} {ob g mb : Nat} {lv : Value} {os : List Nat} {K : Int → Bool} {m : Nat} {wr wy : World}
theorem Oc.ni (h:Oc z tv wv ob g mb lv os K m wr):∀ i,lv.ownBlock=some i->i≠z/\i≠z+1/\i≠ob/\i≠mb/\i≠g:=by
 intro i hi
 refine ⟨fun e=>own_ne h.own h.t (by decide) (e ▸ hi),fun e=>own_ne h.own h.wi (by decide) (e ▸ hi),fun e=>own_ne h.own h.bo (by decide) (e ▸ hi),fun e=>own_ne h.own h.bm (by decide) (e ▸ hi), ?_⟩
 rcases h.own.2 with ⟨e,_⟩ | ⟨g',cap,cur,rfl,_,hh,_⟩
 ·rw [e] at hi;cases hi
 simp only [Value.ownBlock] at hi
 injection hi with hi
 subst hi
 exact h.mp.ne_cells hh
theorem Oc.ng (h:Oc z tv wv ob g mb lv os K m wr):z≠g/\z+1≠g/\ob≠g/\mb≠g:=⟨h.mp.ne_cells h.t,h.mp.ne_cells h.wi,h.mp.ne_cells h.bo,h.mp.ne_cells h.bm⟩
theorem Oc.turn (h:Oc z tv wv ob g mb lv os K m wr) {D:Nat->Prop} (k:Far D wr wy) (hD:∀ i,D i->i≠z/\i≠z+1/\i≠ob/\i≠mb/\i≠g/\lv.ownBlock≠some i):Oc z tv wv ob g mb lv os K m wy:=
 ⟨k.whole h.t fun x=>(hD _ x).1 rfl,k.whole h.wi fun x=>(hD _ x).2.1 rfl,k.whole h.bo fun x=>(hD _ x).2.2.1 rfl,k.whole h.bm fun x=>(hD _ x).2.2.2.1 rfl,k.own h.own fun i hi x=>(hD _ x).2.2.2.2.2 hi,h.mp.block (k.block _ h.mp.lt fun x=>(hD _ x).2.2.2.2.1 rfl),h.ne,h.lo⟩
theorem Oc.move (h:Oc z tv wv ob g mb lv os K m wr) (hb:Below wr.heap.size wr wy):Oc z tv wv ob g mb lv os K m wy:=h.turn (Far.of_below (fun _=>False) hb) fun _ x=>x.elim
theorem Oc.push (h:Oc z tv wv ob g mb lv os K m wr) {x:Nat} {lv':Value} (ho:wy.ownsRow z 3 1 lv' (os.length+1) (os.map (fun (k:Nat)=>Value.int .i64 (k:Int))++[.int .i64 (x:Int)])) (hg:wr.grownBy wy lv.ownBlock) :
  Oc z tv wv ob g mb lv' (os++[x]) K m (wy.setCell ⟨ob,0,none⟩ lv'):=by
 have hk:Far (fun i=>lv.ownBlock=some i) wr wy:=Far.of_grown hg fun i e=>e.symm
 have hs:Far (fun i=>i=ob) wy (wy.setCell ⟨ob,0,none⟩ lv'):=Far.set_ (D:=fun i=>i=ob) rfl 0 lv'
 have hn:=h.ni
 have hbo:Whole wy ob 27 [lv]:=hk.whole h.bo fun e=>(hn _ e).2.2.1 rfl
 refine ⟨hs.whole (hk.whole h.t fun e=>(hn _ e).1 rfl) fun e=>h.ne.1 e.symm,hs.whole (hk.whole h.wi fun e=>(hn _ e).2.1 rfl) fun e=>h.ne.2.1 e.symm,hbo.set_ 0 lv',hs.whole (hk.whole h.bm fun e=>(hn _ e).2.2.2.1 rfl) fun e=>h.ne.2.2 e.symm, ?_, ?_,h.ne,h.lo⟩
 ·refine hs.own ?_ fun i hi e=>own_ne ho hbo (by decide) (e ▸ hi)
  simpa using ho
 have h1:=h.mp.block (hk.block _ h.mp.lt fun e=>(hn _ e).2.2.2.2 rfl)
 exact h1.block (hs.block _ h1.lt fun e=>h.ng.2.2.1 e.symm)
theorem Oc.put (h:Oc z tv wv ob g mb lv os K m wr) {K':Int->Bool} {m':Nat} (hp:IntSet Tryz.prog wy g K' m') (hg:wr.grownBy wy (some g)):Oc z tv wv ob g mb lv os K' m' wy:=by
 have hk:Far (fun i=>i=g) wr wy:=Far.of_grown hg fun i e=>by injection e
 have hn:=h.ni
 have hq:=h.ng
 exact ⟨hk.whole h.t fun e=>hq.1 e,hk.whole h.wi fun e=>hq.2.1 e,hk.whole h.bo fun e=>hq.2.2.1 e,hk.whole h.bm fun e=>hq.2.2.2 e,hk.own h.own fun i hi e=>(hn _ hi).2.2.2.2 e,hp,h.ne,h.lo⟩
end
def RChoicesP (ps:List Pk) (v:Ws) (tv wv:List Value) (w:World) (e:Ending) (w':World):Prop:=
 ∃ z ob g mb lv m,w.heap.size<=z/\e=.returned (.tuple #[.int .i64 (manyC ps:Int),.func (.func 67) #[] #[.pointer (some ⟨ob,0,none⟩),.pointer (some ⟨mb,0,none⟩),.pointer (some ⟨z,0,none⟩),.pointer (some ⟨z+1,0,none⟩)]]) /\
  Oc z tv wv ob g mb lv (ordP v.ins ps.length) (fun x=>(insP v.ins).any fun k=>x == (k:Int)) m w'/\Below w.heap.size w w'
theorem Oc.new (w:World) (tv wv:List Value):∃ ob g mb,ob=w.heap.size+1+1+1/\g=ob+1/\mb=ob+1+1/\Oc w.heap.size tv wv ob g mb (.slice (some ⟨w.heap.size+1+1,0,none⟩) 0 0) [] (fun _=>false) 0
  ((((((w.alloc (.cells tv.toArray 24)).alloc (.cells wv.toArray 30)).alloc (.cells #[] 3)).alloc (.cells #[.slice (some ⟨w.heap.size+1+1,0,none⟩) 0 0] 27)).alloc (.map #[] 0)).alloc (.cells #[.map (some (w.heap.size+1+1+1+1))] 120)):=by
 refine ⟨_,_,_,rfl,rfl,rfl, ?_⟩
 have h1:=Whole.new w w.heap.size 24 tv rfl
 have h2:=Whole.new (w.alloc (.cells tv.toArray 24)) (w.heap.size+1) 30 wv (by simp)
 have h4:=Whole.new (((w.alloc (.cells tv.toArray 24)).alloc (.cells wv.toArray 30)).alloc (.cells #[] 3)) (w.heap.size+1+1+1) 27 [.slice (some ⟨w.heap.size+1+1,0,none⟩) 0 0] (by simp)
 have h3:=Whole.new ((w.alloc (.cells tv.toArray 24)).alloc (.cells wv.toArray 30)) (w.heap.size+1+1) 3 [] (by simp)
 have h5:=IntSet.made Tryz.prog ((((w.alloc (.cells tv.toArray 24)).alloc (.cells wv.toArray 30)).alloc (.cells #[] 3)).alloc (.cells #[.slice (some ⟨w.heap.size+1+1,0,none⟩) 0 0] 27))
 rw [show ((((w.alloc (.cells tv.toArray 24)).alloc (.cells wv.toArray 30)).alloc (.cells #[] 3)).alloc (.cells #[.slice (some ⟨w.heap.size+1+1,0,none⟩) 0 0] 27)).heap.size=w.heap.size+1+1+1+1 by simp] at h5
 generalize hw4:((((w.alloc (.cells tv.toArray 24)).alloc (.cells wv.toArray 30)).alloc (.cells #[] 3)).alloc (.cells #[.slice (some ⟨w.heap.size+1+1,0,none⟩) 0 0] 27))=w4 at *
 have g1:Whole w4 w.heap.size 24 tv:=by rw [<- hw4];exact ((h1.alloc _).alloc _).alloc _
 have g2:Whole w4 (w.heap.size+1) 30 wv:=by rw [<- hw4];exact (h2.alloc _).alloc _
 have g3:Whole w4 (w.heap.size+1+1) 3 []:=by rw [<- hw4];exact h3.alloc _
 have hs4:w4.heap.size=w.heap.size+1+1+1+1:=by rw [<- hw4];simp
 have g5:=Whole.new (w4.alloc (.map #[] 0)) (w.heap.size+1+1+1+1+1) 120 [.map (some (w.heap.size+1+1+1+1))] (by simp [hs4])
 have g6:Whole ((w4.alloc (.map #[] 0)).alloc (.cells #[.map (some (w.heap.size+1+1+1+1))] 120)) (w.heap.size+1+1) 3 []:=(g3.alloc _).alloc _
 refine ⟨(g1.alloc _).alloc _,(g2.alloc _).alloc _,(h4.alloc _).alloc _,g5, ?_, ?_,by omega,by omega⟩
 ·exact ⟨rfl,.inr ⟨w.heap.size+1+1,0,#[],rfl,by omega,g6,qr _,Nat.zero_le _,rfl,rfl⟩⟩
 exact h5.block (((qbr _ (w4.alloc (.map #[] 0))).alloc (qr _) _).block _ (by simp [hs4]))
theorem zeroBoolE (w:World):(zeroValue 4).run Tryz.prog w=.ok (.bool false) w:=by kernel_rfl
theorem any_insP {l:List Nat} {i:Nat} {b:Bool} (h:b=l.any fun k=>(i:Int) == (k:Int)):l.contains i=b:=by
 subst h
 induction l with
 | nil=>rfl
 | cons x r ih =>
  rw [List.contains_cons,List.any_cons,ih]
  congr 1
  by_cases e:i=x
  ·subst e;simp
  rw [beq_eq_false_iff_ne.2 e,beq_eq_false_iff_ne.2 (by omega)]
theorem rchoices_any (ps:List Pk) (v:Ws) (S:Nat->Prop) (A:Option Addr) (n c:Nat) (A1:Option Addr) (n1 c1:Nat) (A2:Option Addr) (n2 c2:Nat) (A3:Option Addr) (n3 c3:Nat) (A4:Option Addr) (n4 c4:Nat) (w:World) (hT:RTree w S A n ps) (hnc:n<=c) (hc:c<=maxLen)
  (hW:WsAt w S A1 n1 c1 A2 n2 c2 A3 n3 c3 A4 n4 c4 v) (hS:∀ k,S k->k<w.heap.size) (hok:ckWish ps v=0) :
  Calls Tryz.prog 22 #[.agg #[.slice A n c],.agg #[.slice A1 n1 c1,.slice A2 n2 c2,.slice A3 n3 c3,.slice A4 n4 c4]] w (RChoicesP ps v [.slice A n c] [.slice A1 n1 c1,.slice A2 n2 c2,.slice A3 n3 c3,.slice A4 n4 c4] w):=by
 have hmm:=@run_makeMap Tryz.prog
 unfold maxLen at hc
 have WP:=qh (wish_parts hok)
 have HT:=qh hT;have HW:=qh hW;have HS:=qh hS
 have HLen:=qh hT.len
 have h8:n<=8:=by rw [<- HLen.out];exact (tree_parts WP.out.tree).1
 obtain ⟨ob,g,mb,hob,hg,hmb,HO⟩:=Oc.new w [.slice A n c] [.slice A1 n1 c1,.slice A2 n2 c2,.slice A3 n3 c3,.slice A4 n4 c4]
 obtain ⟨i0,hi0,hz0,hz1,hz2⟩:=info_parts int_infoE
 have Hi0:=qh hi0;have Hz0:=qh hz0;have Hz1:=qh hz1;have Hz2:=qh hz2
 have HOH:=qh HO
 clear hT hW hS hok hi0 hz0 hz1 hz2 HO
 have HN:=qh (And.intro hob (And.intro hg hmb))
 clear hob hg hmb
 go_enter Tryz.func22,Tryz.ntmps22
 go_upto_region 3 with fail
 rw [show w.heap.size+1+1+1+1+1=mb by have:=HN.out;omega,show w.heap.size+1+1+1+1=g by have:=HN.out;omega,show w.heap.size+1+1+1=ob by have:=HN.out;omega]
 rw [show w.heap.size+1+1+1+1=g by have:=HN.out;omega] at HOH
 have HB1:Hid (Below w.heap.size w ((((((w.alloc (.cells #[.slice A n c] 24)).alloc (.cells #[.slice A1 n1 c1,.slice A2 n2 c2,.slice A3 n3 c3,.slice A4 n4 c4] 30)).alloc (.cells #[] 3)).alloc (.cells #[.slice (some ⟨w.heap.size+1+1,0,none⟩) 0 0] 27)).alloc (.map #[] 0)).alloc (.cells #[.map (some g)] 120))):=
  qh ((((((((qbr _ w).alloc (qr _) _).alloc (by simp) _).alloc (by simp;omega) _).alloc (by simp;omega) _).alloc (by simp;omega) _).alloc (by simp;omega) _))
 generalize ((((((w.alloc (.cells #[.slice A n c] 24)).alloc (.cells #[.slice A1 n1 c1,.slice A2 n2 c2,.slice A3 n3 c3,.slice A4 n4 c4] 30)).alloc (.cells #[] 3)).alloc (.cells #[.slice (some ⟨w.heap.size+1+1,0,none⟩) 0 0] 27)).alloc (.map #[] 0)).alloc (.cells #[.map (some g)] 120))=w1 at HOH HB1 ⊢
 have i1:=HOH.out.wi.cell 1
 have ilt:=HOH.out.wi.lt
 simp only [qgz,qgs] at i1
 have HN2:=qh HW.out.ins.len
 go_wp2
 go_loopg [18] n2 (fun gg iv wr=>∃ (j m:Nat) (lv:Value),Hid (j+gg=n2)/\iv=.int .i64 j/\Hid (Oc w.heap.size [.slice A n c] [.slice A1 n1 c1,.slice A2 n2 c2,.slice A3 n3 c3,.slice A4 n4 c4] ob g mb lv ((insP v.ins).take j) (fun x=>((insP v.ins).take j).any fun k=>x == (k:Int)) m wr)/\Hid (Below w.heap.size w wr)/\Hid (m<=j))
 case atStart=>exact ⟨0,0,_,qh (Nat.zero_add _),rfl,qh HOH.out,HB1,qh (qr _)⟩
 case round =>
  obtain ⟨j,m,lv,Hj,rfl,HO,HB,Hm⟩:=hrel
  clear HOH HB1 i1 ilt
  by_cases hj:j<n2
  ·obtain ⟨b2,o2,mm,E,u,d2,rfl,hbS,hm,hud,hd,hon,g0,g1⟩:=(HW.out.ins.under HB.out HS.out).at_ hj
   obtain ⟨hp0,hp1,_⟩:=ckMs_mem WP.out.ok.ins mm (List.mem_of_getElem? hm)
   rw [HLen.out] at hp1
   have hmp:(insP v.ins)[j]? = some mm.pl.toNat:=by unfold insP;rw [qgm,hm];rfl
   obtain ⟨pl,on⟩:=mm
   dsimp only at hp0 hp1 g0 g1 hmp
   obtain ⟨p,rfl⟩:∃ p:Nat,pl=p:=⟨pl.toNat,by omega⟩
   rw [Int.toNat_natCast] at hmp
   have hal:Below wr.heap.size wr (wr.alloc (.cells #[.int .i64 (p:Int),.slice E u d2] 85)):=(qbr _ wr).alloc (qr _) _
   have O1:=qh (HO.out.move hal)
   have HM1:=qh (Whole.new wr wr.heap.size 85 [.int .i64 (p:Int),.slice E u d2] rfl)
   have HBA:=qh (HB.out.trans (hal.mono HB.out.size))
   have HMP:=qh hmp
   have hbl2:b2<wr.heap.size:=ql (HS.out _ hbS) HB.out.size
   have hjn:(j:Int)<n2:=by omega
   have hj0:(0:Int)<=(j:Int):=by omega
   have HOL:Hid (ob<wr.heap.size):=qh HO.out.bo.lt
   clear hal hmp hon hm hbS hud hd
   have hlj:((insP v.ins).take j).length=j:=by
    have h1:(insP v.ins).length=v.ins.length:=by unfold insP;simp
    have h2:=HN2.out
    rw [List.length_take];omega
   have hn8:n2<=8:=by
    have h1:=ordP_len WP.out.ok
    unfold ordP at h1
    rw [List.length_append] at h1
    have h2:(insP v.ins).length=v.ins.length:=by unfold insP;simp
    have:=HLen.out;have:=HN2.out
    omega
   have hown8:=O1.out.own
   rw [hlj] at hown8
   obtain ⟨lA,lc,rfl,hl1,hl2,_⟩:=own_form hown8
   have HO8:=qh hown8
   clear hown8
   have HLJ:=qh hlj
   clear hlj
   go_upto_region 6 with fail
   generalize hw8:wr.alloc (.cells #[.int .i64 (p:Int),.slice E u d2] 85)=w8 at O1 HM1 HBA HO8 ⊢
   have HW8:Hid (w.heap.size<=w8.heap.size):=qh HBA.out.size
   have o0:=O1.out.bo.cell 0
   have olt:=O1.out.bo.lt
   have m0:=HM1.out.cell 0
   have mlt:=HM1.out.lt
   simp only [qgz] at o0 m0
   have O8:=qh (O1.out.move ((qbr _ w8).alloc (qr _) (.cells #[.int .i64 (p:Int)] 3)))
   go_upto_region 7 with (at_builtin;refine wpList_append_own_at _ rfl _ _ 27 rfl w.heap.size 3 i0 (.int .i64 0) 1 8 Tryz.underlying27 Hi0.out Hz0.out Hz1.out Hz2.out rfl (by decide) _ _ _ rfl (HO8.out.alloc _) ⟨w8.heap.size,0,none⟩ 1 1 [.int .i64 (p:Int)] rfl rfl ?d16 ?d26 ?d36 ?d46 ?d56 ?_)
   try (case d16=>exact cell_one_new _ _ _)
   try (case d26=>simp [Value.oneCell'])
   try (case d36=>unfold maxLen;omega)
   try (case d46=>omega)
   try (case d56=>(try simp);have:=HW8.out;omega)
   intro lv' w9 hown9 hg9 _ hat9
   obtain ⟨lA2,lc2,rfl,hl3,hl4,_⟩:=own_form hown9
   have P9:=qh (O8.out.push (x:=p) (lv':=.slice lA2 (j+1:Nat) lc2) (wy:=w9) (by rw [HLJ.out];simpa using hown9) hg9)
   have hb9:Whole w9 ob 27 [.slice lA j lc]:=Far.whole (D:=fun i=>(Value.slice lA j lc).ownBlock=some i) (Far.of_grown hg9 fun i e=>e.symm) O8.out.bo fun e=>(O8.out.ni _ e).2.2.1 rfl
   have o9:=hb9.cell 0
   have f9:=hb9.free 0
   have olt9:=hb9.lt
   simp only [qgz] at o9
   have HB9:=qh (((HBA.out.trans (((qbr _ w8).alloc (qr _) (.cells #[.int .i64 (p:Int)] 3)).mono HBA.out.size)).trans (below_of_grown hg9 (by simp;have:=HW8.out;omega) fun k e=>(O8.out.own.lt k e).1)).setCell (p:=⟨ob,0,none⟩) O8.out.lo.1 (.slice lA2 (j+1:Nat) lc2))
   clear hb9
   have hbo9:Whole w9 wr.heap.size 85 [.int .i64 (p:Int),.slice E u d2]:=Far.whole (D:=fun i=>(Value.slice lA j lc).ownBlock=some i) (Far.of_grown hg9 fun i e=>e.symm) (HM1.out.alloc _) fun e=>own_ne O8.out.own (HM1.out.alloc (.cells #[.int .i64 (p:Int)] 3)) (by decide) e
   have HM9:=qh (hbo9.far (p:=⟨ob,0,none⟩) (by show wr.heap.size≠ob;have:=HOL.out;omega) (.slice lA2 (j+1:Nat) lc2))
   clear hown9 hg9 hat9 hbo9 o0 olt m0 mlt
   go_upto_region 7 with fail
   have hwp:(Lit.int .i64 (p:Int)).wf=true:=wf_of (by omega) (by omega)
   obtain ⟨wP,hput,hset,hgP,hsz⟩:=P9.out.mp.put Tryz.underlying3 Tryz.underlying4 Tryz.underlying120 hwp (by have:=Hm.out;unfold maxLen;omega)
   have PN:=qh (P9.out.put hset hgP)
   have HBP:=qh (HB9.out.trans (below_of_grown hgP HB9.out.size fun k e=>by injection e with e;subst e;exact P9.out.lo.2.1))
   have bm0:=P9.out.bm.cell 0
   have blt:=P9.out.bm.lt
   have m1:=HM9.out.cell 0
   have mlt1:=HM9.out.lt
   simp only [qgz] at bm0 m1
   generalize hwA:w9.setCell ⟨ob,0,none⟩ (.slice lA2 (j+1:Nat) lc2)=wA at hput bm0 m1 blt mlt1 ⊢
   clear hwA hset hgP hsz P9 HM9 O1 HM1 HO8 O8 HB9 o9 f9 olt9
   go_wp2
   go_roundg (gk - 1)
   case measure=>have:=Hj.out;omega
   case rel=>exact ⟨j+1,_,_,qh (by have:=Hj.out;omega),by go_num,qh (by
    have h:=PN.out
    have e:(insP v.ins).take j++[p]=(insP v.ins).take (j+1):=by
     obtain ⟨h1,h2⟩:=List.getElem?_eq_some_iff.1 HMP.out
     rw [List.take_succ_eq_append_getElem h1,h2]
    rw [e] at h
    have e2:(fun y:Int=>y == (p:Int) || ((insP v.ins).take j).any fun k=>y == (k:Int))=fun x:Int=>((insP v.ins).take (j+1)).any fun k=>x == (k:Int):=by
     funext y
     rw [<- e,List.any_append,Bool.or_comm];simp
    rw [e2] at h
    exact h),HBP,qh (by have:=Hm.out;split <;> omega)⟩
  obtain rfl:n2=j:=by have:=Hj.out;omega
  have HO1:Hid (Oc w.heap.size [.slice A n c] [.slice A1 n1 c1,.slice A2 n2 c2,.slice A3 n3 c3,.slice A4 n4 c4] ob g mb lv (insP v.ins++freeP v.ins 0) (fun x=>(insP v.ins).any fun k=>x == (k:Int)) m wr):=qh (by
   have h:=HO.out
   rw [List.take_of_length_le (by have h1:(insP v.ins).length=v.ins.length:=by { unfold insP;simp };have:=HN2.out;omega)] at h
   have e:freeP v.ins 0=[]:=rfl
   rw [e,List.append_nil];exact h)
  have hjn:¬ (n2:Int)<n2:=by omega
  have t0:=HO.out.t.cell 0
  have tlt:=HO.out.t.lt
  simp only [qgz] at t0
  clear HO Hm Hj
  go_wp2
  clear t0 tlt
  go_loopg [34] n (fun gg iv wr=>∃ (i:Nat) (lv:Value),Hid (i+gg=n)/\iv=.int .i64 i/\Hid (Oc w.heap.size [.slice A n c] [.slice A1 n1 c1,.slice A2 n2 c2,.slice A3 n3 c3,.slice A4 n4 c4] ob g mb lv (insP v.ins++freeP v.ins i) (fun x=>(insP v.ins).any fun k=>x == (k:Int)) m wr)/\Hid (Below w.heap.size w wr))
  case atStart=>exact ⟨0,_,qh (Nat.zero_add _),rfl,HO1,HB⟩
  case round =>
   obtain ⟨wo,rfl⟩:∃ x:World,x=wr:=⟨_,rfl⟩
   obtain ⟨i,lv,Hi,rfl,O1,HBA⟩:=hrel
   clear HO1 HB
   by_cases hi:i<n
   ·have hin:(i:Int)<n:=by omega
    have hwi:(Lit.int .i64 (i:Int)).wf=true:=wf_of (by omega) (by omega)
    have hlk:=O1.out.mp.look Tryz.underlying3 Tryz.underlying4 (zeroBoolE _) Tryz.underlying120 hwi
    have bm0:=O1.out.bm.cell 0
    have blt:=O1.out.bm.lt
    simp only [qgz] at bm0
    obtain ⟨kb,hkb⟩:∃ x,x=(insP v.ins).any fun k=>(i:Int) == (k:Int):=⟨_,rfl⟩
    rw [<- hkb] at hlk
    have HKB:=qh hkb
    clear hkb
    cases kb
    ·have HE:Hid (freeP v.ins (i+1)=freeP v.ins i++[i]):=qh (by unfold freeP;rw [List.range_succ,List.filter_append,List.filter_cons,any_insP HKB.out];simp)
     have hlj:(insP v.ins++freeP v.ins i).length=(insP v.ins++freeP v.ins i).length:=rfl
     obtain ⟨j,hj⟩:∃ x,x=(insP v.ins++freeP v.ins i).length:=⟨_,rfl⟩
     have HLJ:=qh hj.symm
     have hlj:=hj.symm
     have hj8:j<=16:=by
      rw [hj,List.length_append]
      have h1:=ordP_len WP.out.ok
      unfold ordP at h1
      rw [List.length_append] at h1
      have h3:(freeP v.ins i).length<=i:=by unfold freeP;exact qlt (List.length_filter_le _ _) (by simp)
      have:=HLen.out
      omega
     clear hj
     have hown8:=O1.out.own
     rw [hlj] at hown8
     obtain ⟨lA,lc,rfl,hl1,hl2,_⟩:=own_form hown8
     have HO8:=qh hown8
     clear hown8
     have o0:=O1.out.bo.cell 0
     have olt:=O1.out.bo.lt
     simp only [qgz] at o0
     clear hlj
     go_upto_region 13 with fail
     have HW8:Hid (w.heap.size<=wo.heap.size):=qh HBA.out.size
     have O8:=qh (O1.out.move ((qbr _ wo).alloc (qr _) (.cells #[.int .i64 (i:Int)] 3)))
     go_upto_region 14 with (at_builtin;refine wpList_append_own_at _ rfl _ _ 27 rfl w.heap.size 3 i0 (.int .i64 0) 1 8 Tryz.underlying27 Hi0.out Hz0.out Hz1.out Hz2.out rfl (by decide) _ _ _ rfl (HO8.out.alloc _) ⟨wo.heap.size,0,none⟩ 1 1 [.int .i64 (i:Int)] rfl rfl ?d17 ?d27 ?d37 ?d47 ?d57 ?_)
     try (case d17=>exact cell_one_new _ _ _)
     try (case d27=>simp [Value.oneCell'])
     try (case d37=>unfold maxLen;omega)
     try (case d47=>omega)
     try (case d57=>(try simp);have:=HW8.out;omega)
     intro lv' w9 hown9 hg9 _ hat9
     obtain ⟨lA2,lc2,rfl,hl3,hl4,_⟩:=own_form hown9
     have P9:=qh (O8.out.push (x:=i) (lv':=.slice lA2 (j+1:Nat) lc2) (wy:=w9) (by rw [HLJ.out];simpa using hown9) hg9)
     have hb9:Whole w9 ob 27 [.slice lA j lc]:=Far.whole (D:=fun i=>(Value.slice lA j lc).ownBlock=some i) (Far.of_grown hg9 fun i e=>e.symm) O8.out.bo fun e=>(O8.out.ni _ e).2.2.1 rfl
     have o9:=hb9.cell 0
     have f9:=hb9.free 0
     have olt9:=hb9.lt
     simp only [qgz] at o9
     have HB9:=qh (((HBA.out.trans (((qbr _ wo).alloc (qr _) (.cells #[.int .i64 (i:Int)] 3)).mono HBA.out.size)).trans (below_of_grown hg9 (by simp;have:=HW8.out;omega) fun k e=>(O8.out.own.lt k e).1)).setCell (p:=⟨ob,0,none⟩) O8.out.lo.1 (.slice lA2 (j+1:Nat) lc2))
     clear hb9
     clear hown9 hg9 hat9 o0 olt bm0 blt hlk
     go_wp2
     go_roundg (gk - 1)
     case measure=>have:=Hi.out;omega
     case rel=>exact ⟨i+1,_,qh (by have:=Hi.out;omega),by go_num,qh (by rw [HE.out,<- List.append_assoc];exact P9.out),HB9⟩
    have HE:Hid (freeP v.ins (i+1)=freeP v.ins i):=qh (by unfold freeP;rw [List.range_succ,List.filter_append,List.filter_cons,any_insP HKB.out];simp)
    go_wp2
    go_roundg (gk - 1)
    case measure=>have:=Hi.out;omega
    case rel=>exact ⟨i+1,_,qh (by have:=Hi.out;omega),by go_num,qh (by rw [HE.out];exact O1.out),HBA⟩
   obtain rfl:n=i:=by have:=Hi.out;omega
   have hin:¬ (n:Int)<n:=by omega
   have HOE:Hid (Oc w.heap.size [.slice A n c] [.slice A1 n1 c1,.slice A2 n2 c2,.slice A3 n3 c3,.slice A4 n4 c4] ob g mb lv (ordP v.ins ps.length) (fun x=>(insP v.ins).any fun k=>x == (k:Int)) m wo):=qh (by rw [HLen.out];exact O1.out)
   have hown:=HOE.out.own
   rw [ordP_len WP.out.ok,HLen.out] at hown
   obtain ⟨lA,lc,rfl,hl1,hl2,_⟩:=own_form hown
   have o0:=HOE.out.bo.cell 0
   have olt:=HOE.out.bo.lt
   have t0:=HOE.out.t.cell 0
   have tlt:=HOE.out.t.lt
   simp only [qgz] at t0 o0
   have HMANY:=qh (tree_parts WP.out.tree).2.1
   clear hown Hi O1
   go_wp2
   clear t0 tlt o0 olt
   go_loopg [4,51] n (fun gg sv iv wr=>∃ (i:Nat),Hid (i+gg=n)/\iv=.int .i64 i/\sv=.int .i64 ((n+flagsBef ps i:Nat):Int)/\Hid (Oc w.heap.size [.slice A n c] [.slice A1 n1 c1,.slice A2 n2 c2,.slice A3 n3 c3,.slice A4 n4 c4] ob g mb (.slice lA n lc) (ordP v.ins ps.length) (fun x=>(insP v.ins).any fun k=>x == (k:Int)) m wr)/\Hid (Below w.heap.size w wr))
   case atStart=>exact ⟨0,qh (Nat.zero_add _),rfl,rfl,HOE,HBA⟩
   case round =>
    obtain ⟨i,Hi,rfl,rfl,HR,HBR⟩:=hrel
    clear HOE HBA
    by_cases hi:i<n
    ·obtain ⟨b2,o2,p,F,fn,fc,kd,pa,pf,pno,G,gq,gd,rfl,hbS2,hp,hP,hcell⟩:=(HT.out.under HBR.out HS.out).at_ hi
     have hpk:pkOf ps (i:Int)=p:=pkOf_at hp
     have hfl:p.fs.length=fn:=by have:=hP.fs.row.len;simpa [strs] using this
     obtain ⟨g0,g1,g2,g3,g4,g5,g6,g7,g8,g9,g10,g11,g12,g13⟩:=cb14 hcell (by decide)
     unfold pkRow ndRow at g0 g1 g2 g3 g4 g5 g6 g7 g8 g9 g10 g11 g12 g13
     simp only [qgz,qgs,Nat.add_zero] at g0 g1 g2 g3 g4 g5 g6 g7 g8 g9 g10 g11 g12 g13
     have hbl2:b2<wr.heap.size:=ql (HS.out _ hbS2) HBR.out.size
     have hfb:flagsBef ps i+fn<=flagsBef ps n:=by
      have h:=flagsBef_mono (ps:=ps) (i:=i+1) (j:=n) (by omega)
      simp only [flagsBef] at h
      rw [hpk,hfl] at h;exact h
     have hsn:flagsBef ps (i+1)=flagsBef ps i+fn:=by simp only [flagsBef];rw [hpk,hfl]
     have HSN:=qh hsn
     have h14:n+flagsBef ps i+fn<=14:=by
      have:=HMANY.out
      unfold manyC at this
      rw [HLen.out] at this
      omega
     have hsum:((n+flagsBef ps i:Nat):Int)+(fn:Int)=((n+flagsBef ps (i+1):Nat):Int):=by rw [hsn];push_cast;omega
     have hin2:(i:Int)<n:=by omega
     have hi0':(0:Int)<=(i:Int):=by omega
     clear hcell hp hP hpk hfl hbS2 hfb hsn
     have hal:Below wr.heap.size wr (wr.alloc (.cells #[.string ⟨p.nm.toArray⟩,.int .i64 p.ver,.int .i64 p.slot,.slice F fn fc,.int .i64 kd,.string ⟨pa.nm.toArray⟩,.int .i64 pa.op,.int .i64 pa.ver,.int .i64 pa.slot,.string ⟨pa.fl.toArray⟩,.bool pa.on,.string ⟨pf.toArray⟩,.bool pno,.slice G gq gd] 101)):=(qbr _ wr).alloc (qr _) _
     have C1:=qh (HR.out.move hal)
     have HBN:=qh (HBR.out.trans (hal.mono HBR.out.size))
     have HB1:=qh (Whole.new wr wr.heap.size 101 [.string ⟨p.nm.toArray⟩,.int .i64 p.ver,.int .i64 p.slot,.slice F fn fc,.int .i64 kd,.string ⟨pa.nm.toArray⟩,.int .i64 pa.op,.int .i64 pa.ver,.int .i64 pa.slot,.string ⟨pa.fl.toArray⟩,.bool pa.on,.string ⟨pf.toArray⟩,.bool pno,.slice G gq gd] rfl)
     have p3:=HB1.out.cell 3
     simp only [qgz,qgs] at p3
     clear hal HR
     obtain ⟨sm,hsm⟩:∃ x:Nat,x=n+flagsBef ps i:=⟨_,rfl⟩
     rw [<- hsm] at hsum h14 ⊢
     have hsb:(sm:Int)+fn<=100000:=by omega
     clear hsm
     go_wp2
     go_roundg (gk - 1)
     case measure=>have:=Hi.out;omega
     case rel=>exact ⟨i+1,qh (by have:=Hi.out;omega),by go_num,by (push_cast;first | rfl | (congr 1;push_cast at hsum;omega)),C1,HBN⟩
    obtain rfl:n=i:=by have:=Hi.out;omega
    have hin2:¬ (n:Int)<n:=by omega
    have HMC:Hid (n+flagsBef ps n=manyC ps):=qh (by unfold manyC;rw [HLen.out])
    obtain ⟨sm,hsm⟩:∃ x:Nat,x=n+flagsBef ps n:=⟨_,rfl⟩
    rw [<- hsm] at HMC ⊢
    clear hsm
    go_wp2
    go_ret2
    exact ⟨w.heap.size,ob,g,mb,_,m,qr _,by rw [HMC.out];rfl,HR.out,HBR.out⟩
end
section
open Go.RowKit Qm
def takK (ps:List Pk) (v:Ws) (m:List Bool) (j:Nat) (x:Int):Option Bool:=if ((ordP v.ins ps.length).take j).any (fun i=>x == (i:Int))=true then some (litHolds m ((chW ps v).pick x.toNat)) else none
theorem takK_zero {ps:List Pk} {v:Ws} {m:List Bool} (x:Int):takK ps v m 0 x=none:=rfl
theorem takK_step {ps:List Pk} {v:Ws} (hv:WsOk ps v) {m:List Bool} {j i:Nat} (hj:(ordP v.ins ps.length)[j]? = some i) (x:Int):takK ps v m (j+1) x=if x=(i:Int) then some (m.getD j false != (insP v.ins).contains i) else takK ps v m j x:=by
 have hix:=ixP_of (ordP_nodup hv) hj
 obtain ⟨hl,hp⟩:=List.getElem?_eq_some_iff.1 hj
 unfold takK
 rw [List.take_succ_eq_append_getElem hl,List.any_append,hp]
 by_cases e:x=(i:Int)
 ·subst e
  rw [if_pos rfl,if_pos (by simp),Int.toNat_natCast,litHolds_pick,hix]
 rw [if_neg e]
 have:[i].any (fun i=>x == (i:Int))=false:=by simpa using e
 rw [this,Bool.or_false]
theorem takK_all {ps:List Pk} {v:Ws} (hv:WsOk ps v) {m:List Bool} {i:Nat} (hi:i<ps.length):takK ps v m ps.length (i:Int)=some (litHolds m ((chW ps v).pick i)):=by
 unfold takK
 rw [List.take_of_length_le (by rw [ordP_len hv];exact Nat.le_refl _),if_pos,Int.toNat_natCast]
 exact List.any_eq_true.2 ⟨i,(mem_ordP hv).2 hi,by simp⟩
theorem takK_cnt {ps:List Pk} {v:Ws} (hv:WsOk ps v) {m:List Bool} {j i:Nat} (hj:(ordP v.ins ps.length)[j]? = some i):takK ps v m j (i:Int)=none:=by
 unfold takK
 rw [if_neg]
 intro h
 obtain ⟨k,hk,e⟩:=List.any_eq_true.1 h
 have e:(i:Int)=(k:Int):=by simpa using e
 obtain rfl:i=k:=by omega
 obtain ⟨q,hq,e2⟩:=List.mem_take_iff_getElem.1 hk
 obtain ⟨hl,hp⟩:=List.getElem?_eq_some_iff.1 hj
 have:=List.pairwise_iff_getElem.1 (ordP_nodup hv) q j (by omega) hl (by omega)
 exact this (e2.trans hp.symm)
end
section
open Go.RowKit
def BoolMap (P:Program) (w:World) (b:Nat) (K:Int->Option Bool) (m:Nat):Prop:=
 ∃ D:DataW Unit,w.ownsMap P 3 (plainElem P 4) b m D/\Maps.size D=m/\∀ x:Int,(Lit.int .i64 x).wf=true->Maps.has D (.int .i64 x)=(K x).isSome/\D.atKey (.int .i64 x) (.lit (.bool false))=.lit (.bool ((K x).getD false))
section
variable {P : Program} {w w' : World} {b m : Nat} {K : Int → Option Bool}
theorem BoolMap.made (P:Program) (w:World):BoolMap P (w.alloc (.map #[] 0)) w.heap.size (fun _=>none) 0:=
 ⟨.map [],World.ownsMap_made w P 3 _,rfl,fun x _=>⟨rfl,rfl⟩⟩
theorem BoolMap.block (h:BoolMap P w b K m) (hb:w'.heap[b]? = w.heap[b]?):BoolMap P w' b K m:=by
 obtain ⟨D,⟨es,clock,h1,r⟩,h2⟩:=h
 exact ⟨D,⟨es,clock,hb.trans h1,r⟩,h2⟩
theorem BoolMap.lt (h:BoolMap P w b K m):b<w.heap.size:=by obtain ⟨D,h1,_⟩:=h;exact h1.lt
theorem BoolMap.congr {K':Int->Option Bool} {m':Nat} (h:BoolMap P w b K m) (hm:m=m') (hK:∀ x,(Lit.int .i64 x).wf=true->K x=K' x):BoolMap P w b K' m':=by
 subst hm
 obtain ⟨D,h1,h2,h3⟩:=h
 exact ⟨D,h1,h2,fun x hx=>by rw [<- hK x hx];exact h3 x hx⟩
theorem BoolMap.look (h:BoolMap P w b K m) (hk:P.underlying 3=some (.int .i64)) (he:P.underlying 4=some .bool) (hz:(zeroValue 4).run P w=.ok (.bool false) w) {t:TypeId} (ht:P.underlying t=some (.map 3 4)) {x:Int} (hx:(Lit.int .i64 x).wf=true) :
  (Instr.lookup t (.map (some b)) (.int .i64 x) false).run P w=.ok (.bool ((K x).getD false)) w:=by
 obtain ⟨D,h1,_,h3⟩:=h
 obtain ⟨v,ps,hrun,hv⟩:=h1.lookup (Maps.int_keyed hk) ht hz (plainElem_bool he false) (Maps.keyOf_int_mk hk hx)
 rw [(h3 x hx).2] at hv
 have:v=.bool ((K x).getD false):=by
  unfold plainElem at hv
  rw [he] at hv
  cases v <;> simp at hv
  rw [hv.1]
 rw [hrun,this]
theorem BoolMap.put (h:BoolMap P w b K m) (hk:P.underlying 3=some (.int .i64)) (he:P.underlying 4=some .bool) {t:TypeId} (ht:P.underlying t=some (.map 3 4)) {x:Int} {y:Bool} (hx:(Lit.int .i64 x).wf=true) (hm:m<maxLen) :
  ∃ w',(Instr.mapUpdate t (.map (some b)) (.int .i64 x) (.bool y)).run P w=.ok () w'/\BoolMap P w' b (fun z=>if z=x then some y else K z) (if (K x).isSome then m else m+1)/\w.grownBy w' (some b)/\w'.heap.size=w.heap.size:=by
 obtain ⟨D,h1,h2,h3⟩:=h
 have Kd:=Maps.int_keyed (P:=P) hk
 have hkey:=Maps.keyOf_int_mk (P:=P) hk hx
 have hkl:WideAt.IsKeyLit (.int .i64 x):=Kd.key hkey
 obtain ⟨w',hrun,h4,h5⟩:=h1.store Kd ht hm hkey (plainElem_bool he y)
 have htd:=h1.tidy Kd
 have hsz:Maps.size (D.put (.int .i64 x) (.lit (.bool y)))=if (K x).isSome then m else m+1:=by
  rw [Maps.size_put htd,(h3 x hx).1,h2]
 refine ⟨w',hrun,⟨_, ?_,hsz,fun z hz=>?_⟩,h5.grown, ?_⟩
 ·have e:Maps.size (D.put (.int .i64 x) (.lit (.bool y)))<=if (K x).isSome then m else m+1:=by rw [hsz];exact qr _
  obtain ⟨es,clock,hb,F,hs,hD⟩:=h4
  refine ⟨es,clock,hb,F, ?_,hD⟩
  rw [hD] at e
  simpa [Maps.size,length_sorted] using e
 ·by_cases hzx:z=x
  ·subst hzx
   rw [Maps.has_put_same htd.isMap hkl,Maps.atKey_put_same htd.isMap hkl]
   simp
  have hne:(Lit.int .i64 z)≠.int .i64 x:=by intro e;injection e with _ e;exact hzx e
  rw [Maps.has_put_other hne,Maps.atKey_put_other hne]
  show _=(if z=x then some y else K z).isSome/\_=DataW.lit (.bool ((if z=x then some y else K z).getD false))
  rw [if_neg hzx]
  exact h3 z hz
 obtain ⟨es,clock,es',clock',_,rfl⟩:=h5
 simp [ChangeMaps.setBlock]
end
end
end Go.Proofs.YtedbhlgjcnnknaaGreatDoor
