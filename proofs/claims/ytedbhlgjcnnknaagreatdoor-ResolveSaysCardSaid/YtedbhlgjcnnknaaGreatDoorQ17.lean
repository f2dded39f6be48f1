/- Parts. -/
import Derived.Test.YtedbhlgjcnnknaaGreatDoorQ16
import Derived.BigRegion
set_option linter.unusedVariables false
set_option linter.unusedSimpArgs false
set_option linter.unusedSectionVars false
set_option maxRecDepth 100000
set_option maxHeartbeats 12800000
namespace Go.Proofs.YtedbhlgjcnnknaaGreatDoor
section
open Go.RowKit Qm
theorem made_listE (z:Value) (n:Nat):madeCells #[z] n=((List.range n).map fun _=>z).toArray:=by
 apply Array.ext'
 rw [toList_madeCells_one]
 apply List.ext_getElem (by simp)
 intro k h1 h2
 simp
theorem make_intsE (n:Nat) (hn:n<=100000) (w:World):(Instr.makeSlice 27 (.int .i64 (n:Int)) (.int .i64 (n:Int))).run Tryz.prog w=.ok (.slice (some ⟨w.heap.size,0,none⟩) n n) (w.alloc (.cells ((List.range n).map fun _=>Value.int .i64 0).toArray 3)):=by
 rw [run_make_row' 27 3 (.int .i64 0) 8 Tryz.underlying27 int_infoE rfl .i64 .i64 n (by omega) (by omega) w,made_listE]
theorem Whole.ne {w:World} {b b':Nat} {t t':TypeId} {vs vs':List Value} (h:Whole w b t vs) (h':Whole w b' t' vs') (ht:t≠t'):b≠b':=by
 rintro rfl
 unfold Whole at h h'
 rw [h] at h'
 injection h' with h';injection h' with _ h'
 exact ht h'
structure Cst (w:World) (A:Option Addr) (n c:Nat) (wv:List Value) (b pb mb hi vars:Nat) (pk:List Int) (oV:Value) (hs:List (Option Addr×Nat×Nat)) (ls:List (List Int)) (wr:World):Prop where
 t:Whole wr w.heap.size 24 [.slice A n c]
 wi:Whole wr (w.heap.size+1) 30 wv
 blk:Whole wr b 95 [.slice A n c,.slice (some ⟨pb,0,none⟩) n n,oV,.int .i64 (vars:Int),.slice none 0 0,.map (some mb)]
 pick:Whole wr pb 3 (pk.map (.int .i64))
 pair:PairMap Tryz.prog 86 wr mb (fun _ _=>0) 0
 own:wr.ownsRow w.heap.size 27 1 oV ls.length (hs.map hd)
 heads:Heads wr (fun k=>w.heap.size<=k/\k<hi/\oV.ownBlock≠some k/\k≠b/\k≠pb/\k≠mb) hs ls
 bel:Below w.heap.size w wr
 lo:w.heap.size+2<=b/\w.heap.size+2<=pb/\w.heap.size+2<=mb
 hh:hi<=wr.heap.size/\b<hi/\pb<hi/\mb<hi
 oh:∀ g,oV.ownBlock=some g->g<hi
section
variable {w : World} {A : Option Addr} {n c : Nat} {wv : List Value} {b pb mb hi vars : Nat} {pk : List Int} {oV : Value} {hs : List (Option Addr × Nat × Nat)} {ls : List (List Int)} {wr wy : World}
theorem Cst.far (h:Cst w A n c wv b pb mb hi vars pk oV hs ls wr) {D:Nat->Prop} (k:Far D wr wy) (hD:∀ i,D i->hi<=i):Cst w A n c wv b pb mb hi vars pk oV hs ls wy:=by
 have hlo:=h.lo;have hhh:=h.hh
 have nd:∀ i,i<hi->¬ D i:=fun i hi e=>by have:=hD i e;omega
 exact ⟨k.whole h.t (nd _ (by omega)),k.whole h.wi (nd _ (by omega)),k.whole h.blk (nd _ hhh.2.1),k.whole h.pick (nd _ hhh.2.2.1),h.pair.block (k.block _ h.pair.lt (nd _ hhh.2.2.2)),k.own h.own (fun g hg=>nd _ (h.oh g hg)),
  k.heads' h.heads (fun i hi=>⟨ql hi.2.1 hhh.1,nd _ hi.2.1⟩),h.bel.trans (k.below h.bel.size fun i e=>by have:=hD i e;omega),h.lo,⟨qlt hhh.1 k.size,hhh.2⟩,h.oh⟩
theorem Cst.move (h:Cst w A n c wv b pb mb hi vars pk oV hs ls wr) (k:Below wr.heap.size wr wy):Cst w A n c wv b pb mb hi vars pk oV hs ls wy:=h.far (Far.of_below (fun _=>False) k) fun _ e=>e.elim
theorem Cst.up (h:Cst w A n c wv b pb mb hi vars pk oV hs ls wr) {hi':Nat} (h1:hi<=hi') (h2:hi'<=wr.heap.size):Cst w A n c wv b pb mb hi' vars pk oV hs ls wr:=
 ⟨h.t,h.wi,h.blk,h.pick,h.pair,h.own,h.heads.more fun k hk=>⟨hk.1,ql hk.2.1 h1,hk.2.2⟩,h.bel,h.lo,⟨h2,by have:=h.hh;omega⟩,fun g hg=>ql (h.oh g hg) h1⟩
theorem Cst.nes (h:Cst w A n c wv b pb mb hi vars pk oV hs ls wr):b≠pb/\b≠mb/\pb≠mb/\oV.ownBlock≠some b/\oV.ownBlock≠some pb/\oV.ownBlock≠some mb:=by
 refine ⟨h.blk.ne h.pick (by decide),h.pair.ne_cells h.blk,h.pair.ne_cells h.pick,own_ne h.own h.blk (by decide),own_ne h.own h.pick (by decide), ?_⟩
 rcases h.own.2 with ⟨e,_⟩ | ⟨g,cap,cur,rfl,_,hh,_⟩
 ·rw [e];intro e;cases e
 intro e
 simp only [Value.ownBlock] at e
 injection e with e
 exact h.pair.ne_cells hh e
theorem Cst.tick (h:Cst w A n c wv b pb mb hi vars pk oV hs ls wr) (v:Nat) {x:Int} (hx:x=v):Cst w A n c wv b pb mb hi v pk oV hs ls (wr.setCell ⟨b,3,none⟩ (.int .i64 x)):=by
 subst hx
 have F:Far (fun i=>i=b) wr (wr.setCell ⟨b,3,none⟩ (.int .i64 (v:Int))):=Far.set_ (D:=fun i=>i=b) rfl 3 _
 have hn:=h.nes;have hlo:=h.lo
 exact ⟨F.whole h.t (by omega),F.whole h.wi (by omega),h.blk.set_ 3 _,F.whole h.pick (fun e=>hn.1 e.symm),h.pair.block (F.block _ h.pair.lt fun e=>hn.2.1 e.symm),F.own h.own (fun g hg e=>hn.2.2.2.1 (by rw [hg,e])),F.heads' h.heads (fun i hi=>⟨ql hi.2.1 h.hh.1,hi.2.2.2.1⟩),
  h.bel.setCell (p:=⟨b,3,none⟩) (by show w.heap.size<=b;omega) _,h.lo,by simpa [World.setCell] using h.hh,h.oh⟩
theorem Cst.pset (h:Cst w A n c wv b pb mb hi vars pk oV hs ls wr) (p:Nat) (x:Int):Cst w A n c wv b pb mb hi vars (pk.set p x) oV hs ls (wr.setCell ⟨pb,p,none⟩ (.int .i64 x)):=by
 have F:Far (fun i=>i=pb) wr (wr.setCell ⟨pb,p,none⟩ (.int .i64 x)):=Far.set_ (D:=fun i=>i=pb) rfl p _
 have hn:=h.nes;have hlo:=h.lo
 exact ⟨F.whole h.t (by omega),F.whole h.wi (by omega),F.whole h.blk hn.1,by rw [List.map_set];exact h.pick.set_ p _,h.pair.block (F.block _ h.pair.lt fun e=>hn.2.2.1 e.symm),F.own h.own (fun g hg e=>hn.2.2.2.2.1 (by rw [hg,e])),F.heads' h.heads (fun i hi=>⟨ql hi.2.1 h.hh.1,hi.2.2.2.2.1⟩),
  h.bel.setCell (p:=⟨pb,p,none⟩) (by show w.heap.size<=pb;omega) _,h.lo,by simpa [World.setCell] using h.hh,h.oh⟩
theorem Cst.drew (h:Cst w A n c wv b pb mb hi vars pk oV hs ls wr) (k:Nat):Cst w A n c wv b pb mb hi vars pk oV hs ls (wr.drewN k):=h.move (below_drewN (qbr _ _) k)
theorem Cst.pcell (h:Cst w A n c wv b pb mb hi vars pk oV hs ls wr) {p:Nat} (hp:p<pk.length):wr.cell? ⟨pb,p,none⟩=some (.int .i64 (pk.getD p 0)):=by
 rw [h.pick.cell p,qgm,qge hp,qgd,qge hp];rfl
theorem Cst.row (h:Cst w A n c wv b pb mb hi vars pk oV hs ls wr) {oV':Value} {w1:World} {Ax:Option Addr} {nx cx:Nat} {xs:List Int} {Sx:Nat->Prop} (hr:RInts wr Sx Ax nx xs) (hn:nx<=cx/\cx<=maxLen) (hSx:∀ k,Sx k->hi<=k/\k<wr.heap.size)
  (ho:w1.ownsRow w.heap.size 27 1 oV' (ls.length+1) (hs.map hd++[.slice Ax nx cx])) (hg:(wr.alloc (.cells #[.slice Ax nx cx] 27)).grownBy w1 oV.ownBlock) (hv:oV'.ownBlock=oV.ownBlock\/oV'.ownBlock=some (wr.alloc (.cells #[.slice Ax nx cx] 27)).heap.size) :
  Cst w A n c wv b pb mb w1.heap.size vars pk oV' (hs++[(Ax,nx,cx)]) (ls++[xs]) (w1.setCell ⟨b,2,none⟩ oV'):=by
 have hal:Below wr.heap.size wr (wr.alloc (.cells #[.slice Ax nx cx] 27)):=(qbr _ wr).alloc (qr _) _
 have far:Far (fun i=>oV.ownBlock=some i) wr w1:=(Far.of_below _ hal).trans (Far.of_grown hg fun i h=>h.symm) fun _ _ h=>h
 have hsz:=far.size
 have hnes:=h.nes;have hlo:=h.lo;have hhh:=h.hh
 have hnew:∀ i,i<wr.heap.size->oV'.ownBlock=some i->oV.ownBlock=some i:=fun i hi y=>by
  rcases hv with hv | hv
  ·exact hv.symm.trans y
  rw [hv] at y;injection y with y;simp at y;omega
 have F:Far (fun i=>i=b\/oV.ownBlock=some i) wr (w1.setCell ⟨b,2,none⟩ oV'):=(far.mono fun i x=>.inr x).trans (Far.set_ (D:=fun i=>i=b) rfl 2 _) fun i _ x=>.inl x
 have hfs:Far (fun i=>i=b) w1 (w1.setCell ⟨b,2,none⟩ oV'):=Far.set_ (D:=fun i=>i=b) rfl 2 _
 have hol:∀ g,oV.ownBlock=some g->w.heap.size<=g:=fun g hg=>(h.own.lt g hg).1
 have hoB:∀ t vs k,Whole wr k t vs->t≠27->oV.ownBlock≠some k:=fun t vs k hk ht=>own_ne h.own hk ht
 have hb':oV'.ownBlock≠some b:=fun e=>hnes.2.2.2.1 (hnew b (by omega) e)
 refine ⟨F.whole h.t fun e=>e.elim (by omega) (hoB _ _ _ h.t (by decide)),F.whole h.wi fun e=>e.elim (by omega) (hoB _ _ _ h.wi (by decide)),(far.whole h.blk hnes.2.2.2.1).set_ 2 oV',F.whole h.pick fun e=>e.elim (fun e=>hnes.1 e.symm) hnes.2.2.2.2.1,h.pair.block (F.block _ h.pair.lt fun e=>e.elim (fun e=>hnes.2.1 e.symm) hnes.2.2.2.2.2), ?_, ?_, ?_,h.lo, ?_, ?_⟩
 ·have h2:=hfs.own ho fun g hg e=>hb' (by rw [hg,e])
  rw [List.length_append,List.map_append];exact h2
 ·refine ((F.heads' h.heads fun i hi=>⟨by omega,fun e=>e.elim hi.2.2.2.1 hi.2.2.1⟩).more fun k hk=>⟨hk.1,by omega,fun e=>hk.2.2.1 (hnew k (by omega) e),hk.2.2.2⟩).append ((Heads.one (F.ints hr fun k hk=>?_) hn).more fun k hk=>?_)
  ·have:=hSx k hk
   exact ⟨this.2,fun e=>e.elim (by omega) fun e=>by have:=h.oh k e;omega⟩
  have:=hSx k hk
  exact ⟨by omega,by omega,fun e=>by have:=h.oh k (hnew k this.2 e);omega,by omega,by omega,by omega⟩
 ·exact h.bel.trans (F.below h.bel.size fun i e=>e.elim (by omega) (hol i))
 ·have:(w1.setCell ⟨b,2,none⟩ oV').heap.size=w1.heap.size:=by simp [World.setCell]
  rw [this];omega
 exact fun g hg=>(ho.lt g hg).2
end
def ChoicesP (ps:List Pk) (v:Ws) (S:Nat->Prop) (A:Option Addr) (n c:Nat) (w:World) (e:Ending) (w':World):Prop:=
 ∃ q:Dp,q.base=w.heap.size/\q.A=A/\q.n=n/\q.c=c/\q.ps=ps/\q.X=chW ps v/\q.S0=S/\e=.returned (.pointer (some ⟨q.b,0,none⟩))/\Desk q (fun _=>False) 0 ⟨manyC ps,[],fun _ _=>0⟩ w'/\Below w.heap.size w w'
theorem Cst.desk {w:World} {A:Option Addr} {n c:Nat} {wv:List Value} {b pb mb hi:Nat} {oV:Value} {hs:List (Option Addr×Nat×Nat)} {wr:World} {ps:List Pk} {v:Ws} {S:Nat->Prop}
  (h:Cst w A n c wv b pb mb hi (n+flagsBef ps n) (pkAll ps v n) oV hs ((List.range n).map fun (i:Nat)=>(List.range (pkOf ps i).fs.length).map ((chW ps v).on i)) wr) (hT:RTree w S A n ps) (hnc:n<=c) (hc:c<=maxLen) (hn:n<=maxLen) (hS:∀ k,S k->k<w.heap.size) :
  ChoicesP ps v S A n c w (.returned (.pointer (some ⟨b,0,none⟩))) wr:=by
 have hlen:=hT.len
 obtain ⟨oA,oc,rfl,ho1,ho2,horow⟩:=own_formK h.own
 rw [Nat.mul_one] at horow
 simp only [List.length_map,List.length_range] at h ho1 horow
 have hnes:=h.nes;have hlo:=h.lo;have hhh:=h.hh
 have hS1:∀ k,(w.heap.size<=k/\k<wr.heap.size/\k≠b/\k≠mb)->OwnD w.heap.size b mb (.slice none 0 0) (fun _=>False) wr.heap.size k:=fun k hk=>⟨hk.1,hk.2.1,hk.2.2.1,hk.2.2.2,(fun e=>by cases e),fun e=>e⟩
 have hpl:(pkAll ps v n).length=n:=by unfold pkAll;simp [hlen]
 refine ⟨⟨w.heap.size,b,mb,A,n,c,some ⟨pb,0,none⟩,n,oA,oc,S,fun k=>w.heap.size<=k/\k<wr.heap.size/\k≠b/\k≠mb,chW ps v,ps⟩,rfl,rfl,rfl,rfl,rfl,rfl,rfl,rfl,⟨.slice none 0 0,[], ?_⟩,h.bel⟩
 refine ⟨?_,World.ownsRow_nil _ _ _ _,Heads.nil_,h.pair,⟨?_, ?_,hT.under h.bel hS⟩,hS,hS1,⟨by show w.heap.size<=b;omega,fun e=>e⟩,⟨by show w.heap.size<=mb;omega,fun e=>e⟩,(fun g hg=>by cases hg),(fun k e=>e.elim),⟨hnc,hc⟩,⟨qr _,hn⟩, ?_⟩
 ·have hb:=h.blk
  have e1:n+flagsBef ps n=manyC ps:=by unfold manyC;rw [hlen]
  rw [e1] at hb
  exact hb
 ·have:picksX (chW ps v) ps=pkAll ps v n:=by rw [<- hlen,pkAll_full];rfl
  rw [this]
  exact h.pick.ints ⟨by omega,by omega,fun e=>hnes.1 e.symm,hnes.2.2.1⟩ hpl
 ·have:onsX (chW ps v) ps=(List.range n).map fun (i:Nat)=>(List.range (pkOf ps i).fs.length).map ((chW ps v).on i):=by unfold onsX;rw [hlen]
  rw [this]
  refine RClauses.of_ (horow.more fun k hk=>?_) (h.heads.more fun k hk=>⟨hk.1,by omega,hk.2.2.2.1,hk.2.2.2.2.2⟩)
  have hk2:=h.own.lt k hk
  exact ⟨hk2.1,hk2.2,fun e=>hnes.2.2.2.1 (e ▸ hk),fun e=>hnes.2.2.2.2.2 (e ▸ hk)⟩
 exact ⟨ho1,ho2⟩
end
section
open Go.RowKit Qm
theorem ints_infoE:(Tryz.prog.info? 27).map (fun i=>(i.zero,i.size,i.bytes))=some (some (.slice none 0 0),1,24):=by kernel_rfl
section
variable {w w1 : World} {A : Option Addr} {n c : Nat} {wv : List Value} {ins : List Mem}
theorem zeros_ins (n:Nat):((List.range n).map fun _=>Value.int .i64 0)=(pkIns ins n 0).map (.int .i64):=by
 unfold pkIns;simp
theorem Cst.new1 (hb:Below w.heap.size w w1) {B:Nat} (h2:w1.heap.size=B) (h3:B=w.heap.size+1+1) (ht:Whole w1 w.heap.size 24 [.slice A n c]) (hw:Whole w1 (w.heap.size+1) 30 wv) :
  Cst w A n c wv (B+1+1) (B) (B+1) (B+1+1+1) 0 (pkIns ins n 0) (.slice none 0 0) [] []
   (((w1.alloc (.cells ((List.range n).map fun _=>Value.int .i64 0).toArray 3)).alloc (.map #[] 0)).alloc (.cells #[.slice A n c,.slice (some ⟨B,0,none⟩) n n,.slice none 0 0,.int .i64 0,.slice none 0 0,.map (some (B+1))] 95)):=by
 have p1:=Whole.new w1 (B) 3 ((List.range n).map fun _=>Value.int .i64 0) h2.symm
 have m1:=PairMap.made Tryz.prog 86 (w1.alloc (.cells ((List.range n).map fun _=>Value.int .i64 0).toArray 3))
 have e1:(w1.alloc (.cells ((List.range n).map fun _=>Value.int .i64 0).toArray 3)).heap.size=B+1:=by simp [h2]
 have e2:((w1.alloc (.cells ((List.range n).map fun _=>Value.int .i64 0).toArray 3)).alloc (.map #[] 0)).heap.size=B+1+1:=by simp [h2]
 rw [e1] at m1
 refine ⟨((ht.alloc _).alloc _).alloc _,((hw.alloc _).alloc _).alloc _,Whole.new _ _ _ [_,_,_,_,_,_] e2.symm,by rw [<- zeros_ins];exact (p1.alloc _).alloc _,m1.kept (World.grownBy_alloc _ _ none) (by simp),World.ownsRow_nil _ _ _ _,Heads.nil_,((hb.alloc (by omega) _).alloc (by rw [e1];omega) _).alloc (by rw [e2];omega) _,by omega, ?_,fun g hg=>by cases hg⟩
 have:(((w1.alloc (.cells ((List.range n).map fun _=>Value.int .i64 0).toArray 3)).alloc (.map #[] 0)).alloc (.cells #[.slice A n c,.slice (some ⟨B,0,none⟩) n n,.slice none 0 0,.int .i64 0,.slice none 0 0,.map (some (B+1))] 95)).heap.size=B+1+1+1:=by simp [h2]
 omega
theorem Cst.new2 (hb:Below w.heap.size w w1) {B:Nat} (h2:w1.heap.size=B) (h3:B=w.heap.size+1+1) (ht:Whole w1 w.heap.size 24 [.slice A n c]) (hw:Whole w1 (w.heap.size+1) 30 wv) :
  Cst w A n c wv (B+1+1) (B+1) (B) (B+1+1+1) 0 (pkIns ins n 0) (.slice none 0 0) [] []
   (((w1.alloc (.map #[] 0)).alloc (.cells ((List.range n).map fun _=>Value.int .i64 0).toArray 3)).alloc (.cells #[.slice A n c,.slice (some ⟨B+1,0,none⟩) n n,.slice none 0 0,.int .i64 0,.slice none 0 0,.map (some (B))] 95)):=by
 have m1:=PairMap.made Tryz.prog 86 w1
 rw [h2] at m1
 have e1:(w1.alloc (.map #[] 0)).heap.size=B+1:=by simp [h2]
 have p1:=Whole.new (w1.alloc (.map #[] 0)) (B+1) 3 ((List.range n).map fun _=>Value.int .i64 0) e1.symm
 have e2:((w1.alloc (.map #[] 0)).alloc (.cells ((List.range n).map fun _=>Value.int .i64 0).toArray 3)).heap.size=B+1+1:=by simp [h2]
 refine ⟨((ht.alloc _).alloc _).alloc _,((hw.alloc _).alloc _).alloc _,Whole.new _ _ _ [_,_,_,_,_,_] e2.symm,by rw [<- zeros_ins];exact p1.alloc _,(m1.kept (World.grownBy_alloc _ _ none) (by simp)).kept (World.grownBy_alloc _ _ none) (by simp),World.ownsRow_nil _ _ _ _,Heads.nil_,((hb.alloc (by omega) _).alloc (by rw [e1];omega) _).alloc (by rw [e2];omega) _,by omega, ?_,fun g hg=>by cases hg⟩
 have:(((w1.alloc (.map #[] 0)).alloc (.cells ((List.range n).map fun _=>Value.int .i64 0).toArray 3)).alloc (.cells #[.slice A n c,.slice (some ⟨B+1,0,none⟩) n n,.slice none 0 0,.int .i64 0,.slice none 0 0,.map (some (B))] 95)).heap.size=B+1+1+1:=by simp [h2]
 omega
end
theorem choices_any (ps:List Pk) (v:Ws) (S:Nat->Prop) (A:Option Addr) (n c:Nat) (A1:Option Addr) (n1 c1:Nat) (A2:Option Addr) (n2 c2:Nat) (A3:Option Addr) (n3 c3:Nat) (A4:Option Addr) (n4 c4:Nat) (w:World) (hT:RTree w S A n ps) (hnc:n<=c) (hc:c<=maxLen)
  (hW:WsAt w S A1 n1 c1 A2 n2 c2 A3 n3 c3 A4 n4 c4 v) (hS:∀ k,S k->k<w.heap.size) (hok:ckWish ps v=0) :
  Calls Tryz.prog 44 #[.agg #[.slice A n c],.agg #[.slice A1 n1 c1,.slice A2 n2 c2,.slice A3 n3 c3,.slice A4 n4 c4]] w (ChoicesP ps v S A n c w):=by
 have hmm:=@run_makeMap Tryz.prog
 have HCC:=qh hc
 unfold maxLen at hc
 have WP:=wish_parts hok
 obtain ⟨h8,h14,hN⟩:=tree_parts WP.tree
 have HWP:=qh WP
 have HT:=qh hT;have HW:=qh hW;have HS:=qh hS
 have HLen:=qh hT.len
 rw [hT.len] at h8
 have HW_:=hW
 have ht0:Whole ((w.alloc (.cells #[.slice A n c] 24)).alloc (.cells #[.slice A1 n1 c1,.slice A2 n2 c2,.slice A3 n3 c3,.slice A4 n4 c4] 30)) w.heap.size 24 [.slice A n c]:=(Whole.new w _ _ [.slice A n c] rfl).alloc _
 have hw0:Whole ((w.alloc (.cells #[.slice A n c] 24)).alloc (.cells #[.slice A1 n1 c1,.slice A2 n2 c2,.slice A3 n3 c3,.slice A4 n4 c4] 30)) (w.heap.size+1) 30 [.slice A1 n1 c1,.slice A2 n2 c2,.slice A3 n3 c3,.slice A4 n4 c4]:=Whole.new _ _ _ [_,_,_,_] (by simp)
 have hb0:Below w.heap.size w ((w.alloc (.cells #[.slice A n c] 24)).alloc (.cells #[.slice A1 n1 c1,.slice A2 n2 c2,.slice A3 n3 c3,.slice A4 n4 c4] 30)):=((qbr _ w).alloc (qr _) _).alloc (by simp) _
 have hs0:((w.alloc (.cells #[.slice A n c] 24)).alloc (.cells #[.slice A1 n1 c1,.slice A2 n2 c2,.slice A3 n3 c3,.slice A4 n4 c4] 30)).heap.size=w.heap.size+1+1:=by simp
 have hms:=fun wx=>make_intsE n (by omega) wx
 clear hT hW HW_ hS hok WP h14 hN
 go_enter Tryz.func44,Tryz.ntmps44
 go_upto_region 1 with fail
 generalize (w.alloc (.cells #[.slice A n c] 24)).alloc (.cells #[.slice A1 n1 c1,.slice A2 n2 c2,.slice A3 n3 c3,.slice A4 n4 c4] 30)=w0 at ht0 hw0 hb0 hs0 ⊢
 have HB0:Hid (Below w.heap.size w w0.drew):=qh (below_drewN hb0 1);have HS0:Hid (w0.heap.size=w.heap.size+1+1):=qh hs0
 have HT0:Hid (Whole w0.drew w.heap.size 24 [.slice A n c]):=qh ht0;have HW0:Hid (Whole w0.drew (w.heap.size+1) 30 [.slice A1 n1 c1,.slice A2 n2 c2,.slice A3 n3 c3,.slice A4 n4 c4]):=qh hw0
 have t0:=ht0.cell 0
 simp only [qgz] at t0
 have hsz0:w.heap.size<w0.heap.size:=by omega
 clear ht0 hw0 hb0 hs0
 go_cut [5] (fun s5 wx=>∃ b pb mb hi,s5=.pointer (some ⟨b,0,none⟩)/\Hid (Cst w A n c [.slice A1 n1 c1,.slice A2 n2 c2,.slice A3 n3 c3,.slice A4 n4 c4] b pb mb hi 0 (pkIns v.ins n 0) (.slice none 0 0) [] [] wx))
 case first =>
  refine wp_region_held_drew (S:=(fun w'=>w'.cell? ⟨w.heap.size,0,none⟩=some (.slice A n c))) (by kernel_rfl) t0 (fun hHeld=>?_)
  first|(refine tkA (v:=?_) held_at0 ?_ ?_;rotate_left;focus (intro _ h;(try dsimp only at h);go_simp;(try with_reducible rfl);done))|refine tkB held_at0 ?_
  (try simp only [Act.put,qsa,qsz,qss])
  first|(refine tkA (v:=?_) held_at1 ?_ ?_;rotate_left;focus (intro _ h;(try dsimp only at h);go_simp;(try with_reducible rfl);done))|refine tkB held_at1 ?_
  (try simp only [Act.put,qsa,qsz,qss])
  first|(refine tkA (v:=?_) held_at2 ?_ ?_;rotate_left;focus (intro _ h;(try dsimp only at h);go_simp;(try with_reducible rfl);done))|refine tkB held_at2 ?_
  (try simp only [Act.put,qsa,qsz,qss])
  first|(refine tkA (v:=?_) held_at3 ?_ ?_;rotate_left;focus (intro _ h;(try dsimp only at h);go_simp;(try with_reducible rfl);done))|refine tkB held_at3 ?_
  (try simp only [Act.put,qsa,qsz,qss])
  refine wpAnyH_ready (rs:=[4,5]) (by kernel_rfl) (by simp) ?_
  refine AllReadyH.cons held_at4 (fun K hK=>?_) (AllReadyH.cons held_at5 (fun K hK=>?_) AllReadyH.nil)
  ·
   (try simp only [qsa,qsz,qss])
   go_simp
   refine hK.out _ _ (HT0.out.alloc _ |>.cell 0) (fun hHeld=>?_)
   clear hK K
   (try simp only [Act.put,qsa,qsz,qss])
   refine wpAnyH_ready (rs:=[5]) (by kernel_rfl) (by simp) ?_
   refine AllReadyH.cons held_at5 (fun K hK=>?_) AllReadyH.nil
   (try simp only [qsa,qsz,qss])
   go_simp
   refine hK.out _ _ ((HT0.out.alloc _).alloc _ |>.cell 0) (fun hHeld=>?_)
   clear hK K
   (try simp only [Act.put,qsa,qsz,qss])
   first|(refine tkA (v:=?_) held_at6 ?_ ?_;rotate_left;focus (intro _ h;(try dsimp only at h);go_simp;(try with_reducible rfl);done))|refine tkB held_at6 ?_
   (try simp only [Act.put,qsa,qsz,qss])
   refine wpAnyH_ready (rs:=[7]) (by kernel_rfl) (by simp) ?_
   refine AllReadyH.cons held_at7 (fun K hK=>?_) AllReadyH.nil
   (try simp only [qsa,qsz,qss])
   go_simp
   refine hK.out _ _ (((HT0.out.alloc _).alloc _).alloc _ |>.cell 0) (fun hHeld=>?_)
   clear hK K
   (try simp only [Act.put,qsa,qsz,qss])
   first|(refine tkA (v:=?_) held_at8 ?_ ?_;rotate_left;focus (intro _ h;(try dsimp only at h);go_simp;(try with_reducible rfl);done))|refine tkB held_at8 ?_
   (try simp only [Act.put,qsa,qsz,qss])
   refine wpAnyH_done (by kernel_rfl) ?_ _
   go_wp2
   go_meet
   case rel=>exact ⟨_,_,_,_,rfl,qh (Cst.new1 HB0.out rfl HS0.out HT0.out HW0.out)⟩
  ·
   (try simp only [qsa,qsz,qss])
   go_simp
   refine hK.out _ _ (HT0.out.alloc _ |>.cell 0) (fun hHeld=>?_)
   clear hK K
   (try simp only [Act.put,qsa,qsz,qss])
   refine wpAnyH_ready (rs:=[4]) (by kernel_rfl) (by simp) ?_
   refine AllReadyH.cons held_at4 (fun K hK=>?_) AllReadyH.nil
   (try simp only [qsa,qsz,qss])
   go_simp
   refine hK.out _ _ ((HT0.out.alloc _).alloc _ |>.cell 0) (fun hHeld=>?_)
   clear hK K
   (try simp only [Act.put,qsa,qsz,qss])
   first|(refine tkA (v:=?_) held_at6 ?_ ?_;rotate_left;focus (intro _ h;(try dsimp only at h);go_simp;(try with_reducible rfl);done))|refine tkB held_at6 ?_
   (try simp only [Act.put,qsa,qsz,qss])
   refine wpAnyH_ready (rs:=[7]) (by kernel_rfl) (by simp) ?_
   refine AllReadyH.cons held_at7 (fun K hK=>?_) AllReadyH.nil
   (try simp only [qsa,qsz,qss])
   go_simp
   refine hK.out _ _ (((HT0.out.alloc _).alloc _).alloc _ |>.cell 0) (fun hHeld=>?_)
   clear hK K
   (try simp only [Act.put,qsa,qsz,qss])
   first|(refine tkA (v:=?_) held_at8 ?_ ?_;rotate_left;focus (intro _ h;(try dsimp only at h);go_simp;(try with_reducible rfl);done))|refine tkB held_at8 ?_
   (try simp only [Act.put,qsa,qsz,qss])
   refine wpAnyH_done (by kernel_rfl) ?_ _
   go_wp2
   go_meet
   case rel=>exact ⟨_,_,_,_,rfl,qh (Cst.new2 HB0.out rfl HS0.out HT0.out HW0.out)⟩
 case rest =>
  obtain ⟨b,pb,mb,hi,rfl,HC⟩:=hcut
  have i1:=HC.out.wi.cell 1
  simp only [qgz,qgs] at i1
  have hN2:v.ins.length=n2:=HW.out.ins.len
  have HN2:=qh hN2
  clear HB0 HS0 HT0 HW0 t0 hsz0 hms hmm hN2
  go_wp2
  go_loopg [26] n2 (fun g iv wr=>∃ j:Nat,Hid (j+g=n2)/\iv=.int .i64 j/\Hid (Cst w A n c [.slice A1 n1 c1,.slice A2 n2 c2,.slice A3 n3 c3,.slice A4 n4 c4] b pb mb hi j (pkIns v.ins n j) (.slice none 0 0) [] [] wr))
  case atStart=>exact ⟨0,qh (Nat.zero_add _),rfl,HC⟩
  case round =>
   obtain ⟨j,Hj,rfl,HR⟩:=hrel
   clear HC i1
   by_cases hj:j<n2
   ·obtain ⟨b2,o2,m,E,u,d2,rfl,hbS,hm,hud,hd,hon,g0,g1⟩:=(HW.out.ins.under HR.out.bel HS.out).at_ hj
    obtain ⟨hp0,hp1,_⟩:=ckMs_mem HWP.out.ok.ins m (List.mem_of_getElem? hm)
    rw [HLen.out] at hp1
    have hmp:(insP v.ins)[j]? = some m.pl.toNat:=by unfold insP;rw [qgm,hm];rfl
    obtain ⟨pl,on⟩:=m
    dsimp only at hp0 hp1 g0 g1 hmp
    obtain ⟨p,rfl⟩:∃ p:Nat,pl=p:=⟨pl.toNat,by omega⟩
    rw [Int.toNat_natCast] at hmp
    have hst:=pkIns_step (n:=n) HWP.out.ok hmp
    have HST:=qh hst
    have hal:Below wr.heap.size wr (wr.alloc (.cells #[.int .i64 (p:Int),.slice E u d2] 85)):=(qbr _ wr).alloc (qr _) _
    have C1:=qh (HR.out.move hal)
    have C2:=qh (C1.out.tick (j+1) (x:=(j:Int)+1) (by omega))
    have HB1:=qh ((Whole.new wr wr.heap.size 85 [.int .i64 (p:Int),.slice E u d2] rfl).far (p:=⟨b,3,none⟩) (by have:=HR.out.hh;show wr.heap.size≠b;omega) (.int .i64 ((j:Int)+1)))
    have k3:=C1.out.blk.cell 3
    have f3:=C1.out.blk.free 3
    simp only [qgz,qgs] at k3
    have hbl:b<wr.heap.size+1:=by have:=HR.out.hh;omega
    have hbl2:b2<wr.heap.size:=ql (HS.out _ hbS) HR.out.bel.size
    have hj8:j<=100000:=by
     have:∀ k,k<v.ins.length->k<100000:=fun k hk=>by
      have h1:=ordP_len HWP.out.ok
      unfold ordP at h1
      rw [List.length_append] at h1
      have h2:(insP v.ins).length=v.ins.length:=by unfold insP;simp
      have:=HLen.out
      omega
     have:=this j (by rw [HN2.out];exact hj)
     omega
    have q1:=C2.out.blk.cell 1;have q3:=C2.out.blk.cell 3
    have m0:=HB1.out.cell 0
    have fp:=C2.out.pick.free p
    have cp:=C2.out.pcell (p:=p) (by unfold pkIns;simp;omega)
    simp only [qgz,qgs] at q1 q3 m0
    rw [show ((j+1:Nat):Int)=(j:Int)+1 by omega] at q3
    have hpn:(p:Int)<n:=by omega
    have hp0':(0:Int)<=(p:Int):=by omega
    clear hst hal hmp hon hm hp0 hp1 hbS hud hd
    go_wp2
    have hlt2:=C2.out.hh
    generalize (wr.alloc (.cells #[.int .i64 (p:Int),.slice E u d2] 85)).setCell ⟨b,3,none⟩ (.int .i64 ((j:Int)+1))=w2 at C2 HB1 q1 q3 m0 fp cp hlt2 ⊢
    have hb2':b<w2.heap.size:=by omega
    have hpb2:pb<w2.heap.size:=by omega
    have hmb2:=HB1.out.lt
    clear hlt2 k3 f3 C1
    go_region
    have C3:=qh (((C2.out.pset p (-((j:Int)+1))).drew 1))
    clear q1 q3 m0 fp cp hb2' hpb2 hmb2
    go_wp2
    go_roundg (gk - 1)
    case measure=>have:=Hj.out;omega
    case rel=>exact ⟨j+1,qh (by have:=Hj.out;omega),by go_num,qh (by rw [<- HST.out];exact C3.out)⟩
   obtain rfl:n2=j:=by have:=Hj.out;omega
   have hall:=pkIns_all (ps:=ps) HWP.out.ok
   rw [HLen.out,HN2.out] at hall
   have HC2:Hid (Cst w A n c [.slice A1 n1 c1,.slice A2 n2 c2,.slice A3 n3 c3,.slice A4 n4 c4] b pb mb hi (n2+cntF v.ins 0) (pkAll ps v 0) (.slice none 0 0) [] [] wr):=qh (by rw [<- hall];exact HR.out)
   obtain ⟨w3,hw3⟩:∃ x,x=wr:=⟨_,rfl⟩
   rw [<- hw3] at HC2 ⊢
   have k1:=HC2.out.blk.cell 1
   have hbl:=HC2.out.blk.lt
   simp only [qgz,qgs] at k1
   clear HR hall hw3
   go_wp2
   go_loopg [58] n (fun g iv wr=>∃ i:Nat,Hid (i+g=n)/\iv=.int .i64 i/\Hid (Cst w A n c [.slice A1 n1 c1,.slice A2 n2 c2,.slice A3 n3 c3,.slice A4 n4 c4] b pb mb hi (n2+cntF v.ins i) (pkAll ps v i) (.slice none 0 0) [] [] wr))
   case atStart=>exact ⟨0,qh (Nat.zero_add _),rfl,HC2⟩
   case round =>
    obtain ⟨i,Hi,rfl,HR⟩:=hrel
    clear HC2 k1
    by_cases hi':i<n
    ·have hip:i<ps.length:=by rw [HLen.out];exact hi'
     have hpx:=HR.out.pcell (p:=i) (by unfold pkAll;simp;omega)
     rw [pkAll_at hip] at hpx
     have hplt:=HR.out.pick.lt
     have hcb:n2+cntF v.ins i<=n:=by
      have h1:=cntF_all HWP.out.ok
      have h2:=cntF_mono (v:=v) (i:=i) (j:=ps.length) (by omega)
      have:=HLen.out;have:=HN2.out
      omega
     have hi1:(i:Int)<n:=by omega
     have hi0:(0:Int)<=(i:Int):=by omega
     by_cases hcn:(insP v.ins).contains i=true
     ·have hold:=pkAll_old (ps:=ps) hcn
      rw [if_pos hcn] at hpx
      have hnz:=pick_ne (ps:=ps) (v:=v) i
      have hab:=pick_abs (ps:=ps) (v:=v) i
      have hlt:=ixP_lt ((mem_ordP HWP.out.ok).2 hip)
      rw [ordP_len HWP.out.ok,HLen.out] at hlt
      have hcs:=cntF_succ v.ins i
      rw [if_pos hcn,Nat.add_zero] at hcs
      have HN:=qh (And.intro hold hcs)
      obtain ⟨x,hx⟩:∃ x,x=(chW ps v).pick i:=⟨_,rfl⟩
      rw [<- hx] at hpx hnz hab
      have hx0:(x == 0)=false:=by simpa using hnz
      clear hold hnz hab hlt hcs hcn hx
      go_wp2
      go_roundg (gk - 1)
      case measure=>have:=Hi.out;omega
      case rel=>exact ⟨i+1,qh (by have:=Hi.out;omega),by go_num,qh (by rw [HN.out.1,HN.out.2];exact HR.out)⟩
     have hcf:(insP v.ins).contains i=false:=by simpa using hcn
     have hnew:=pkAll_new HWP.out.ok hip hcf
     rw [if_neg hcn] at hpx
     have hcs:=cntF_succ v.ins i
     rw [if_neg hcn] at hcs
     rw [HN2.out] at hnew
     have HN:=qh (And.intro hnew hcs)
     obtain ⟨vr,hvr⟩:∃ x,x=n2+cntF v.ins i:=⟨_,rfl⟩
     rw [<- hvr] at HR hcb
     have C2:=qh (HR.out.tick (vr+1) (x:=(vr:Int)+1) (by omega))
     have k3:=HR.out.blk.cell 3
     have f3:=HR.out.blk.free 3
     simp only [qgz,qgs] at k3
     have hbl:=HR.out.blk.lt
     have q1:=C2.out.blk.cell 1;have q3:=C2.out.blk.cell 3
     have fp:=C2.out.pick.free i
     have cp:=C2.out.pcell (p:=i) (by unfold pkAll;simp;omega)
     have hlt2:=C2.out.hh
     simp only [qgz,qgs] at q1 q3
     rw [show ((vr+1:Nat):Int)=(vr:Int)+1 by omega] at q3
     have HVR:=qh hvr
     clear hnew hcs hcn hcf hvr
     go_wp2
     generalize wr.setCell ⟨b,3,none⟩ (.int .i64 ((vr:Int)+1))=w2 at C2 q1 q3 fp cp hlt2 ⊢
     have hb2':b<w2.heap.size:=by omega
     have hpb2:pb<w2.heap.size:=by omega
     clear hlt2 k3 f3
     go_region
     have C3:=qh ((C2.out.pset i ((vr:Int)+1)).drew 1)
     clear q1 q3 fp cp hb2' hpb2
     go_wp2
     go_roundg (gk - 1)
     case measure=>have:=Hi.out;omega
     case rel=>exact ⟨i+1,qh (by have:=Hi.out;omega),by go_num,qh (by
      have h:=C3.out
      have e:(pkAll ps v i).set i ((vr:Int)+1)=pkAll ps v (i+1):=by rw [show ((vr:Int)+1)=((n2+cntF v.ins i+1:Nat):Int) by have:=HVR.out;omega];exact HN.out.1
      rw [e] at h
      rw [HN.out.2,<- Nat.add_assoc,<- HVR.out];exact h)⟩
    obtain rfl:n=i:=by have:=Hi.out;omega
    have hca:=cntF_all HWP.out.ok
    rw [HLen.out,HN2.out] at hca
    have HC3:Hid (Cst w A n c [.slice A1 n1 c1,.slice A2 n2 c2,.slice A3 n3 c3,.slice A4 n4 c4] b pb mb hi (n+flagsBef ps 0) (pkAll ps v n) (.slice none 0 0) [] ((List.range 0).map fun (i:Nat)=>(List.range (pkOf ps i).fs.length).map ((chW ps v).on i)) wr):=qh (by
     have h:=HR.out
     rw [hca] at h;exact h)
    obtain ⟨w4,hw4⟩:∃ x,x=wr:=⟨_,rfl⟩
    rw [<- hw4] at HC3 ⊢
    have t0:=HC3.out.t.cell 0
    have htl:=HC3.out.t.lt
    have hmany:n+flagsBef ps n<=14:=by
     have h:=(tree_parts HWP.out.tree).2.1
     unfold manyC at h
     rw [HLen.out] at h;exact h
    have HMANY:=qh hmany
    simp only [qgz] at t0
    obtain ⟨i0,hi0,hz0,hz1,hz2⟩:=info_parts int_infoE
    have Hi0:=qh hi0;have Hz0:=qh hz0;have Hz1:=qh hz1;have Hz2:=qh hz2
    obtain ⟨j0,hj0,hy0,hy1,hy2⟩:=info_parts ints_infoE
    have Hj0:=qh hj0;have Hy0:=qh hy0;have Hy1:=qh hy1;have Hy2:=qh hy2
    clear HR hca hw4 hmany hi0 hz0 hz1 hz2 hj0 hy0 hy1 hy2
    go_wp2
    go_loopg [89] n (fun g iv wr=>∃ (i hi:Nat) (oV:Value) (hs:List (Option Addr×Nat×Nat)),Hid (i+g=n)/\iv=.int .i64 i/\Hid (Cst w A n c [.slice A1 n1 c1,.slice A2 n2 c2,.slice A3 n3 c3,.slice A4 n4 c4] b pb mb hi (n+flagsBef ps i) (pkAll ps v n) oV hs ((List.range i).map fun (i:Nat)=>(List.range (pkOf ps i).fs.length).map ((chW ps v).on i)) wr))
    case atStart=>exact ⟨0,hi,_,_,qh (Nat.zero_add _),rfl,HC3⟩
    case round =>
     obtain ⟨g3,rfl⟩:∃ x:Nat,x=gk:=⟨_,rfl⟩
     obtain ⟨i,hi,oV,hs,Hi,rfl,HR⟩:=hrel
     clear HC3 t0 htl
     by_cases hin:i<n
     ·obtain ⟨b2,o2,p,F,fn,fc,kd,pa,pf,pno,G,gq,gd,rfl,hbS2,hp,hP,hcell⟩:=(HT.out.under HR.out.bel HS.out).at_ hin
      have hpk:pkOf ps (i:Int)=p:=pkOf_at hp
      have hfl:p.fs.length=fn:=by have:=hP.fs.row.len;simpa [strs] using this
      obtain ⟨g0,g1,g2,g3,g4,g5,g6,g7,g8,g9,g10,g11,g12,g13⟩:=cb14 hcell (by decide)
      unfold pkRow ndRow at g0 g1 g2 g3 g4 g5 g6 g7 g8 g9 g10 g11 g12 g13
      simp only [qgz,qgs,Nat.add_zero] at g0 g1 g2 g3 g4 g5 g6 g7 g8 g9 g10 g11 g12 g13
      have hal:Below wr.heap.size wr (wr.alloc (.cells #[.string ⟨p.nm.toArray⟩,.int .i64 p.ver,.int .i64 p.slot,.slice F fn fc,.int .i64 kd,.string ⟨pa.nm.toArray⟩,.int .i64 pa.op,.int .i64 pa.ver,.int .i64 pa.slot,.string ⟨pa.fl.toArray⟩,.bool pa.on,.string ⟨pf.toArray⟩,.bool pno,.slice G gq gd] 101)):=(qbr _ wr).alloc (qr _) _
      have C1:=qh ((HR.out.move hal).up HR.out.hh.1 (by simp))
      have HB1:=qh (Whole.new wr wr.heap.size 101 [.string ⟨p.nm.toArray⟩,.int .i64 p.ver,.int .i64 p.slot,.slice F fn fc,.int .i64 kd,.string ⟨pa.nm.toArray⟩,.int .i64 pa.op,.int .i64 pa.ver,.int .i64 pa.slot,.string ⟨pa.fl.toArray⟩,.bool pa.on,.string ⟨pf.toArray⟩,.bool pno,.slice G gq gd] rfl)
      have hbl2:b2<wr.heap.size:=ql (HS.out _ hbS2) HR.out.bel.size
      have p3:=HB1.out.cell 3
      simp only [qgz,qgs] at p3
      have hfb:flagsBef ps i+fn<=flagsBef ps n:=by
       have h:=flagsBef_mono (ps:=ps) (i:=i+1) (j:=n) (by omega)
       simp only [flagsBef] at h
       rw [hpk,hfl] at h;exact h
      have HFB:=qh hfb
      have HPK:=qh (And.intro hpk hfl)
      have hfn14:fn<=14:=by have:=HMANY.out;omega
      clear hcell hp hP hpk hfl hal hbS2 hfb HR
      obtain ⟨w6,hw6⟩:∃ x,x=wr.heap.size:=⟨_,rfl⟩
      have HQ:Hid (w6<(wr.alloc (.cells #[.string ⟨p.nm.toArray⟩,.int .i64 p.ver,.int .i64 p.slot,.slice F fn fc,.int .i64 kd,.string ⟨pa.nm.toArray⟩,.int .i64 pa.op,.int .i64 pa.ver,.int .i64 pa.slot,.string ⟨pa.fl.toArray⟩,.bool pa.on,.string ⟨pf.toArray⟩,.bool pno,.slice G gq gd] 101)).heap.size):=qh (by simp [hw6])
      have HW6:=qh hw6
      rw [<- hw6] at C1
      clear hw6
      go_wp2
      clear g0 g1 g2 g3 g4 g5 g6 g7 g8 g9 g10 g11 g12 g13 p3 hbl2 HB1
      generalize wr.alloc (.cells #[.string ⟨p.nm.toArray⟩,.int .i64 p.ver,.int .i64 p.slot,.slice F fn fc,.int .i64 kd,.string ⟨pa.nm.toArray⟩,.int .i64 pa.op,.int .i64 pa.ver,.int .i64 pa.slot,.string ⟨pa.fl.toArray⟩,.bool pa.on,.string ⟨pf.toArray⟩,.bool pno,.slice G gq gd] 101)=wq at C1 HQ ⊢
      go_loopg [12,97] fn (fun g lv iv wr=>∃ k:Nat,Hid (k+g=fn)/\iv=.int .i64 k/\Hid (Cst w (some ⟨b2,o2,none⟩) n c [.slice A1 n1 c1,.slice A2 n2 c2,.slice A3 n3 c3,.slice A4 n4 c4] b pb mb w6 (n+flagsBef ps i+k) (pkAll ps v n) oV hs ((List.range i).map fun (i:Nat)=>(List.range (pkOf ps i).fs.length).map ((chW ps v).on i)) wr)/\Hid (wr.ownsRow w6 3 1 lv k (((List.range k).map ((chW ps v).on i)).map (.int .i64))))
      case atStart=>exact ⟨0,qh (Nat.zero_add _),rfl,C1,qh (World.ownsRow_nil _ _ _ _)⟩
      case round =>
       obtain ⟨k,Hk,rfl,HR,HO⟩:=hrel
       clear C1
       obtain ⟨lA,lc,rfl,hl1,hl2,hlrow⟩:=own_form HO.out
       by_cases hk:k<fn
       ·have HON:=qh (on_snoc (ps:=ps) (v:=v) (i:=i) (k:=k))
        have hon:(chW ps v).on i k=if v.on.contains ((i:Int),(k:Int))=true then -((ps.length+flagsBef ps i+k:Int)+1) else (ps.length+flagsBef ps i+k:Int)+1:=rfl
        rw [HLen.out] at hon
        have hvr14:n+flagsBef ps i+k<=14:=by have:=HMANY.out;have:=HFB.out;omega
        have h14:=(tree_parts HWP.out.tree).2.1
        have hon8:=ckOn_few h14 (by have:=HLen.out;omega) HWP.out.on
        have hol:v.on.length=n4:=RSeq.len HW.out.on
        have hbel1:=HR.out.bel
        have hcall:=fun (wx:World) (hb:Below w.heap.size w wx)=>containsP_any A4 n4 c4 v.on (i:Int) (k:Int) wx S (RSeq.keep HW.out.on (fun pp hp=>hb.cell (HS.out _ hp)) fun _ _ h=>h) (by omega) (fun k hk=>ql (HS.out k hk) hb.size) (wf_of (by omega) (by omega)) (wf_of (by omega) (by omega)) (fun z hz=>by
         have hz:=ckOn_mem HWP.out.on z hz
         have hf:=fs_few h14 hz.1 hz.2.1
         have:=HLen.out
         exact ⟨wf_of (by omega) (by omega),wf_of (by omega) (by omega)⟩)
        generalize v.on.contains ((i:Int),(k:Int))=ct at hon hcall
        have HCL:=qh hcall
        have HONV:=qh hon
        obtain ⟨vr,hvr⟩:∃ x,x=n+flagsBef ps i+k:=⟨_,rfl⟩
        rw [<- hvr] at HR hvr14
        have HVR:=qh hvr
        have C2:=qh (HR.out.tick (vr+1) (x:=(vr:Int)+1) (by omega))
        have HO2:Hid ((wr.setCell ⟨b,3,none⟩ (.int .i64 ((vr:Int)+1))).ownsRow w6 3 1 (.slice lA k lc) k (((List.range k).map ((chW ps v).on i)).map (.int .i64))):=qh ((Far.set_ (D:=fun i=>i=b) rfl 3 _).own HO.out fun g hg e=>by have:=(HO.out.lt g hg).1;have:=HR.out.hh;omega)
        have k3:=HR.out.blk.cell 3
        have f3:=HR.out.blk.free 3
        have hblt:=HR.out.blk.lt
        simp only [qgz,qgs] at k3
        have k33:=C2.out.blk.cell 3
        have i3:=C2.out.wi.cell 3
        have hblt2:=C2.out.blk.lt
        have hwlt2:=C2.out.wi.lt
        simp only [qgz,qgs] at k33 i3
        rw [show ((vr+1:Nat):Int)=(vr:Int)+1 by omega] at k33
        have hw6s:w6<=wr.heap.size:=HR.out.hh.1
        clear hon h14 hon8 hol hbel1 hcall hvr hlrow hl2
        cases ct
        ·have HX:Hid ((vr:Int)+1=(chW ps v).on i k):=qh (by rw [HONV.out,if_neg (by decide)];have:=HVR.out;omega)
         go_wp2_with (first | (go_at_call 68;refine (HCL.out _ C2.out.bel).mono ?_;rintro e w8 ⟨rfl,hb8⟩;refine Hid.out ?_))
         refine qh ?_
         have C8:=qh (C2.out.move hb8)
         have HO8:=qh ((Far.of_below (fun _=>False) hb8).own HO2.out fun _ _ h=>h)
         have hs8:w6<=w8.heap.size:=C8.out.hh.1
         clear hb8 k3 f3 hblt k33 i3 hblt2 hwlt2 C2 HO2
         go_wp2_with (at_builtin;refine wpList_append_own_at _ rfl _ _ 27 rfl w6 3 i0 (.int .i64 0) 1 8 Tryz.underlying27 Hi0.out Hz0.out Hz1.out Hz2.out rfl (by decide) _ _ _ rfl (HO8.out.alloc _) ⟨w8.heap.size,0,none⟩ 1 1 [.int .i64 ((vr:Int)+1)] rfl rfl ?xa1 ?xa2 ?xa3 ?xa4 ?xa5 ?_)
         try (case xa1=>exact cell_one_new _ _ _)
         try (case xa2=>simp [Value.oneCell'])
         try (case xa3=>unfold maxLen;omega)
         try (case xa4=>omega)
         try (case xa5=>first | omega | (simp;omega))
         intro lv' w9 hown9 hg9 _ hat9
         have C9:=qh (C8.out.far (D:=fun j=>(Value.slice lA k lc).ownBlock=some j) ((Far.of_below _ ((qbr _ w8).alloc (qr _) _)).trans (Far.of_grown hg9 fun i h=>h.symm) fun _ _ h=>h) fun j hj=>(HO8.out.lt j hj).1)
         have HO9:Hid (w9.ownsRow w6 3 1 lv' (k+1) (((List.range (k+1)).map ((chW ps v).on i)).map (.int .i64))):=qh (by rw [HON.out,List.map_append,<- HX.out];simpa using hown9)
         clear hown9 hg9 hat9 C8 HO8
         go_wp2
         go_roundg (gk - 1)
         case measure=>have:=Hk.out;omega
         case rel=>exact ⟨k+1,qh (by have:=Hk.out;omega),by go_num,qh (by have h:=C9.out;rw [HVR.out] at h;exact h),HO9⟩
        have HX:Hid (-((vr:Int)+1)=(chW ps v).on i k):=qh (by rw [HONV.out,if_pos rfl];have:=HVR.out;omega)
        go_wp2_with (first | (go_at_call 68;refine (HCL.out _ C2.out.bel).mono ?_;rintro e w8 ⟨rfl,hb8⟩;refine Hid.out ?_))
        refine qh ?_
        have C8:=qh (C2.out.move hb8)
        have HO8:=qh ((Far.of_below (fun _=>False) hb8).own HO2.out fun _ _ h=>h)
        have hs8:w6<=w8.heap.size:=C8.out.hh.1
        clear hb8 k3 f3 hblt k33 i3 hblt2 hwlt2 C2 HO2
        go_wp2_with (at_builtin;refine wpList_append_own_at _ rfl _ _ 27 rfl w6 3 i0 (.int .i64 0) 1 8 Tryz.underlying27 Hi0.out Hz0.out Hz1.out Hz2.out rfl (by decide) _ _ _ rfl (HO8.out.alloc _) ⟨w8.heap.size,0,none⟩ 1 1 [.int .i64 (-((vr:Int)+1))] rfl rfl ?ya1 ?ya2 ?ya3 ?ya4 ?ya5 ?_)
        try (case ya1=>exact cell_one_new _ _ _)
        try (case ya2=>simp [Value.oneCell'])
        try (case ya3=>unfold maxLen;omega)
        try (case ya4=>omega)
        try (case ya5=>first | omega | (simp;omega))
        intro lv' w9 hown9 hg9 _ hat9
        have C9:=qh (C8.out.far (D:=fun j=>(Value.slice lA k lc).ownBlock=some j) ((Far.of_below _ ((qbr _ w8).alloc (qr _) _)).trans (Far.of_grown hg9 fun i h=>h.symm) fun _ _ h=>h) fun j hj=>(HO8.out.lt j hj).1)
        have HO9:Hid (w9.ownsRow w6 3 1 lv' (k+1) (((List.range (k+1)).map ((chW ps v).on i)).map (.int .i64))):=qh (by rw [HON.out,List.map_append,<- HX.out];simpa using hown9)
        clear hown9 hg9 hat9 C8 HO8
        go_wp2
        go_roundg (gk - 1)
        case measure=>have:=Hk.out;omega
        case rel=>exact ⟨k+1,qh (by have:=Hk.out;omega),by go_num,qh (by have h:=C9.out;rw [HVR.out] at h;exact h),HO9⟩
       obtain rfl:fn=k:=by have:=Hk.out;omega
       obtain ⟨Cx,cx,hcv,hcx1,hcx2,hrow⟩:=own_formK HO.out
       rw [Nat.mul_one] at hrow
       obtain ⟨rfl,rfl⟩:lA=Cx/\lc=cx:=by injection hcv with h1 h2 h3;exact ⟨h1,h3⟩
       have hown:=HR.out.own
       simp only [List.length_map,List.length_range] at hown
       obtain ⟨oA,oc,rfl,ho1,ho2,horow⟩:=own_form hown
       have HOO:=qh hown
       have HROW:=qh hrow
       have hi14:i<=8:=by omega
       have k2:=HR.out.blk.cell 2
       have hblt:=HR.out.blk.lt
       simp only [qgz,qgs] at k2
       have hbel1:=HR.out.bel.size
       have HCP:Hid (fn<=lc/\lc<=maxLen):=qh ⟨hl1,hl2⟩
       clear hcv hcx1 hcx2 hrow hown ho2 horow hlrow hl2
       go_wp2_with (at_builtin;refine wpList_append_own_at _ rfl _ _ 92 rfl w.heap.size 27 j0 (.slice none 0 0) 1 24 Tryz.underlying92 Hj0.out Hy0.out Hy1.out Hy2.out rfl (by decide) _ _ _ rfl (HOO.out.alloc _) ⟨wr.heap.size,0,none⟩ 1 1 [.slice lA fn lc] rfl rfl ?za1 ?za2 ?za3 ?za4 ?za5 ?_)
       try (case za1=>exact cell_one_new _ _ _)
       try (case za2=>simp [Value.oneCell'])
       try (case za3=>unfold maxLen;omega)
       try (case za4=>omega)
       try (case za5=>first | omega | (simp;omega))
       intro oV' w9 hown9 hg9 _ hat9
       obtain ⟨A6,c6,rfl,_,_,_⟩:=own_form hown9
       have HB9:=qh ((HR.out.blk.alloc (.cells #[.slice lA fn lc] 27)).grown hg9 fun e=>HR.out.nes.2.2.2.1 e.symm)
       have C10:=qh (Cst.row HR.out HROW.out HCP.out (fun j hj=>HO.out.lt j hj) (by simpa using hown9) hg9 (by simpa using hat9))
       have k22:=HB9.out.cell 2
       have f22:=HB9.out.free 2
       have hb9:=HB9.out.lt
       simp only [qgz,qgs] at k22
       have HNX:Hid (n+flagsBef ps i+fn=n+flagsBef ps (i+1)):=qh (by simp only [flagsBef];rw [HPK.out.1,HPK.out.2];omega)
       have HONS:=qh (ons_snoc (ps:=ps) (v:=v) (i:=i))
       clear hown9 hg9 hat9 k2 hblt HB9
       go_wp2
       go_roundg (g3 - 1)
       case measure=>have:=Hi.out;omega
       case rel=>exact ⟨i+1,_,_,_,qh (by have:=Hi.out;omega),by go_num,qh (by
        rw [<- HNX.out,HONS.out]
        have h:=C10.out
        rw [show (List.range (pkOf ps (i:Int)).fs.length)=List.range fn by rw [HPK.out.1,HPK.out.2]]
        exact h)⟩
     obtain rfl:n=i:=by have:=Hi.out;omega
     have hnm:n<=maxLen:=by unfold maxLen;omega
     have HF:=qh (Cst.desk HR.out HT.out hnc HCC.out hnm HS.out)
     go_wp2
     go_ret
     exact HF.out
end
section
open Go.RowKit Qm
section
variable {X : Chs} {ps : List Pk} {d : Dk}
theorem addD_in (h:DIn X ps d) (c:List Int):DIn X ps (addD d c):=h.up (Nat.le_refl _) rfl
theorem masksD_in:∀ (ms:List Int) (d:Dk),DIn X ps d->DIn X ps (masksD X ms d)
 | [],d,h=>h
 | k :: r,d,h=>by rw [masksD];exact masksD_in r _ (addD_in h _)
theorem confTo_in (h:DIn X ps d) (i:Nat):∀ k,DIn X ps (confTo X ps i d k)
 | 0=>h
 | k+1=>by
  rw [confTo]
  split
  ·exact addD_in (confTo_in h i k) _
  exact confTo_in h i k
theorem pkD_in (h:DIn X ps d) {i:Nat} (hi:i<ps.length):DIn X ps (pkD X ps i d):=addD_in (needD_in hi _ _ (confTo_in h i i)).1 _
theorem pksD_in (h:DIn X ps d):∀ j,j<=ps.length->DIn X ps (pksD X ps d j)
 | 0,_=>h
 | j+1,hj=>pkD_in (pksD_in h j (by omega)) (by omega)
theorem tgtsD_in:∀ (ts:List At) (d:Dk),DIn X ps d->DIn X ps (tgtsD X ps ts d)
 | [],d,h=>h
 | a :: r,d,h=>by rw [tgtsD];exact tgtsD_in r _ (addD_in (meansTo_in h a (-1) ps.length (Nat.le_refl _)).1 _)
theorem masksD_snoc:∀ (ms:List Int) (d:Dk) (k:Int),masksD X (ms++[k]) d=addD (masksD X ms d) [-X.pick k.toNat]
 | [],d,k=>rfl
 | x :: r,d,k=>by rw [List.cons_append,masksD,masksD_snoc r,masksD]
theorem masksD_take {ms:List Int} {j:Nat} {k:Int} (h:ms[j]? = some k):masksD X (ms.take (j+1)) d=addD (masksD X (ms.take j) d) [-X.pick k.toNat]:=by
 obtain ⟨hj,rfl⟩:=List.getElem?_eq_some_iff.1 h
 rw [List.take_succ_eq_append_getElem hj,masksD_snoc]
theorem masksD_pre {ms:List Int} (j:Nat):DLe (masksD X (ms.take j) d) (masksD X ms d):=by
 have:∀ (a b:List Int) (d:Dk),masksD X (a++b) d=masksD X b (masksD X a d):=by
  intro a
  induction a with
  | nil=>intro b d;rfl
  | cons x r ih=>intro b d;rw [List.cons_append,masksD,ih,masksD]
 have h:=masksD_le X (ms.drop j) (masksD X (ms.take j) d)
 rwa [<- this,List.take_append_drop] at h
theorem tgtsD_app:∀ (a b:List At) (d:Dk),tgtsD X ps (a++b) d=tgtsD X ps b (tgtsD X ps a d)
 | [],b,d=>rfl
 | x :: r,b,d=>by rw [List.cons_append,tgtsD,tgtsD_app r,tgtsD]
theorem tgtsD_take {ts:List At} {j:Nat} {a:At} (h:ts[j]? = some a):tgtsD X ps (ts.take (j+1)) d=addD (meansD X ps a (-1) (tgtsD X ps (ts.take j) d)).1 (meansD X ps a (-1) (tgtsD X ps (ts.take j) d)).2:=by
 obtain ⟨hj,rfl⟩:=List.getElem?_eq_some_iff.1 h
 rw [List.take_succ_eq_append_getElem hj,tgtsD_app];rfl
theorem tgtsD_pre {ts:List At} (j:Nat):DLe (tgtsD X ps (ts.take j) d) (tgtsD X ps ts d):=by
 have h:=tgtsD_le X ps (ts.drop j) (tgtsD X ps (ts.take j) d)
 rwa [<- tgtsD_app,List.take_append_drop] at h
theorem pksD_pre {j n:Nat} (h:j<=n):DLe (pksD X ps d j) (pksD X ps d n):=by
 have:=pksD_le X ps d j (n - j)
 rwa [show j+(n - j)=n by omega] at this
theorem confTo_pre {i j n:Nat} (h:j<=n):DLe (confTo X ps i d j) (confTo X ps i d n):=by
 have:=confTo_le X ps i d j (n - j)
 rwa [show j+(n - j)=n by omega] at this
end
theorem DIn.start {ps:List Pk} {v:Ws} (h:WsOk ps v):DIn (chW ps v) ps ⟨manyC ps,[],fun _ _=>0⟩:=
 ⟨fun i hi=>((chW_ok h).pick i hi).2,fun i k hi hk=>((chW_ok h).on i hi k hk).2,fun _ _=>Nat.zero_le _⟩
end
section
open Go.RowKit Qm
theorem cset_any (ps:List Pk) (l:List Mem) (S:Nat->Prop) (A B:Option Addr) (n c k d:Nat) (w:World) (hT:RTree w S A n ps) (hnc:n<=c) (hc:c<=maxLen) (hL:RSet w S B k l) (hk:k<=maxLen) (hS:∀ k,S k->k<w.heap.size) :
  Calls Tryz.prog 56 #[.agg #[.slice A n c],.slice B k d] w fun e w'=>e=.returned (.int .i64 (ckSet ps l))/\Below w.heap.size w w':=by
 have Hpl:=qh hT.len
 have Hll:=qh hL.len
 have X0:=qh (Tx.new w A n c)
 have HT:=qh hT;have HS:=qh hS;have HL:=qh hL;clear hT hS hL
 have Hck:=qh (tCheck_any ps S A n c _ (HT.out.under X0.out.below HS.out) hnc hc (fun k hk=>ql (HS.out k hk) X0.out.below.size))
 have HK:Hid (ckSet ps l=if ckTree ps≠0 then ckTree ps else ckMs ps none l):=qh rfl
 generalize ckSet ps l=R at HK ⊢
 generalize hz:ckTree ps=z at Hck HK
 have HZ:=qh hz;clear hz
 unfold maxLen at hc hk
 by_cases z0:z=0
 ·subst z0
  have HK1:Hid (R=ckMs ps none l):=qh (by rw [HK.out,if_neg (by simp)])
  have hn8:n<=8:=by rw [<- Hpl.out];exact ckTree_len HZ.out
  clear HK
  go_enter Tryz.func56,Tryz.ntmps56
  go_wp2_with (first | (go_at_call 83;refine Hck.out.mono ?_;rintro e w2 ⟨rfl,hb2⟩;refine Hid.out ?_))
  refine qh ?_
  have X2:=qh (X0.out.move hb2)
  clear hb2 X0 Hck
  go_wp2
  go_loopg [15] k (fun g iv wr=>∃ j:Nat,Hid (j+g=k)/\iv=.int .i64 j/\Hid (ckMs ps none l=ckMs ps (prevOf (l.map Mem.pl) j) (l.drop j))/\Hid (Tx w A n c wr))
  case atStart=>exact ⟨0,qh (Nat.zero_add _),rfl,qh rfl,X2⟩
  case round =>
   obtain ⟨j,Hj,rfl,Hcl,XR⟩:=hrel
   clear X2
   by_cases hj:j<k
   ·obtain ⟨b,o,m,E,q,r,rfl,hbS,hm,hqr,hr,hon,g0,g1⟩:=(HL.out.under XR.out.below HS.out).at_ hj
    have Hst:=qh (ckMs_step (ps:=ps) hm)
    have HMj:Hid (∀ i:Nat,j=i+1->∃ m',l[i]? = some m'):=qh fun i hi=>⟨_,qge (by have:=Hll.out;omega)⟩
    have Hol:=qh hon.len
    have hbl:b<wr.heap.size:=ql (HS.out _ hbS) XR.out.below.size
    have X3:=qh (XR.out.move ((qbr _ wr).alloc (qr _) (.cells #[.int .i64 m.pl,.slice E q r] 85)))
    obtain ⟨pl,on⟩:=m
    dsimp only at g0 g1 Hst Hol X3
    clear hm hon
    have t0:=XR.out.whole.cell 0
    simp only [qgz] at t0
    have tlt:=XR.out.whole.lt
    by_cases hneg:pl<0
    ·have HE:Hid (ckMs ps (prevOf (l.map Mem.pl) j) (l.drop j)=5):=qh (by rw [Hst.out,if_pos (.inl hneg)])
     have hneg':decide (pl<0)=true:=qdt hneg
     go_wp2
     go_ret
     exact ⟨ret_int (by rw [HK1.out,Hcl.out,HE.out]),X3.out.below⟩
    have hneg':decide (pl<0)=false:=qdf hneg
    by_cases hpn:(n:Int)<=pl
    ·
     have HE:Hid (ckMs ps (prevOf (l.map Mem.pl) j) (l.drop j)=5):=qh (by rw [Hst.out,if_pos (.inr (by rw [Hpl.out];exact hpn))])
     have hpn':decide ((n:Int)<=pl)=true:=qdt hpn
     go_wp2
     go_ret
     exact ⟨ret_int (by rw [HK1.out,Hcl.out,HE.out]),X3.out.below⟩
    obtain ⟨y,rfl⟩:∃ y:Nat,pl=y:=⟨pl.toNat,by omega⟩
    have hyn:y<n:=by omega
    obtain ⟨b2,o2,p,D,fn,fc,kd,pa,f,no,F,fq,fd,rfl,hbS2,hp,hP,hcell⟩:=(HT.out.under XR.out.below HS.out).at_ hyn
    have h3:=hcell 3 (by omega)
    unfold pkRow ndRow at h3
    simp only [qgz,qgs] at h3
    have Hfl:Hid ((pkOf ps (y:Int)).fs.length=fn):=qh (by unfold pkOf;rw [Int.toNat_natCast,qgd,hp];exact hP.fs.len)
    have hbl2:b2<wr.heap.size:=ql (HS.out _ hbS2) XR.out.below.size
    clear hcell hp hP
    have HSt2:Hid (ckMs ps (prevOf (l.map Mem.pl) j) (l.drop j)=if badPl (prevOf (l.map Mem.pl) j) (y:Int)=true then 6 else if q≠fn then 4 else ckMs ps (prevOf (l.map Mem.pl) (j+1)) (l.drop (j+1))):=qh (by
     rw [Hst.out,if_neg (by have:=Hpl.out;omega),Hfl.out,Hol.out])
    clear Hst
    have hy0:(0:Int)<=(y:Int):=by omega
    have hy1:(y:Int)<n:=by omega
    rcases j with _ | i
    ·have HX:Hid (ckMs ps (prevOf (l.map Mem.pl) 0) (l.drop 0)=if q≠fn then 4 else ckMs ps (prevOf (l.map Mem.pl) (0+1)) (l.drop (0+1))):=qh (by rw [HSt2.out,if_neg (by rw [prevOf_zero];simp [badPl])])
     simp only [Nat.zero_mul,Nat.add_zero] at g0 g1
     by_cases hq:q=fn
     ·have HE:Hid (ckMs ps (prevOf (l.map Mem.pl) 0) (l.drop 0)=ckMs ps (prevOf (l.map Mem.pl) (0+1)) (l.drop (0+1))):=qh (by rw [HX.out,if_neg (by simpa using hq)])
      subst hq
      go_wp2
      go_quiet (fail)
      go_wp2
      go_quiet (fail)
      go_wp2
      go_roundg (gk - 1)
      case measure=>have:=Hj.out;omega
      case rel=>exact ⟨0+1,qh (by have:=Hj.out;omega),by go_num,qh (by rw [Hcl.out,HE.out]),qh (by first | exact X3.out.drew _ | exact (X3.out.drew _).drew _)⟩
     have HE:Hid (ckMs ps (prevOf (l.map Mem.pl) 0) (l.drop 0)=4):=qh (by rw [HX.out,if_pos hq])
     have hq':((q:Int) != (fn:Int))=true:=by simp;omega
     go_wp2
     go_quiet (fail)
     go_wp2
     go_quiet (fail)
     go_wp2
     go_ret
     exact ⟨ret_int (by rw [HK1.out,Hcl.out,HE.out]),by first | exact below_drewN X3.out.below _ | exact below_drewN (below_drewN X3.out.below _) _⟩
    obtain ⟨b',o',m',E',q',r',e,_,hm',_,_,_,k0,_⟩:=(HL.out.under XR.out.below HS.out).at_ (j:=i) (by omega)
    injection e with e;injection e with e1 e2;subst e1 e2
    have Hpr:Hid (prevOf (l.map Mem.pl) (i+1)=some m'.pl):=qh (prevOf_succ (by rw [qgm,hm'];rfl))
    have HSt3:Hid (ckMs ps (prevOf (l.map Mem.pl) (i+1)) (l.drop (i+1))=if badPl (some m'.pl) (y:Int)=true then 6 else if q≠fn then 4 else ckMs ps (prevOf (l.map Mem.pl) (i+1+1)) (l.drop (i+1+1))):=qh (by rw [HSt2.out,Hpr.out])
    clear hm' HSt2
    generalize m'.pl=pp at k0 HSt3
    have hwr:IntKind.i64.wrap ((i:Int)+1 - 1)=(i:Int):=by rw [IntKind.wrap_i64];omega
    have hwr0:IntKind.i64.wrap (i:Int)=(i:Int):=by rw [IntKind.wrap_i64];omega
    have hin:i<k:=by omega
    have hin2:(i:Int)<k:=by omega
    have hin3:(0:Int)<(i:Int)+1:=by omega
    by_cases hb:(y:Int)<=pp
    ·have HE:Hid (ckMs ps (prevOf (l.map Mem.pl) (i+1)) (l.drop (i+1))=6):=qh (by rw [HSt3.out,if_pos (by simpa [badPl] using hb)])
     have hb':decide ((y:Int)<=pp)=true:=qdt hb
     go_wp2
     go_quiet (fail)
     go_wp2
     go_ret
     exact ⟨ret_int (by rw [HK1.out,Hcl.out,HE.out]),below_drewN X3.out.below _⟩
    have HX:Hid (ckMs ps (prevOf (l.map Mem.pl) (i+1)) (l.drop (i+1))=if q≠fn then 4 else ckMs ps (prevOf (l.map Mem.pl) (i+1+1)) (l.drop (i+1+1))):=qh (by rw [HSt3.out,if_neg (by simpa [badPl] using hb)])
    have hb':decide ((y:Int)<=pp)=false:=qdf hb
    by_cases hq:q=fn
    ·have HE:Hid (ckMs ps (prevOf (l.map Mem.pl) (i+1)) (l.drop (i+1))=ckMs ps (prevOf (l.map Mem.pl) ((i+1)+1)) (l.drop ((i+1)+1))):=qh (by rw [HX.out,if_neg (by simpa using hq)])
     subst hq
     go_wp2
     go_quiet (fail)
     go_wp2
     go_quiet (fail)
     go_wp2
     go_roundg (gk - 1)
     case measure=>have:=Hj.out;omega
     case rel=>exact ⟨(i+1)+1,qh (by have:=Hj.out;omega),by go_num,qh (by rw [Hcl.out,HE.out]),qh (by first | exact X3.out.drew _ | exact (X3.out.drew _).drew _)⟩
    have HE:Hid (ckMs ps (prevOf (l.map Mem.pl) (i+1)) (l.drop (i+1))=4):=qh (by rw [HX.out,if_pos hq])
    have hq':((q:Int) != (fn:Int))=true:=by simp;omega
    go_wp2
    go_quiet (fail)
    go_wp2
    go_quiet (fail)
    go_wp2
    go_ret
    exact ⟨ret_int (by rw [HK1.out,Hcl.out,HE.out]),by first | exact below_drewN X3.out.below _ | exact below_drewN (below_drewN X3.out.below _) _⟩
   obtain rfl:k=j:=by have:=Hj.out;omega
   go_wp2
   go_ret
   exact ⟨ret_int (by rw [HK1.out,Hcl.out,ckMs_done (by have:=Hll.out;omega)]),XR.out.below⟩
 have z1:(z != 0)=true:=by simpa using z0
 go_enter Tryz.func56,Tryz.ntmps56
 go_wp2_with (first | (go_at_call 83;refine Hck.out.mono ?_;rintro e w2 ⟨rfl,hb2⟩;refine Hid.out ?_))
 refine qh ?_
 have X2:=qh (X0.out.move hb2)
 clear hb2 X0 Hck
 go_wp2
 go_ret
 exact ⟨ret_int (by rw [HK.out,if_pos z0]),X2.out.below⟩
end
end Go.Proofs.YtedbhlgjcnnknaaGreatDoor
