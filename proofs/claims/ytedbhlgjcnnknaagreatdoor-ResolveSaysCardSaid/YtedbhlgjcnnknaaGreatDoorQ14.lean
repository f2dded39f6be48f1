/- Parts. -/
import Derived.Test.YtedbhlgjcnnknaaGreatDoorQ13
set_option linter.unusedVariables false
set_option linter.unusedSimpArgs false
set_option linter.unusedSectionVars false
set_option maxRecDepth 100000
set_option maxHeartbeats 12800000
namespace Go.Proofs.YtedbhlgjcnnknaaGreatDoor
section
theorem held_at0 {o0:Oper} {r:List Oper}:(List.toArray (o0 :: r))[0]? = some o0:=rfl
theorem held_at1 {o0 o1:Oper} {r:List Oper}:(List.toArray (o0 :: o1 :: r))[1]? = some o1:=rfl
theorem held_at2 {o0 o1 o2:Oper} {r:List Oper}:(List.toArray (o0 :: o1 :: o2 :: r))[2]? = some o2:=rfl
theorem held_at3 {o0 o1 o2 o3:Oper} {r:List Oper}:(List.toArray (o0 :: o1 :: o2 :: o3 :: r))[3]? = some o3:=rfl
theorem held_at4 {o0 o1 o2 o3 o4:Oper} {r:List Oper}:(List.toArray (o0 :: o1 :: o2 :: o3 :: o4 :: r))[4]? = some o4:=rfl
theorem held_at5 {o0 o1 o2 o3 o4 o5:Oper} {r:List Oper}:(List.toArray (o0 :: o1 :: o2 :: o3 :: o4 :: o5 :: r))[5]? = some o5:=rfl
theorem held_at6 {o0 o1 o2 o3 o4 o5 o6:Oper} {r:List Oper}:(List.toArray (o0 :: o1 :: o2 :: o3 :: o4 :: o5 :: o6 :: r))[6]? = some o6:=rfl
theorem held_at7 {o0 o1 o2 o3 o4 o5 o6 o7:Oper} {r:List Oper}:(List.toArray (o0 :: o1 :: o2 :: o3 :: o4 :: o5 :: o6 :: o7 :: r))[7]? = some o7:=rfl
theorem held_at8 {o0 o1 o2 o3 o4 o5 o6 o7 o8:Oper} {r:List Oper}:(List.toArray (o0 :: o1 :: o2 :: o3 :: o4 :: o5 :: o6 :: o7 :: o8 :: r))[8]? = some o8:=rfl
theorem held_at9 {o0 o1 o2 o3 o4 o5 o6 o7 o8 o9:Oper} {r:List Oper}:(List.toArray (o0 :: o1 :: o2 :: o3 :: o4 :: o5 :: o6 :: o7 :: o8 :: o9 :: r))[9]? = some o9:=rfl
theorem held_at10 {o0 o1 o2 o3 o4 o5 o6 o7 o8 o9 o10:Oper} {r:List Oper}:(List.toArray (o0 :: o1 :: o2 :: o3 :: o4 :: o5 :: o6 :: o7 :: o8 :: o9 :: o10 :: r))[10]? = some o10:=rfl
theorem held_at11 {o0 o1 o2 o3 o4 o5 o6 o7 o8 o9 o10 o11:Oper} {r:List Oper}:(List.toArray (o0 :: o1 :: o2 :: o3 :: o4 :: o5 :: o6 :: o7 :: o8 :: o9 :: o10 :: o11 :: r))[11]? = some o11:=rfl
theorem held_at12 {o0 o1 o2 o3 o4 o5 o6 o7 o8 o9 o10 o11 o12:Oper} {r:List Oper}:(List.toArray (o0 :: o1 :: o2 :: o3 :: o4 :: o5 :: o6 :: o7 :: o8 :: o9 :: o10 :: o11 :: o12 :: r))[12]? = some o12:=rfl
theorem held_at13 {o0 o1 o2 o3 o4 o5 o6 o7 o8 o9 o10 o11 o12 o13:Oper} {r:List Oper}:(List.toArray (o0 :: o1 :: o2 :: o3 :: o4 :: o5 :: o6 :: o7 :: o8 :: o9 :: o10 :: o11 :: o12 :: o13 :: r))[13]? = some o13:=rfl
theorem held_at14 {o0 o1 o2 o3 o4 o5 o6 o7 o8 o9 o10 o11 o12 o13 o14:Oper} {r:List Oper}:(List.toArray (o0 :: o1 :: o2 :: o3 :: o4 :: o5 :: o6 :: o7 :: o8 :: o9 :: o10 :: o11 :: o12 :: o13 :: o14 :: r))[14]? = some o14:=rfl
theorem held_at15 {o0 o1 o2 o3 o4 o5 o6 o7 o8 o9 o10 o11 o12 o13 o14 o15:Oper} {r:List Oper}:(List.toArray (o0 :: o1 :: o2 :: o3 :: o4 :: o5 :: o6 :: o7 :: o8 :: o9 :: o10 :: o11 :: o12 :: o13 :: o14 :: o15 :: r))[15]? = some o15:=rfl
theorem held_at16 {o0 o1 o2 o3 o4 o5 o6 o7 o8 o9 o10 o11 o12 o13 o14 o15 o16:Oper} {r:List Oper}:(List.toArray (o0 :: o1 :: o2 :: o3 :: o4 :: o5 :: o6 :: o7 :: o8 :: o9 :: o10 :: o11 :: o12 :: o13 :: o14 :: o15 :: o16 :: r))[16]? = some o16:=rfl
theorem held_at17 {o0 o1 o2 o3 o4 o5 o6 o7 o8 o9 o10 o11 o12 o13 o14 o15 o16 o17:Oper} {r:List Oper}:(List.toArray (o0 :: o1 :: o2 :: o3 :: o4 :: o5 :: o6 :: o7 :: o8 :: o9 :: o10 :: o11 :: o12 :: o13 :: o14 :: o15 :: o16 :: o17 :: r))[17]? = some o17:=rfl
theorem held_at18 {o0 o1 o2 o3 o4 o5 o6 o7 o8 o9 o10 o11 o12 o13 o14 o15 o16 o17 o18:Oper} {r:List Oper}:(List.toArray (o0 :: o1 :: o2 :: o3 :: o4 :: o5 :: o6 :: o7 :: o8 :: o9 :: o10 :: o11 :: o12 :: o13 :: o14 :: o15 :: o16 :: o17 :: o18 :: r))[18]? = some o18:=rfl
theorem held_at19 {o0 o1 o2 o3 o4 o5 o6 o7 o8 o9 o10 o11 o12 o13 o14 o15 o16 o17 o18 o19:Oper} {r:List Oper}:(List.toArray (o0 :: o1 :: o2 :: o3 :: o4 :: o5 :: o6 :: o7 :: o8 :: o9 :: o10 :: o11 :: o12 :: o13 :: o14 :: o15 :: o16 :: o17 :: o18 :: o19 :: r))[19]? = some o19:=rfl
theorem held_at20 {o0 o1 o2 o3 o4 o5 o6 o7 o8 o9 o10 o11 o12 o13 o14 o15 o16 o17 o18 o19 o20:Oper} {r:List Oper}:(List.toArray (o0 :: o1 :: o2 :: o3 :: o4 :: o5 :: o6 :: o7 :: o8 :: o9 :: o10 :: o11 :: o12 :: o13 :: o14 :: o15 :: o16 :: o17 :: o18 :: o19 :: o20 :: r))[20]? = some o20:=rfl
theorem held_at21 {o0 o1 o2 o3 o4 o5 o6 o7 o8 o9 o10 o11 o12 o13 o14 o15 o16 o17 o18 o19 o20 o21:Oper} {r:List Oper}:(List.toArray (o0 :: o1 :: o2 :: o3 :: o4 :: o5 :: o6 :: o7 :: o8 :: o9 :: o10 :: o11 :: o12 :: o13 :: o14 :: o15 :: o16 :: o17 :: o18 :: o19 :: o20 :: o21 :: r))[21]? = some o21:=rfl
section
variable {P : Program} {ops : Array Oper} {Q : Exit → Act → World → Prop} {md : Region.Mode} {S : World → Prop} {i : Nat} {oi : Oper} {v : Value} {fuel : Nat} {listed : Array Bool} {a : Act} {w : World}
theorem tkA (hi:ops[i]? = some oi) (hy:∀ w,S w->(execOp a.eval oi).run P w=.ok (.value v) w) (h:wpAnyH P md ops Q S fuel (listed.setIfInBounds i true) (a.put oi.dst v) w)
  (hs:Region.noSelect ops=true:=by kernel_rfl) (hf:Region.free md ops listed i=true:=by kernel_rfl) (hr:(Region.ready md ops listed).contains i=true:=by kernel_rfl) (hQ:∀ c a w,Q (.panic c) (a.put oi.dst v) w->Q (.panic c) a w:=by exact fun _ _ _ h=>h)
  (hw:Region.wanted oi (yielded ops a.tmps)=true:=by rfl) (hS:S w:=by assumption):wpAnyH P md ops Q S (fuel+1) listed a w:=wpAnyH_take hi hs hf hr hQ (Or.inl ⟨hw,hy⟩) hS h
theorem tkB (hi:ops[i]? = some oi) (h:wpAnyH P md ops Q S fuel (listed.setIfInBounds i true) (a.put oi.dst undef) w)
  (hs:Region.noSelect ops=true:=by kernel_rfl) (hf:Region.free md ops listed i=true:=by kernel_rfl) (hr:(Region.ready md ops listed).contains i=true:=by kernel_rfl) (hQ:∀ c a w,Q (.panic c) (a.put oi.dst undef) w->Q (.panic c) a w:=by exact fun _ _ _ h=>h)
  (hw:Region.wanted oi (yielded ops a.tmps)=false:=by rfl) (hS:S w:=by assumption):wpAnyH P md ops Q S (fuel+1) listed a w:=wpAnyH_take hi hs hf hr hQ (Or.inr ⟨hw,rfl⟩) hS h
end
end
section
open Go.RowKit Qm
structure Tx (w:World) (A:Option Addr) (n c:Nat) (wr:World):Prop where
 below:Below w.heap.size w wr
 whole:Whole wr w.heap.size 24 [.slice A n c]
theorem Tx.move {w:World} {A:Option Addr} {n c:Nat} {w1 w2:World} (h:Tx w A n c w1) (hb:Below w1.heap.size w1 w2):Tx w A n c w2:=⟨h.below.trans (hb.mono h.below.size),h.whole.below hb h.whole.lt⟩
theorem Tx.new (w:World) (A:Option Addr) (n c:Nat):Tx w A n c (w.alloc (.cells #[.slice A n c] 24)):=⟨(qbr _ w).alloc (qr _) _,Whole.new w _ _ [.slice A n c] rfl⟩
theorem Pb.drew {w:World} {b:Nat} {vs:List Value} {w1:World} (h:Pb w b vs w1) (k:Nat):Pb w b vs (w1.drewN k):=⟨below_drewN h.below k,h.whole⟩
theorem Tx.drew {w:World} {A:Option Addr} {n c:Nat} {w1:World} (h:Tx w A n c w1) (k:Nat):Tx w A n c (w1.drewN k):=⟨below_drewN h.below k,h.whole⟩
theorem tCheck_any (ps:List Pk) (S:Nat->Prop) (A:Option Addr) (n c:Nat) (w:World) (hT:RTree w S A n ps) (hnc:n<=c) (hc:c<=maxLen) (hS:∀ k,S k->k<w.heap.size) :
  Calls Tryz.prog 83 #[.agg #[.slice A n c]] w fun e w'=>e=.returned (.int .i64 (ckTree ps))/\Below w.heap.size w w':=by
 have hl:=hT.len
 have HK:Hid (ckTree ps=if 8<ps.length then 2 else ckT none ps.length ps):=qh rfl
 generalize ckTree ps=R at HK ⊢
 have HT:=qh hT;have HS:=qh hS;clear hT hS
 have X0:=qh (Tx.new w A n c)
 unfold maxLen at hc
 by_cases n8:(8:Int)<n
 ·
  go_enter Tryz.func83,Tryz.ntmps83
  go_wp2
  go_ret
  exact ⟨ret_int (by rw [HK.out,if_pos (by omega)]),X0.out.below⟩
 have n8':decide ((8:Int)<n)=false:=qdf n8
 have HK1:Hid (R=ckT none n ps):=qh (by rw [HK.out,if_neg (by omega),hl])
 clear HK
 go_enter Tryz.func83,Tryz.ntmps83
 go_wp2
 go_loopg [3,17] n (fun g sv iv wr=>∃ (j m:Nat),Hid (j+g=n)/\iv=.int .i64 j/\sv=.int .i64 m/\m<=14/\Hid (ckT none n ps=ckT (prevOf ps j) m (ps.drop j))/\Hid (Tx w A n c wr))
 case atStart=>exact ⟨0,n,qh (Nat.zero_add _),rfl,rfl,by omega,qh rfl,X0⟩
 case round =>
  obtain ⟨j,m,Hj,rfl,rfl,hm,Hcl,XR⟩:=hrel
  clear X0 n8 n8'
  have t0:=XR.out.whole.cell 0
  simp only [qgz] at t0
  by_cases hj:j<n
  ·obtain ⟨b,o,p,B,m',c',k,a,f,no,D,q,d,rfl,hbS,hp,hP,hcell⟩:=(HT.out.under XR.out.below HS.out).at_ hj
   have Hst:=qh (ckT_step (n:=m) hp)
   have hlb:b<wr.heap.size:=ql (HS.out _ hbS) XR.out.below.size
   obtain ⟨g0,g1,g2,g3,g4,g5,g6,g7,g8,g9,g10,g11,g12,g13⟩:=cb14 hcell (by decide)
   unfold pkRow ndRow at g0 g1 g2 g3 g4 g5 g6 g7 g8 g9 g10 g11 g12 g13
   simp only [qgz,qgs,Nat.add_zero] at g0 g1 g2 g3 g4 g5 g6 g7 g8 g9 g10 g11 g12 g13
   clear hcell
   have Hck:=qh (fun wx h1 h2=>tcheck_any p S (pkRow p B m' c' (ndRow k a f no D q d)) wx ⟨B,m',c',_,rfl,h1⟩ h2)
   have Hlen:=qh (fun h=>(pkOk (p:=p) h).len)
   have Hpl:=qh hP.fs.len
   have hPc:=hP.cap
   have hPm:=hP.max
   have HP:=qh hP;clear hP
   generalize hz:ckPk p=z at Hck Hst Hlen
   have Hz:=qh hz;clear hz
   have P1:=qh (Pb.new wr (pkRow p B m' c' (ndRow k a f no D q d)))
   have HP1:=qh (HP.out.under P1.out.below fun k hk=>ql (HS.out k hk) XR.out.below.size)
   have HS1:Hid (∀ x,S x->x<(wr.alloc (.cells (pkRow p B m' c' (ndRow k a f no D q d)).toArray 101)).heap.size):=qh (fun x hx=>ql (ql (HS.out x hx) XR.out.below.size) P1.out.below.size)
   obtain ⟨nm,ver,slot,fs,nd⟩:=p
   unfold pkRow ndRow at Hck P1 HS1
   unfold ndRow at HP HP1
   dsimp only at g0 g1 g2 g3 g4 g5 g6 g7 g8 g9 g10 g11 g12 g13 Hck P1 Hpl HS1 Hst
   clear hp
   by_cases z0:z=0
   ·subst z0
    have hlen:=Hlen.out rfl
    have hpl:=Hpl.out
    dsimp only at hlen
    have HX:Hid (ckT (prevOf ps j) m (ps.drop j)=if badPk (prevOf ps j) ⟨nm,ver,slot,fs,nd⟩=true then 6 else if 14<m+m' then 2 else ckT (prevOf ps (j+1)) (m+m') (ps.drop (j+1))):=qh (by rw [Hst.out,if_neg (by simp),hpl])
    clear Hst
    rcases j with _ | i
    ·simp only [Nat.zero_mul,Nat.add_zero] at g0 g1 g2 g3 g4 g5 g6 g7 g8 g9 g10 g11 g12 g13
     have HX0:Hid (ckT (prevOf ps 0) m (ps.drop 0)=if 14<m+m' then 2 else ckT (prevOf ps 1) (m+m') (ps.drop 1)):=qh (by rw [HX.out,if_neg (by rw [prevOf_zero];simp [badPk])])
     go_wp2_with (first | (go_at_call 110;refine (Hck.out _ HP1.out HS1.out).mono ?_;rintro e w2 ⟨rfl,hb2⟩;refine Hid.out ?_))
     refine qh ?_
     have P2:=qh (P1.out.move hb2)
     have X2:=qh (XR.out.move P2.out.below)
     clear hb2 t0 g0 g1 g2 g3 g4 g5 g6 g7 g8 g9 g10 g11 g12 g13 P1 HP1 HS1 XR Hck
     have t0:=X2.out.whole.cell 0
     simp only [qgz] at t0
     obtain ⟨d0,d1,d2,d3,d4,d5,d6,d7,d8,d9,d10,d11,d12,d13⟩:=ch14 P2.out.whole.cell
     simp only [qgz,qgs] at d0 d1 d2 d3 d4 d5 d6 d7 d8 d9 d10 d11 d12 d13
     go_wp2
     by_cases h14:(14:Int)<(m:Int)+m'
     ·
      refine wp_region_held_drew (S:=(fun w'=>w'.cell? ⟨w.heap.size,0,none⟩=some (.slice (some ⟨b,o,none⟩) n c))) (by kernel_rfl) (t0) (fun hHeld=>?_)
      first|(refine tkA (v:=?_) held_at0 ?_ ?_;rotate_left;focus (intro _ h;(try dsimp only at h);go_simp;(try with_reducible rfl);done))|refine tkB held_at0 ?_
      (try simp only [Act.put,qsa,qsz,qss])
      first|(refine tkA (v:=?_) held_at1 ?_ ?_;rotate_left;focus (intro _ h;(try dsimp only at h);go_simp;(try with_reducible rfl);done))|refine tkB held_at1 ?_
      (try simp only [Act.put,qsa,qsz,qss])
      first|(refine tkA (v:=?_) held_at2 ?_ ?_;rotate_left;focus (intro _ h;(try dsimp only at h);go_simp;(try with_reducible rfl);done))|refine tkB held_at2 ?_
      (try simp only [Act.put,qsa,qsz,qss])
      first|(refine tkA (v:=?_) held_at3 ?_ ?_;rotate_left;focus (intro _ h;(try dsimp only at h);go_simp;(try with_reducible rfl);done))|refine tkB held_at3 ?_
      (try simp only [Act.put,qsa,qsz,qss])
      first|(refine tkA (v:=?_) held_at4 ?_ ?_;rotate_left;focus (intro _ h;(try dsimp only at h);go_simp;(try with_reducible rfl);done))|refine tkB held_at4 ?_
      (try simp only [Act.put,qsa,qsz,qss])
      first|(refine tkA (v:=?_) held_at5 ?_ ?_;rotate_left;focus (intro _ h;(try dsimp only at h);go_simp;(try with_reducible rfl);done))|refine tkB held_at5 ?_
      (try simp only [Act.put,qsa,qsz,qss])
      first|(refine tkA (v:=?_) held_at6 ?_ ?_;rotate_left;focus (intro _ h;(try dsimp only at h);go_simp;(try with_reducible rfl);done))|refine tkB held_at6 ?_
      (try simp only [Act.put,qsa,qsz,qss])
      first|(refine tkA (v:=?_) held_at7 ?_ ?_;rotate_left;focus (intro _ h;(try dsimp only at h);go_simp;(try with_reducible rfl);done))|refine tkB held_at7 ?_
      (try simp only [Act.put,qsa,qsz,qss])
      first|(refine tkA (v:=?_) held_at8 ?_ ?_;rotate_left;focus (intro _ h;(try dsimp only at h);go_simp;(try with_reducible rfl);done))|refine tkB held_at8 ?_
      (try simp only [Act.put,qsa,qsz,qss])
      first|(refine tkA (v:=?_) held_at9 ?_ ?_;rotate_left;focus (intro _ h;(try dsimp only at h);go_simp;(try with_reducible rfl);done))|refine tkB held_at9 ?_
      (try simp only [Act.put,qsa,qsz,qss])
      first|(refine tkA (v:=?_) held_at10 ?_ ?_;rotate_left;focus (intro _ h;(try dsimp only at h);go_simp;(try with_reducible rfl);done))|refine tkB held_at10 ?_
      (try simp only [Act.put,qsa,qsz,qss])
      first|(refine tkA (v:=?_) held_at11 ?_ ?_;rotate_left;focus (intro _ h;(try dsimp only at h);go_simp;(try with_reducible rfl);done))|refine tkB held_at11 ?_
      (try simp only [Act.put,qsa,qsz,qss])
      first|(refine tkA (v:=?_) held_at12 ?_ ?_;rotate_left;focus (intro _ h;(try dsimp only at h);go_simp;(try with_reducible rfl);done))|refine tkB held_at12 ?_
      (try simp only [Act.put,qsa,qsz,qss])
      refine wpAnyH_done (by kernel_rfl) ?_ _
      (go_wp2;go_ret;exact ⟨ret_int (by rw [HK1.out,Hcl.out,HX0.out,if_pos (by omega)]),(X2.out.drew _).below⟩)
     ·
      have h14':decide ((14:Int)<(m:Int)+m')=false:=qdf h14
      refine wp_region_held_drew (S:=(fun w'=>w'.cell? ⟨w.heap.size,0,none⟩=some (.slice (some ⟨b,o,none⟩) n c))) (by kernel_rfl) (t0) (fun hHeld=>?_)
      first|(refine tkA (v:=?_) held_at0 ?_ ?_;rotate_left;focus (intro _ h;(try dsimp only at h);go_simp;(try with_reducible rfl);done))|refine tkB held_at0 ?_
      (try simp only [Act.put,qsa,qsz,qss])
      first|(refine tkA (v:=?_) held_at1 ?_ ?_;rotate_left;focus (intro _ h;(try dsimp only at h);go_simp;(try with_reducible rfl);done))|refine tkB held_at1 ?_
      (try simp only [Act.put,qsa,qsz,qss])
      first|(refine tkA (v:=?_) held_at2 ?_ ?_;rotate_left;focus (intro _ h;(try dsimp only at h);go_simp;(try with_reducible rfl);done))|refine tkB held_at2 ?_
      (try simp only [Act.put,qsa,qsz,qss])
      first|(refine tkA (v:=?_) held_at3 ?_ ?_;rotate_left;focus (intro _ h;(try dsimp only at h);go_simp;(try with_reducible rfl);done))|refine tkB held_at3 ?_
      (try simp only [Act.put,qsa,qsz,qss])
      first|(refine tkA (v:=?_) held_at4 ?_ ?_;rotate_left;focus (intro _ h;(try dsimp only at h);go_simp;(try with_reducible rfl);done))|refine tkB held_at4 ?_
      (try simp only [Act.put,qsa,qsz,qss])
      first|(refine tkA (v:=?_) held_at5 ?_ ?_;rotate_left;focus (intro _ h;(try dsimp only at h);go_simp;(try with_reducible rfl);done))|refine tkB held_at5 ?_
      (try simp only [Act.put,qsa,qsz,qss])
      first|(refine tkA (v:=?_) held_at6 ?_ ?_;rotate_left;focus (intro _ h;(try dsimp only at h);go_simp;(try with_reducible rfl);done))|refine tkB held_at6 ?_
      (try simp only [Act.put,qsa,qsz,qss])
      first|(refine tkA (v:=?_) held_at7 ?_ ?_;rotate_left;focus (intro _ h;(try dsimp only at h);go_simp;(try with_reducible rfl);done))|refine tkB held_at7 ?_
      (try simp only [Act.put,qsa,qsz,qss])
      first|(refine tkA (v:=?_) held_at8 ?_ ?_;rotate_left;focus (intro _ h;(try dsimp only at h);go_simp;(try with_reducible rfl);done))|refine tkB held_at8 ?_
      (try simp only [Act.put,qsa,qsz,qss])
      first|(refine tkA (v:=?_) held_at9 ?_ ?_;rotate_left;focus (intro _ h;(try dsimp only at h);go_simp;(try with_reducible rfl);done))|refine tkB held_at9 ?_
      (try simp only [Act.put,qsa,qsz,qss])
      first|(refine tkA (v:=?_) held_at10 ?_ ?_;rotate_left;focus (intro _ h;(try dsimp only at h);go_simp;(try with_reducible rfl);done))|refine tkB held_at10 ?_
      (try simp only [Act.put,qsa,qsz,qss])
      first|(refine tkA (v:=?_) held_at11 ?_ ?_;rotate_left;focus (intro _ h;(try dsimp only at h);go_simp;(try with_reducible rfl);done))|refine tkB held_at11 ?_
      (try simp only [Act.put,qsa,qsz,qss])
      first|(refine tkA (v:=?_) held_at12 ?_ ?_;rotate_left;focus (intro _ h;(try dsimp only at h);go_simp;(try with_reducible rfl);done))|refine tkB held_at12 ?_
      (try simp only [Act.put,qsa,qsz,qss])
      refine wpAnyH_done (by kernel_rfl) ?_ _
      (go_wp2;go_roundg (gk - 1);(case measure=>have:=Hj.out;omega);(case rel=>exact ⟨1,m+m',qh (by have:=Hj.out;omega),by go_num,by go_num,by omega,qh (by rw [Hcl.out,HX0.out,if_neg (by omega)]),qh (X2.out.drew _)⟩))
    obtain ⟨b',o',u,B2,m2,c2,k2,a2,f2,no2,D2,q2,dd2,eA,_,hu,_,hucell⟩:=(HT.out.under XR.out.below HS.out).at_ (j:=i) (by omega)
    injection eA with eA;injection eA with e1 e2;subst e1 e2
    have Hpr:=qh (prevOf_succ hu)
    have hin:i<n:=by omega
    have hin2:(i:Int)<n:=by omega
    have hwr:IntKind.i64.wrap (i:Int)=(i:Int):=by rw [IntKind.wrap_i64];omega
    have Hbe:=qh (fun wx=>before_any u ⟨nm,ver,slot,fs,nd⟩ B2 B m2 c2 m' c' k2 k a2 a f2 f no2 no D2 D q2 dd2 q d wx)
    have Hbp:Hid (badPk (some u) ⟨nm,ver,slot,fs,nd⟩ = !beforeP u ⟨nm,ver,slot,fs,nd⟩):=qh rfl
    generalize beforeP u ⟨nm,ver,slot,fs,nd⟩=bp at Hbe Hbp
    obtain ⟨v0,v1,v2,v3,v4,v5,v6,v7,v8,v9,v10,v11,v12,v13⟩:=cb14 hucell (by decide)
    unfold pkRow ndRow at v0 v1 v2 v3 v4 v5 v6 v7 v8 v9 v10 v11 v12 v13
    simp only [qgz,qgs,Nat.add_zero] at v0 v1 v2 v3 v4 v5 v6 v7 v8 v9 v10 v11 v12 v13
    clear hucell hu
    obtain ⟨pnm,pver,pslot,pfs,pnd⟩:=u
    unfold pkRow ndRow at Hbe
    dsimp only at v0 v1 v2 v3 v4 v5 v6 v7 v8 v9 v10 v11 v12 v13 Hbe
    cases bp
    ·have HX1:Hid (ckT (prevOf ps (i+1)) m (ps.drop (i+1))=6):=qh (by rw [HX.out,Hpr.out,Hbp.out];rfl)
     go_wp2_with (first | (go_at_call 110;refine (Hck.out _ HP1.out HS1.out).mono ?_;rintro e w2 ⟨rfl,hb2⟩;refine Hid.out ?_))
     refine qh ?_
     have P2:=qh (P1.out.move hb2)
     have hlb2:b<w2.heap.size:=ql hlb P2.out.below.size
     replace v0:=(P2.out.below.cell (p:=⟨b,_,none⟩) hlb).trans v0;replace v1:=(P2.out.below.cell (p:=⟨b,_,none⟩) hlb).trans v1;replace v2:=(P2.out.below.cell (p:=⟨b,_,none⟩) hlb).trans v2;replace v3:=(P2.out.below.cell (p:=⟨b,_,none⟩) hlb).trans v3;replace v4:=(P2.out.below.cell (p:=⟨b,_,none⟩) hlb).trans v4;replace v5:=(P2.out.below.cell (p:=⟨b,_,none⟩) hlb).trans v5;replace v6:=(P2.out.below.cell (p:=⟨b,_,none⟩) hlb).trans v6;replace v7:=(P2.out.below.cell (p:=⟨b,_,none⟩) hlb).trans v7;replace v8:=(P2.out.below.cell (p:=⟨b,_,none⟩) hlb).trans v8;replace v9:=(P2.out.below.cell (p:=⟨b,_,none⟩) hlb).trans v9;replace v10:=(P2.out.below.cell (p:=⟨b,_,none⟩) hlb).trans v10;replace v11:=(P2.out.below.cell (p:=⟨b,_,none⟩) hlb).trans v11;replace v12:=(P2.out.below.cell (p:=⟨b,_,none⟩) hlb).trans v12;replace v13:=(P2.out.below.cell (p:=⟨b,_,none⟩) hlb).trans v13
     have X2:=qh (XR.out.move P2.out.below)
     clear hb2 t0 g0 g1 g2 g3 g4 g5 g6 g7 g8 g9 g10 g11 g12 g13 P1 HP1 HS1 XR Hck
     have t0:=X2.out.whole.cell 0
     simp only [qgz] at t0
     obtain ⟨d0,d1,d2,d3,d4,d5,d6,d7,d8,d9,d10,d11,d12,d13⟩:=ch14 P2.out.whole.cell
     simp only [qgz,qgs] at d0 d1 d2 d3 d4 d5 d6 d7 d8 d9 d10 d11 d12 d13
     go_wp2
     refine wp_region_held_drew (S:=(fun w'=>w'.cell? ⟨w.heap.size,0,none⟩=some (.slice (some ⟨b,o,none⟩) n c)/\w'.cell? ⟨b,o+i * 14,none⟩=some (.string ⟨pnm.toArray⟩)/\w'.cell? ⟨b,o+i * 14+1,none⟩=some (.int .i64 pver)/\w'.cell? ⟨b,o+i * 14+2,none⟩=some (.int .i64 pslot)/\w'.cell? ⟨b,o+i * 14+3,none⟩=some (.slice B2 m2 c2)/\w'.cell? ⟨b,o+i * 14+4,none⟩=some (.int .i64 k2)/\w'.cell? ⟨b,o+i * 14+5,none⟩=some (.string ⟨a2.nm.toArray⟩)/\w'.cell? ⟨b,o+i * 14+6,none⟩=some (.int .i64 a2.op)/\w'.cell? ⟨b,o+i * 14+7,none⟩=some (.int .i64 a2.ver)/\w'.cell? ⟨b,o+i * 14+8,none⟩=some (.int .i64 a2.slot)/\w'.cell? ⟨b,o+i * 14+9,none⟩=some (.string ⟨a2.fl.toArray⟩)/\w'.cell? ⟨b,o+i * 14+10,none⟩=some (.bool a2.on)/\w'.cell? ⟨b,o+i * 14+11,none⟩=some (.string ⟨f2.toArray⟩)/\w'.cell? ⟨b,o+i * 14+12,none⟩=some (.bool no2)/\w'.cell? ⟨b,o+i * 14+13,none⟩=some (.slice D2 q2 dd2)/\w'.cell? ⟨wr.heap.size,0,none⟩=some (.string ⟨nm.toArray⟩)/\w'.cell? ⟨wr.heap.size,1,none⟩=some (.int .i64 ver)/\w'.cell? ⟨wr.heap.size,2,none⟩=some (.int .i64 slot)/\w'.cell? ⟨wr.heap.size,3,none⟩=some (.slice B m' c')/\w'.cell? ⟨wr.heap.size,4,none⟩=some (.int .i64 k)/\w'.cell? ⟨wr.heap.size,5,none⟩=some (.string ⟨a.nm.toArray⟩)/\w'.cell? ⟨wr.heap.size,6,none⟩=some (.int .i64 a.op)/\w'.cell? ⟨wr.heap.size,7,none⟩=some (.int .i64 a.ver)/\w'.cell? ⟨wr.heap.size,8,none⟩=some (.int .i64 a.slot)/\w'.cell? ⟨wr.heap.size,9,none⟩=some (.string ⟨a.fl.toArray⟩)/\w'.cell? ⟨wr.heap.size,10,none⟩=some (.bool a.on)/\w'.cell? ⟨wr.heap.size,11,none⟩=some (.string ⟨f.toArray⟩)/\w'.cell? ⟨wr.heap.size,12,none⟩=some (.bool no)/\w'.cell? ⟨wr.heap.size,13,none⟩=some (.slice D q d))) (by kernel_rfl) (⟨t0,v0,v1,v2,v3,v4,v5,v6,v7,v8,v9,v10,v11,v12,v13,d0,d1,d2,d3,d4,d5,d6,d7,d8,d9,d10,d11,d12,d13⟩) (fun hHeld=>?_)
     first|(refine tkA (v:=?_) held_at0 ?_ ?_;rotate_left;focus (intro _ h;(try dsimp only at h);go_simp;(try with_reducible rfl);done))|refine tkB held_at0 ?_
     (try simp only [Act.put,qsa,qsz,qss])
     first|(refine tkA (v:=?_) held_at1 ?_ ?_;rotate_left;focus (intro _ h;(try dsimp only at h);go_simp;(try with_reducible rfl);done))|refine tkB held_at1 ?_
     (try simp only [Act.put,qsa,qsz,qss])
     first|(refine tkA (v:=?_) held_at2 ?_ ?_;rotate_left;focus (intro _ h;(try dsimp only at h);go_simp;(try with_reducible rfl);done))|refine tkB held_at2 ?_
     (try simp only [Act.put,qsa,qsz,qss])
     first|(refine tkA (v:=?_) held_at3 ?_ ?_;rotate_left;focus (intro _ h;(try dsimp only at h);go_simp;(try with_reducible rfl);done))|refine tkB held_at3 ?_
     (try simp only [Act.put,qsa,qsz,qss])
     first|(refine tkA (v:=?_) held_at4 ?_ ?_;rotate_left;focus (intro _ h;(try dsimp only at h);go_simp;(try with_reducible rfl);done))|refine tkB held_at4 ?_
     (try simp only [Act.put,qsa,qsz,qss])
     first|(refine tkA (v:=?_) held_at5 ?_ ?_;rotate_left;focus (intro _ h;(try dsimp only at h);go_simp;(try with_reducible rfl);done))|refine tkB held_at5 ?_
     (try simp only [Act.put,qsa,qsz,qss])
     first|(refine tkA (v:=?_) held_at6 ?_ ?_;rotate_left;focus (intro _ h;(try dsimp only at h);go_simp;(try with_reducible rfl);done))|refine tkB held_at6 ?_
     (try simp only [Act.put,qsa,qsz,qss])
     first|(refine tkA (v:=?_) held_at7 ?_ ?_;rotate_left;focus (intro _ h;(try dsimp only at h);go_simp;(try with_reducible rfl);done))|refine tkB held_at7 ?_
     (try simp only [Act.put,qsa,qsz,qss])
     first|(refine tkA (v:=?_) held_at8 ?_ ?_;rotate_left;focus (intro _ h;(try dsimp only at h);go_simp;(try with_reducible rfl);done))|refine tkB held_at8 ?_
     (try simp only [Act.put,qsa,qsz,qss])
     first|(refine tkA (v:=?_) held_at9 ?_ ?_;rotate_left;focus (intro _ h;(try dsimp only at h);go_simp;(try with_reducible rfl);done))|refine tkB held_at9 ?_
     (try simp only [Act.put,qsa,qsz,qss])
     refine wpAnyH_ready (rs:=[10]) (by kernel_rfl) (by simp) ?_
     refine AllReadyH.cons held_at10 (fun K hK=>?_) AllReadyH.nil
     (try simp only [qsa,qsz,qss])
     go_simp
     go_at_call 111
     refine (Hbe.out _).mono ?_
     rintro e wn ⟨rfl,hb⟩
     (first | replace X2:=qh (X2.out.move hb) | replace X2:=qh ((X2.out.drew _).move hb));(first | replace P2:=qh (P2.out.move hb) | replace P2:=qh ((P2.out.drew _).move hb));replace v0:=(hb.cell (p:=⟨b,_,none⟩) hlb2).trans v0;replace v1:=(hb.cell (p:=⟨b,_,none⟩) hlb2).trans v1;replace v2:=(hb.cell (p:=⟨b,_,none⟩) hlb2).trans v2;replace v3:=(hb.cell (p:=⟨b,_,none⟩) hlb2).trans v3;replace v4:=(hb.cell (p:=⟨b,_,none⟩) hlb2).trans v4;replace v5:=(hb.cell (p:=⟨b,_,none⟩) hlb2).trans v5;replace v6:=(hb.cell (p:=⟨b,_,none⟩) hlb2).trans v6;replace v7:=(hb.cell (p:=⟨b,_,none⟩) hlb2).trans v7;replace v8:=(hb.cell (p:=⟨b,_,none⟩) hlb2).trans v8;replace v9:=(hb.cell (p:=⟨b,_,none⟩) hlb2).trans v9;replace v10:=(hb.cell (p:=⟨b,_,none⟩) hlb2).trans v10;replace v11:=(hb.cell (p:=⟨b,_,none⟩) hlb2).trans v11;replace v12:=(hb.cell (p:=⟨b,_,none⟩) hlb2).trans v12;replace v13:=(hb.cell (p:=⟨b,_,none⟩) hlb2).trans v13;clear hb t0 d0 d1 d2 d3 d4 d5 d6 d7 d8 d9 d10 d11 d12 d13;have t0:=X2.out.whole.cell 0;simp only [qgz] at t0;obtain ⟨d0,d1,d2,d3,d4,d5,d6,d7,d8,d9,d10,d11,d12,d13⟩:=ch14 P2.out.whole.cell;simp only [qgz,qgs] at d0 d1 d2 d3 d4 d5 d6 d7 d8 d9 d10 d11 d12 d13
     refine hK.out _ _ (⟨t0,v0,v1,v2,v3,v4,v5,v6,v7,v8,v9,v10,v11,v12,v13,d0,d1,d2,d3,d4,d5,d6,d7,d8,d9,d10,d11,d12,d13⟩) (fun hHeld=>?_)
     clear hK K
     (try simp only [Act.put,qsa,qsz,qss])
     first|(refine tkA (v:=?_) held_at11 ?_ ?_;rotate_left;focus (intro _ h;(try dsimp only at h);go_simp;(try with_reducible rfl);done))|refine tkB held_at11 ?_
     (try simp only [Act.put,qsa,qsz,qss])
     first|(refine tkA (v:=?_) held_at12 ?_ ?_;rotate_left;focus (intro _ h;(try dsimp only at h);go_simp;(try with_reducible rfl);done))|refine tkB held_at12 ?_
     (try simp only [Act.put,qsa,qsz,qss])
     refine wpAnyH_done (by kernel_rfl) ?_ _
     (go_wp2;go_ret;exact ⟨ret_int (by rw [HK1.out,Hcl.out,HX1.out]),X2.out.below⟩)
    have HX1:Hid (ckT (prevOf ps (i+1)) m (ps.drop (i+1))=if 14<m+m' then 2 else ckT (prevOf ps (i+1+1)) (m+m') (ps.drop (i+1+1))):=qh (by rw [HX.out,Hpr.out,Hbp.out];rfl)
    by_cases h14:(14:Int)<(m:Int)+m'
    ·
     go_wp2_with (first | (go_at_call 110;refine (Hck.out _ HP1.out HS1.out).mono ?_;rintro e w2 ⟨rfl,hb2⟩;refine Hid.out ?_))
     refine qh ?_
     have P2:=qh (P1.out.move hb2)
     have hlb2:b<w2.heap.size:=ql hlb P2.out.below.size
     replace v0:=(P2.out.below.cell (p:=⟨b,_,none⟩) hlb).trans v0;replace v1:=(P2.out.below.cell (p:=⟨b,_,none⟩) hlb).trans v1;replace v2:=(P2.out.below.cell (p:=⟨b,_,none⟩) hlb).trans v2;replace v3:=(P2.out.below.cell (p:=⟨b,_,none⟩) hlb).trans v3;replace v4:=(P2.out.below.cell (p:=⟨b,_,none⟩) hlb).trans v4;replace v5:=(P2.out.below.cell (p:=⟨b,_,none⟩) hlb).trans v5;replace v6:=(P2.out.below.cell (p:=⟨b,_,none⟩) hlb).trans v6;replace v7:=(P2.out.below.cell (p:=⟨b,_,none⟩) hlb).trans v7;replace v8:=(P2.out.below.cell (p:=⟨b,_,none⟩) hlb).trans v8;replace v9:=(P2.out.below.cell (p:=⟨b,_,none⟩) hlb).trans v9;replace v10:=(P2.out.below.cell (p:=⟨b,_,none⟩) hlb).trans v10;replace v11:=(P2.out.below.cell (p:=⟨b,_,none⟩) hlb).trans v11;replace v12:=(P2.out.below.cell (p:=⟨b,_,none⟩) hlb).trans v12;replace v13:=(P2.out.below.cell (p:=⟨b,_,none⟩) hlb).trans v13
     have X2:=qh (XR.out.move P2.out.below)
     clear hb2 t0 g0 g1 g2 g3 g4 g5 g6 g7 g8 g9 g10 g11 g12 g13 P1 HP1 HS1 XR Hck
     have t0:=X2.out.whole.cell 0
     simp only [qgz] at t0
     obtain ⟨d0,d1,d2,d3,d4,d5,d6,d7,d8,d9,d10,d11,d12,d13⟩:=ch14 P2.out.whole.cell
     simp only [qgz,qgs] at d0 d1 d2 d3 d4 d5 d6 d7 d8 d9 d10 d11 d12 d13
     go_wp2
     refine wp_region_held_drew (S:=(fun w'=>w'.cell? ⟨w.heap.size,0,none⟩=some (.slice (some ⟨b,o,none⟩) n c)/\w'.cell? ⟨b,o+i * 14,none⟩=some (.string ⟨pnm.toArray⟩)/\w'.cell? ⟨b,o+i * 14+1,none⟩=some (.int .i64 pver)/\w'.cell? ⟨b,o+i * 14+2,none⟩=some (.int .i64 pslot)/\w'.cell? ⟨b,o+i * 14+3,none⟩=some (.slice B2 m2 c2)/\w'.cell? ⟨b,o+i * 14+4,none⟩=some (.int .i64 k2)/\w'.cell? ⟨b,o+i * 14+5,none⟩=some (.string ⟨a2.nm.toArray⟩)/\w'.cell? ⟨b,o+i * 14+6,none⟩=some (.int .i64 a2.op)/\w'.cell? ⟨b,o+i * 14+7,none⟩=some (.int .i64 a2.ver)/\w'.cell? ⟨b,o+i * 14+8,none⟩=some (.int .i64 a2.slot)/\w'.cell? ⟨b,o+i * 14+9,none⟩=some (.string ⟨a2.fl.toArray⟩)/\w'.cell? ⟨b,o+i * 14+10,none⟩=some (.bool a2.on)/\w'.cell? ⟨b,o+i * 14+11,none⟩=some (.string ⟨f2.toArray⟩)/\w'.cell? ⟨b,o+i * 14+12,none⟩=some (.bool no2)/\w'.cell? ⟨b,o+i * 14+13,none⟩=some (.slice D2 q2 dd2)/\w'.cell? ⟨wr.heap.size,0,none⟩=some (.string ⟨nm.toArray⟩)/\w'.cell? ⟨wr.heap.size,1,none⟩=some (.int .i64 ver)/\w'.cell? ⟨wr.heap.size,2,none⟩=some (.int .i64 slot)/\w'.cell? ⟨wr.heap.size,3,none⟩=some (.slice B m' c')/\w'.cell? ⟨wr.heap.size,4,none⟩=some (.int .i64 k)/\w'.cell? ⟨wr.heap.size,5,none⟩=some (.string ⟨a.nm.toArray⟩)/\w'.cell? ⟨wr.heap.size,6,none⟩=some (.int .i64 a.op)/\w'.cell? ⟨wr.heap.size,7,none⟩=some (.int .i64 a.ver)/\w'.cell? ⟨wr.heap.size,8,none⟩=some (.int .i64 a.slot)/\w'.cell? ⟨wr.heap.size,9,none⟩=some (.string ⟨a.fl.toArray⟩)/\w'.cell? ⟨wr.heap.size,10,none⟩=some (.bool a.on)/\w'.cell? ⟨wr.heap.size,11,none⟩=some (.string ⟨f.toArray⟩)/\w'.cell? ⟨wr.heap.size,12,none⟩=some (.bool no)/\w'.cell? ⟨wr.heap.size,13,none⟩=some (.slice D q d))) (by kernel_rfl) (⟨t0,v0,v1,v2,v3,v4,v5,v6,v7,v8,v9,v10,v11,v12,v13,d0,d1,d2,d3,d4,d5,d6,d7,d8,d9,d10,d11,d12,d13⟩) (fun hHeld=>?_)
     first|(refine tkA (v:=?_) held_at0 ?_ ?_;rotate_left;focus (intro _ h;(try dsimp only at h);go_simp;(try with_reducible rfl);done))|refine tkB held_at0 ?_
     (try simp only [Act.put,qsa,qsz,qss])
     first|(refine tkA (v:=?_) held_at1 ?_ ?_;rotate_left;focus (intro _ h;(try dsimp only at h);go_simp;(try with_reducible rfl);done))|refine tkB held_at1 ?_
     (try simp only [Act.put,qsa,qsz,qss])
     first|(refine tkA (v:=?_) held_at2 ?_ ?_;rotate_left;focus (intro _ h;(try dsimp only at h);go_simp;(try with_reducible rfl);done))|refine tkB held_at2 ?_
     (try simp only [Act.put,qsa,qsz,qss])
     first|(refine tkA (v:=?_) held_at3 ?_ ?_;rotate_left;focus (intro _ h;(try dsimp only at h);go_simp;(try with_reducible rfl);done))|refine tkB held_at3 ?_
     (try simp only [Act.put,qsa,qsz,qss])
     first|(refine tkA (v:=?_) held_at4 ?_ ?_;rotate_left;focus (intro _ h;(try dsimp only at h);go_simp;(try with_reducible rfl);done))|refine tkB held_at4 ?_
     (try simp only [Act.put,qsa,qsz,qss])
     first|(refine tkA (v:=?_) held_at5 ?_ ?_;rotate_left;focus (intro _ h;(try dsimp only at h);go_simp;(try with_reducible rfl);done))|refine tkB held_at5 ?_
     (try simp only [Act.put,qsa,qsz,qss])
     first|(refine tkA (v:=?_) held_at6 ?_ ?_;rotate_left;focus (intro _ h;(try dsimp only at h);go_simp;(try with_reducible rfl);done))|refine tkB held_at6 ?_
     (try simp only [Act.put,qsa,qsz,qss])
     first|(refine tkA (v:=?_) held_at7 ?_ ?_;rotate_left;focus (intro _ h;(try dsimp only at h);go_simp;(try with_reducible rfl);done))|refine tkB held_at7 ?_
     (try simp only [Act.put,qsa,qsz,qss])
     first|(refine tkA (v:=?_) held_at8 ?_ ?_;rotate_left;focus (intro _ h;(try dsimp only at h);go_simp;(try with_reducible rfl);done))|refine tkB held_at8 ?_
     (try simp only [Act.put,qsa,qsz,qss])
     first|(refine tkA (v:=?_) held_at9 ?_ ?_;rotate_left;focus (intro _ h;(try dsimp only at h);go_simp;(try with_reducible rfl);done))|refine tkB held_at9 ?_
     (try simp only [Act.put,qsa,qsz,qss])
     refine wpAnyH_ready (rs:=[10]) (by kernel_rfl) (by simp) ?_
     refine AllReadyH.cons held_at10 (fun K hK=>?_) AllReadyH.nil
     (try simp only [qsa,qsz,qss])
     go_simp
     go_at_call 111
     refine (Hbe.out _).mono ?_
     rintro e wn ⟨rfl,hb⟩
     (first | replace X2:=qh (X2.out.move hb) | replace X2:=qh ((X2.out.drew _).move hb));(first | replace P2:=qh (P2.out.move hb) | replace P2:=qh ((P2.out.drew _).move hb));replace v0:=(hb.cell (p:=⟨b,_,none⟩) hlb2).trans v0;replace v1:=(hb.cell (p:=⟨b,_,none⟩) hlb2).trans v1;replace v2:=(hb.cell (p:=⟨b,_,none⟩) hlb2).trans v2;replace v3:=(hb.cell (p:=⟨b,_,none⟩) hlb2).trans v3;replace v4:=(hb.cell (p:=⟨b,_,none⟩) hlb2).trans v4;replace v5:=(hb.cell (p:=⟨b,_,none⟩) hlb2).trans v5;replace v6:=(hb.cell (p:=⟨b,_,none⟩) hlb2).trans v6;replace v7:=(hb.cell (p:=⟨b,_,none⟩) hlb2).trans v7;replace v8:=(hb.cell (p:=⟨b,_,none⟩) hlb2).trans v8;replace v9:=(hb.cell (p:=⟨b,_,none⟩) hlb2).trans v9;replace v10:=(hb.cell (p:=⟨b,_,none⟩) hlb2).trans v10;replace v11:=(hb.cell (p:=⟨b,_,none⟩) hlb2).trans v11;replace v12:=(hb.cell (p:=⟨b,_,none⟩) hlb2).trans v12;replace v13:=(hb.cell (p:=⟨b,_,none⟩) hlb2).trans v13;clear hb t0 d0 d1 d2 d3 d4 d5 d6 d7 d8 d9 d10 d11 d12 d13;have t0:=X2.out.whole.cell 0;simp only [qgz] at t0;obtain ⟨d0,d1,d2,d3,d4,d5,d6,d7,d8,d9,d10,d11,d12,d13⟩:=ch14 P2.out.whole.cell;simp only [qgz,qgs] at d0 d1 d2 d3 d4 d5 d6 d7 d8 d9 d10 d11 d12 d13
     refine hK.out _ _ (⟨t0,v0,v1,v2,v3,v4,v5,v6,v7,v8,v9,v10,v11,v12,v13,d0,d1,d2,d3,d4,d5,d6,d7,d8,d9,d10,d11,d12,d13⟩) (fun hHeld=>?_)
     clear hK K
     (try simp only [Act.put,qsa,qsz,qss])
     first|(refine tkA (v:=?_) held_at11 ?_ ?_;rotate_left;focus (intro _ h;(try dsimp only at h);go_simp;(try with_reducible rfl);done))|refine tkB held_at11 ?_
     (try simp only [Act.put,qsa,qsz,qss])
     first|(refine tkA (v:=?_) held_at12 ?_ ?_;rotate_left;focus (intro _ h;(try dsimp only at h);go_simp;(try with_reducible rfl);done))|refine tkB held_at12 ?_
     (try simp only [Act.put,qsa,qsz,qss])
     refine wpAnyH_done (by kernel_rfl) ?_ _
     (go_wp2;go_ret;exact ⟨ret_int (by rw [HK1.out,Hcl.out,HX1.out,if_pos (by omega)]),X2.out.below⟩)
    ·
     have h14':decide ((14:Int)<(m:Int)+m')=false:=qdf h14
     go_wp2_with (first | (go_at_call 110;refine (Hck.out _ HP1.out HS1.out).mono ?_;rintro e w2 ⟨rfl,hb2⟩;refine Hid.out ?_))
     refine qh ?_
     have P2:=qh (P1.out.move hb2)
     have hlb2:b<w2.heap.size:=ql hlb P2.out.below.size
     replace v0:=(P2.out.below.cell (p:=⟨b,_,none⟩) hlb).trans v0;replace v1:=(P2.out.below.cell (p:=⟨b,_,none⟩) hlb).trans v1;replace v2:=(P2.out.below.cell (p:=⟨b,_,none⟩) hlb).trans v2;replace v3:=(P2.out.below.cell (p:=⟨b,_,none⟩) hlb).trans v3;replace v4:=(P2.out.below.cell (p:=⟨b,_,none⟩) hlb).trans v4;replace v5:=(P2.out.below.cell (p:=⟨b,_,none⟩) hlb).trans v5;replace v6:=(P2.out.below.cell (p:=⟨b,_,none⟩) hlb).trans v6;replace v7:=(P2.out.below.cell (p:=⟨b,_,none⟩) hlb).trans v7;replace v8:=(P2.out.below.cell (p:=⟨b,_,none⟩) hlb).trans v8;replace v9:=(P2.out.below.cell (p:=⟨b,_,none⟩) hlb).trans v9;replace v10:=(P2.out.below.cell (p:=⟨b,_,none⟩) hlb).trans v10;replace v11:=(P2.out.below.cell (p:=⟨b,_,none⟩) hlb).trans v11;replace v12:=(P2.out.below.cell (p:=⟨b,_,none⟩) hlb).trans v12;replace v13:=(P2.out.below.cell (p:=⟨b,_,none⟩) hlb).trans v13
     have X2:=qh (XR.out.move P2.out.below)
     clear hb2 t0 g0 g1 g2 g3 g4 g5 g6 g7 g8 g9 g10 g11 g12 g13 P1 HP1 HS1 XR Hck
     have t0:=X2.out.whole.cell 0
     simp only [qgz] at t0
     obtain ⟨d0,d1,d2,d3,d4,d5,d6,d7,d8,d9,d10,d11,d12,d13⟩:=ch14 P2.out.whole.cell
     simp only [qgz,qgs] at d0 d1 d2 d3 d4 d5 d6 d7 d8 d9 d10 d11 d12 d13
     go_wp2
     refine wp_region_held_drew (S:=(fun w'=>w'.cell? ⟨w.heap.size,0,none⟩=some (.slice (some ⟨b,o,none⟩) n c)/\w'.cell? ⟨b,o+i * 14,none⟩=some (.string ⟨pnm.toArray⟩)/\w'.cell? ⟨b,o+i * 14+1,none⟩=some (.int .i64 pver)/\w'.cell? ⟨b,o+i * 14+2,none⟩=some (.int .i64 pslot)/\w'.cell? ⟨b,o+i * 14+3,none⟩=some (.slice B2 m2 c2)/\w'.cell? ⟨b,o+i * 14+4,none⟩=some (.int .i64 k2)/\w'.cell? ⟨b,o+i * 14+5,none⟩=some (.string ⟨a2.nm.toArray⟩)/\w'.cell? ⟨b,o+i * 14+6,none⟩=some (.int .i64 a2.op)/\w'.cell? ⟨b,o+i * 14+7,none⟩=some (.int .i64 a2.ver)/\w'.cell? ⟨b,o+i * 14+8,none⟩=some (.int .i64 a2.slot)/\w'.cell? ⟨b,o+i * 14+9,none⟩=some (.string ⟨a2.fl.toArray⟩)/\w'.cell? ⟨b,o+i * 14+10,none⟩=some (.bool a2.on)/\w'.cell? ⟨b,o+i * 14+11,none⟩=some (.string ⟨f2.toArray⟩)/\w'.cell? ⟨b,o+i * 14+12,none⟩=some (.bool no2)/\w'.cell? ⟨b,o+i * 14+13,none⟩=some (.slice D2 q2 dd2)/\w'.cell? ⟨wr.heap.size,0,none⟩=some (.string ⟨nm.toArray⟩)/\w'.cell? ⟨wr.heap.size,1,none⟩=some (.int .i64 ver)/\w'.cell? ⟨wr.heap.size,2,none⟩=some (.int .i64 slot)/\w'.cell? ⟨wr.heap.size,3,none⟩=some (.slice B m' c')/\w'.cell? ⟨wr.heap.size,4,none⟩=some (.int .i64 k)/\w'.cell? ⟨wr.heap.size,5,none⟩=some (.string ⟨a.nm.toArray⟩)/\w'.cell? ⟨wr.heap.size,6,none⟩=some (.int .i64 a.op)/\w'.cell? ⟨wr.heap.size,7,none⟩=some (.int .i64 a.ver)/\w'.cell? ⟨wr.heap.size,8,none⟩=some (.int .i64 a.slot)/\w'.cell? ⟨wr.heap.size,9,none⟩=some (.string ⟨a.fl.toArray⟩)/\w'.cell? ⟨wr.heap.size,10,none⟩=some (.bool a.on)/\w'.cell? ⟨wr.heap.size,11,none⟩=some (.string ⟨f.toArray⟩)/\w'.cell? ⟨wr.heap.size,12,none⟩=some (.bool no)/\w'.cell? ⟨wr.heap.size,13,none⟩=some (.slice D q d))) (by kernel_rfl) (⟨t0,v0,v1,v2,v3,v4,v5,v6,v7,v8,v9,v10,v11,v12,v13,d0,d1,d2,d3,d4,d5,d6,d7,d8,d9,d10,d11,d12,d13⟩) (fun hHeld=>?_)
     first|(refine tkA (v:=?_) held_at0 ?_ ?_;rotate_left;focus (intro _ h;(try dsimp only at h);go_simp;(try with_reducible rfl);done))|refine tkB held_at0 ?_
     (try simp only [Act.put,qsa,qsz,qss])
     first|(refine tkA (v:=?_) held_at1 ?_ ?_;rotate_left;focus (intro _ h;(try dsimp only at h);go_simp;(try with_reducible rfl);done))|refine tkB held_at1 ?_
     (try simp only [Act.put,qsa,qsz,qss])
     first|(refine tkA (v:=?_) held_at2 ?_ ?_;rotate_left;focus (intro _ h;(try dsimp only at h);go_simp;(try with_reducible rfl);done))|refine tkB held_at2 ?_
     (try simp only [Act.put,qsa,qsz,qss])
     first|(refine tkA (v:=?_) held_at3 ?_ ?_;rotate_left;focus (intro _ h;(try dsimp only at h);go_simp;(try with_reducible rfl);done))|refine tkB held_at3 ?_
     (try simp only [Act.put,qsa,qsz,qss])
     first|(refine tkA (v:=?_) held_at4 ?_ ?_;rotate_left;focus (intro _ h;(try dsimp only at h);go_simp;(try with_reducible rfl);done))|refine tkB held_at4 ?_
     (try simp only [Act.put,qsa,qsz,qss])
     first|(refine tkA (v:=?_) held_at5 ?_ ?_;rotate_left;focus (intro _ h;(try dsimp only at h);go_simp;(try with_reducible rfl);done))|refine tkB held_at5 ?_
     (try simp only [Act.put,qsa,qsz,qss])
     first|(refine tkA (v:=?_) held_at6 ?_ ?_;rotate_left;focus (intro _ h;(try dsimp only at h);go_simp;(try with_reducible rfl);done))|refine tkB held_at6 ?_
     (try simp only [Act.put,qsa,qsz,qss])
     first|(refine tkA (v:=?_) held_at7 ?_ ?_;rotate_left;focus (intro _ h;(try dsimp only at h);go_simp;(try with_reducible rfl);done))|refine tkB held_at7 ?_
     (try simp only [Act.put,qsa,qsz,qss])
     first|(refine tkA (v:=?_) held_at8 ?_ ?_;rotate_left;focus (intro _ h;(try dsimp only at h);go_simp;(try with_reducible rfl);done))|refine tkB held_at8 ?_
     (try simp only [Act.put,qsa,qsz,qss])
     first|(refine tkA (v:=?_) held_at9 ?_ ?_;rotate_left;focus (intro _ h;(try dsimp only at h);go_simp;(try with_reducible rfl);done))|refine tkB held_at9 ?_
     (try simp only [Act.put,qsa,qsz,qss])
     refine wpAnyH_ready (rs:=[10]) (by kernel_rfl) (by simp) ?_
     refine AllReadyH.cons held_at10 (fun K hK=>?_) AllReadyH.nil
     (try simp only [qsa,qsz,qss])
     go_simp
     go_at_call 111
     refine (Hbe.out _).mono ?_
     rintro e wn ⟨rfl,hb⟩
     (first | replace X2:=qh (X2.out.move hb) | replace X2:=qh ((X2.out.drew _).move hb));(first | replace P2:=qh (P2.out.move hb) | replace P2:=qh ((P2.out.drew _).move hb));replace v0:=(hb.cell (p:=⟨b,_,none⟩) hlb2).trans v0;replace v1:=(hb.cell (p:=⟨b,_,none⟩) hlb2).trans v1;replace v2:=(hb.cell (p:=⟨b,_,none⟩) hlb2).trans v2;replace v3:=(hb.cell (p:=⟨b,_,none⟩) hlb2).trans v3;replace v4:=(hb.cell (p:=⟨b,_,none⟩) hlb2).trans v4;replace v5:=(hb.cell (p:=⟨b,_,none⟩) hlb2).trans v5;replace v6:=(hb.cell (p:=⟨b,_,none⟩) hlb2).trans v6;replace v7:=(hb.cell (p:=⟨b,_,none⟩) hlb2).trans v7;replace v8:=(hb.cell (p:=⟨b,_,none⟩) hlb2).trans v8;replace v9:=(hb.cell (p:=⟨b,_,none⟩) hlb2).trans v9;replace v10:=(hb.cell (p:=⟨b,_,none⟩) hlb2).trans v10;replace v11:=(hb.cell (p:=⟨b,_,none⟩) hlb2).trans v11;replace v12:=(hb.cell (p:=⟨b,_,none⟩) hlb2).trans v12;replace v13:=(hb.cell (p:=⟨b,_,none⟩) hlb2).trans v13;clear hb t0 d0 d1 d2 d3 d4 d5 d6 d7 d8 d9 d10 d11 d12 d13;have t0:=X2.out.whole.cell 0;simp only [qgz] at t0;obtain ⟨d0,d1,d2,d3,d4,d5,d6,d7,d8,d9,d10,d11,d12,d13⟩:=ch14 P2.out.whole.cell;simp only [qgz,qgs] at d0 d1 d2 d3 d4 d5 d6 d7 d8 d9 d10 d11 d12 d13
     refine hK.out _ _ (⟨t0,v0,v1,v2,v3,v4,v5,v6,v7,v8,v9,v10,v11,v12,v13,d0,d1,d2,d3,d4,d5,d6,d7,d8,d9,d10,d11,d12,d13⟩) (fun hHeld=>?_)
     clear hK K
     (try simp only [Act.put,qsa,qsz,qss])
     first|(refine tkA (v:=?_) held_at11 ?_ ?_;rotate_left;focus (intro _ h;(try dsimp only at h);go_simp;(try with_reducible rfl);done))|refine tkB held_at11 ?_
     (try simp only [Act.put,qsa,qsz,qss])
     first|(refine tkA (v:=?_) held_at12 ?_ ?_;rotate_left;focus (intro _ h;(try dsimp only at h);go_simp;(try with_reducible rfl);done))|refine tkB held_at12 ?_
     (try simp only [Act.put,qsa,qsz,qss])
     refine wpAnyH_done (by kernel_rfl) ?_ _
     (go_wp2;go_roundg (gk - 1);(case measure=>have:=Hj.out;omega);(case rel=>exact ⟨i+1+1,m+m',qh (by have:=Hj.out;omega),by go_num,by go_num,by omega,qh (by rw [Hcl.out,HX1.out,if_neg (by omega)]),X2⟩))
   have z1:(z != 0)=true:=by simpa using z0
   go_wp2_with (first | (go_at_call 110;refine (Hck.out _ HP1.out HS1.out).mono ?_;rintro e w2 ⟨rfl,hb2⟩;refine Hid.out ?_))
   refine qh ?_
   have P2:=qh (P1.out.move hb2)
   clear hb2
   go_wp2
   go_ret
   exact ⟨ret_int (by rw [HK1.out,Hcl.out,Hst.out,if_pos z0]),(XR.out.move P2.out.below).below⟩
  obtain rfl:n=j:=by have:=Hj.out;omega
  go_wp2
  go_ret
  exact ⟨ret_int (by rw [HK1.out,Hcl.out,ckT_done (by omega)]),XR.out.below⟩
end
section
open Go.RowKit Qm
theorem ckTree_len {ps:List Pk} (h:ckTree ps=0):ps.length<=8:=by
 unfold ckTree at h
 split at h
 ·cases h
 omega
structure Mx (w:World) (A:Option Addr) (n c:Nat) (av:List Value) (wr:World):Prop where
 below:Below w.heap.size w wr
 t:Whole wr w.heap.size 24 [.slice A n c]
 a:Whole wr (w.heap.size+1) 75 av
end
section
open Go.RowKit Qm
def RMem (w:World) (S:Nat->Prop) (x:List Value) (m:Mem):Prop:=∃ A n c,x=[.int .i64 m.pl,.slice A n c]/\n<=c/\c<=maxLen/\RBools w S A n m.on
def RSet (w:World) (S:Nat->Prop) (A:Option Addr) (n:Nat) (l:List Mem):Prop:=RSeq 2 (RMem w S) w S A n l
section
variable {w w' : World} {S S' : Nat → Prop} {A : Option Addr} {n : Nat} {l : List Mem} {x : List Value} {m : Mem}
theorem RMem.keep (h:RMem w S x m) (hw:∀ p:Addr,S p.block->w'.cell? p=w.cell? p):RMem w' S x m:=by
 obtain ⟨A,n,c,rfl,h1,h2,h3⟩:=h;exact ⟨A,n,c,rfl,h1,h2,Row.keep h3 hw⟩
theorem RMem.more (hS:∀ k,S k->S' k) (h:RMem w S x m):RMem w S' x m:=by
 obtain ⟨A,n,c,rfl,h1,h2,h3⟩:=h;exact ⟨A,n,c,rfl,h1,h2,Row.more h3 hS⟩
theorem RMem.under {B:Nat} (h:RMem w S x m) (hb:Below B w w') (hS:∀ k,S k->k<B):RMem w' S x m:=h.keep fun _ hp=>hb.cell (hS _ hp)
theorem RSet.len (h:RSet w S A n l):l.length=n:=RSeq.len h
theorem RSet.nil_:RSet w S A 0 []:=RSeq.nil_
theorem RSet.keep (h:RSet w S A n l) (hw:∀ p:Addr,S p.block->w'.cell? p=w.cell? p):RSet w' S A n l:=RSeq.keep h hw fun _ _ h=>h.keep hw
theorem RSet.more (hS:∀ k,S k->S' k) (h:RSet w S A n l):RSet w S' A n l:=RSeq.more hS h fun _ _ h=>h.more hS
theorem RSet.under {B:Nat} (h:RSet w S A n l) (hb:Below B w w') (hS:∀ k,S k->k<B):RSet w' S A n l:=h.keep fun _ hp=>hb.cell (hS _ hp)
theorem RSet.at_ (h:RSet w S A n l) {j:Nat} (hj:j<n) :
  ∃ b o m B k d,A=some ⟨b,o,none⟩/\S b/\l[j]? = some m/\k<=d/\d<=maxLen/\RBools w S B k m.on/\w.cell? ⟨b,o+j * 2,none⟩=some (.int .i64 m.pl)/\w.cell? ⟨b,o+j * 2+1,none⟩=some (.slice B k d):=by
 obtain ⟨b,o,x,m,hA,hb,hm,⟨B,k,d,rfl,h1,h2,h3⟩,_,hc⟩:=RSeq.at_ h hj (by decide)
 exact ⟨b,o,m,B,k,d,hA,hb,hm,h1,h2,h3,hc 0 (by decide),hc 1 (by decide)⟩
end
def atRow (a:At):List Value:=[.string ⟨a.nm.toArray⟩,.int .i64 a.op,.int .i64 a.ver,.int .i64 a.slot,.string ⟨a.fl.toArray⟩,.bool a.on]
def RAt (x:List Value) (a:At):Prop:=x=atRow a/\a.nm.length<=maxLen/\a.fl.length<=maxLen
def RPair (x:List Value) (q:Int×Int):Prop:=x=[.int .i64 q.1,.int .i64 q.2]
structure WsAt (w:World) (S:Nat->Prop) (A1:Option Addr) (n1 c1:Nat) (A2:Option Addr) (n2 c2:Nat) (A3:Option Addr) (n3 c3:Nat) (A4:Option Addr) (n4 c4:Nat) (v:Ws):Prop where
 h1:n1<=c1/\c1<=maxLen
 h2:n2<=c2/\c2<=maxLen
 h3:n3<=c3/\c3<=maxLen
 h4:n4<=c4/\c4<=maxLen
 ts:RSeq 6 RAt w S A1 n1 v.ts
 ins:RSet w S A2 n2 v.ins
 ms:RInts w S A3 n3 v.ms
 on:RSeq 2 RPair w S A4 n4 v.on
def wsRow (A1:Option Addr) (n1 c1:Nat) (A2:Option Addr) (n2 c2:Nat) (A3:Option Addr) (n3 c3:Nat) (A4:Option Addr) (n4 c4:Nat):List Value:=[.slice A1 n1 c1,.slice A2 n2 c2,.slice A3 n3 c3,.slice A4 n4 c4]
def RWs (w:World) (S:Nat->Prop) (x:List Value) (v:Ws):Prop:=∃ A1 n1 c1 A2 n2 c2 A3 n3 c3 A4 n4 c4,x=wsRow A1 n1 c1 A2 n2 c2 A3 n3 c3 A4 n4 c4/\WsAt w S A1 n1 c1 A2 n2 c2 A3 n3 c3 A4 n4 c4 v
section
variable {w w' : World} {S S' : Nat → Prop} {A1 A2 A3 A4 : Option Addr} {n1 c1 n2 c2 n3 c3 n4 c4 : Nat} {v : Ws}
theorem WsAt.keep (h:WsAt w S A1 n1 c1 A2 n2 c2 A3 n3 c3 A4 n4 c4 v) (hw:∀ p:Addr,S p.block->w'.cell? p=w.cell? p):WsAt w' S A1 n1 c1 A2 n2 c2 A3 n3 c3 A4 n4 c4 v:=
 ⟨h.h1,h.h2,h.h3,h.h4,h.ts.keep hw fun _ _ h=>h,h.ins.keep hw,Row.keep h.ms hw,h.on.keep hw fun _ _ h=>h⟩
theorem WsAt.more (hS:∀ k,S k->S' k) (h:WsAt w S A1 n1 c1 A2 n2 c2 A3 n3 c3 A4 n4 c4 v):WsAt w S' A1 n1 c1 A2 n2 c2 A3 n3 c3 A4 n4 c4 v:=
 ⟨h.h1,h.h2,h.h3,h.h4,RSeq.more hS h.ts fun _ _ h=>h,h.ins.more hS,Row.more h.ms hS,RSeq.more hS h.on fun _ _ h=>h⟩
theorem WsAt.under {B:Nat} (h:WsAt w S A1 n1 c1 A2 n2 c2 A3 n3 c3 A4 n4 c4 v) (hb:Below B w w') (hS:∀ k,S k->k<B):WsAt w' S A1 n1 c1 A2 n2 c2 A3 n3 c3 A4 n4 c4 v:=h.keep fun _ hp=>hb.cell (hS _ hp)
end
end
section
open Go.RowKit Qm
theorem pkOf_at {ps:List Pk} {j:Nat} {p:Pk} (h:ps[j]? = some p):pkOf ps (j:Int)=p:=by
 unfold pkOf
 rw [Int.toNat_natCast,qgd,h];rfl
structure Ib (w:World) (A:Option Addr) (n c:Nat) (mv av:List Value) (wx:World):Prop where
 t:Whole wx w.heap.size 24 [.slice A n c]
 m:Whole wx (w.heap.size+1) 85 mv
 a:Whole wx (w.heap.size+1+1) 75 av
 bel:Below w.heap.size w wx
theorem Ib.move {w:World} {A:Option Addr} {n c:Nat} {mv av:List Value} {wx wy:World} (h:Ib w A n c mv av wx) (hb:Below wx.heap.size wx wy):Ib w A n c mv av wy:=
 ⟨h.t.below hb h.t.lt,h.m.below hb h.m.lt,h.a.below hb h.a.lt,h.bel.trans (hb.mono h.bel.size)⟩
theorem Ib.new (w:World) (A:Option Addr) (n c:Nat) (mv av:List Value):Ib w A n c mv av (((w.alloc (.cells #[.slice A n c] 24)).alloc (.cells mv.toArray 85)).alloc (.cells av.toArray 75)):=
 ⟨((Whole.new w _ _ [.slice A n c] rfl).alloc _).alloc _,(Whole.new (w.alloc (.cells #[.slice A n c] 24)) (w.heap.size+1) _ mv (by simp)).alloc _,Whole.new ((w.alloc (.cells #[.slice A n c] 24)).alloc (.cells mv.toArray 85)) (w.heap.size+1+1) _ av (by simp),
  (((qbr _ w).alloc (qr _) _).alloc (by simp) _).alloc (by simp;omega) _⟩
end
end Go.Proofs.YtedbhlgjcnnknaaGreatDoor
