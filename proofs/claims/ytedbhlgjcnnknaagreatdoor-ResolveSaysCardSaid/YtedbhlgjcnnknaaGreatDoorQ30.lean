/- Parts. -/
import Derived.Test.YtedbhlgjcnnknaaGreatDoorQ29
import Derived.HandedShaped
import Derived.Handed
import Derived.Shelf.Vars
set_option linter.unusedVariables false
set_option linter.unusedSimpArgs false
set_option linter.unusedSectionVars false
set_option maxRecDepth 100000
set_option maxHeartbeats 12800000
namespace Go.Proofs.YtedbhlgjcnnknaaGreatDoor
section
open Go.ChangeShapes Go.WideShapes Go.ChangeAt Go.RowKit Qm
theorem rows_of {α:Type} {R:List Value->α->Prop}:∀ {rows:List (List Value)},(∀ x∈rows,∃ y,R x y)->∃ ys:List α,ys.length=rows.length/\∀ (j:Nat) (x:List Value) (y:α),rows[j]? = some x->ys[j]? = some y->R x y
 | [],_=>⟨[],rfl,fun j x y h=>by simp at h⟩
 | r :: rs,h=>by
  obtain ⟨y,hy⟩:=h r (List.mem_cons_self ..)
  obtain ⟨ks,h1,h2⟩:=rows_of (rows:=rs) fun x hx=>h x (List.mem_cons_of_mem _ hx)
  refine ⟨y :: ks,by simp [h1],fun j x' y' h3 h4=>?_⟩
  cases j with
  | zero =>
   simp only [qgz,Option.some.injEq] at h3 h4
   subst h3 h4;exact hy
  | succ j=>rw [qgs] at h3 h4;exact h2 j x' y' h3 h4
theorem flat_ones {α:Type} {f:α->Value}:∀ {cs:List (List Value)} {ys:List α},cs.length=ys.length->(∀ (j:Nat) (x:List Value) (y:α),cs[j]? = some x->ys[j]? = some y->x=[f y])->cs.flatten=ys.map f
 | [],[],_,_=>rfl
 | [],_ :: _,h,_=>by simp at h
 | _ :: _,[],h,_=>by simp at h
 | r :: rs,y :: ys,h,hR=>by
  rw [List.flatten_cons,hR 0 r y rfl rfl,flat_ones (f:=f) (cs:=rs) (ys:=ys) (by simpa using h) fun j x z h1 h2=>hR (j+1) x z (by simpa using h1) (by simpa using h2)];rfl
section
variable {H:Type} {enc:TypeId×Value->H} {w:World} {base fuel:Nat} {sp:Nat->Bool} {held:Bool} {cs:List Value} {v:Value} {x:DataW H×List MemPlace} {r:Reach} {b0:Nat} {d:DataW H} {p:List MemPlace}
theorem open_seq {α:Type} {R:List Value->α->Prop} {t e:TypeId} {K:Nat} (ht:Tryz.prog.underlying t=some (.slice e)) (hK:Tryz.prog.cellsOf e=K) (hK0:0<K)
  (h:DataW.trod enc Tryz.prog w base sp held fuel t [v]=some x) (hR:∀ m (x:List Value) y,m<fuel->DataW.trod enc Tryz.prog w base sp held m e x=some y->∃ z,R x z) :
  ∃ (A:Option Addr) (n c:Nat) (ys:List α),v=.slice A n c/\n<=c/\c<=maxLen/\RSeq K R w (fun k=>k<w.heap.size) A n ys:=by
 obtain ⟨A,n,c,cs,rfl,h1,h2,h3,h4,h5⟩:=slice_items ht hK hK0 h
 obtain ⟨ys,k1,k2⟩:=rows_of (R:=R) (rows:=cs) fun x hx=>by
  obtain ⟨_,m,y,hm,hy⟩:=h5 x hx
  exact hR m x y hm hy
 exact ⟨A,n,c,ys,rfl,h1,h2,cs,by omega,h3,h4,fun x hx=>(h5 x hx).1,k2⟩
theorem open_words (h:DataW.trod enc Tryz.prog w base sp held fuel 96 [v]=some x) :
  ∃ (A:Option Addr) (n c:Nat) (fs:List Qm.W),v=.slice A n c/\n<=c/\c<=maxLen/\RWords w (fun k=>k<w.heap.size) A n fs:=by
 obtain ⟨A,n,c,ys,rfl,h1,h2,cs,hy,hc,hrow,hK,hR⟩:=open_seq (R:=fun x (f:Qm.W)=>x=[.string ⟨f.toArray⟩]/\f.length<=maxLen) Tryz.underlying96 (K:=1) (by kernel_rfl) (by decide) h fun m x y _ hxy=>by
  obtain ⟨s,e,_,hs⟩:=DataW.trod_string Tryz.underlying9 hxy
  exact ⟨s.data.toList,by rw [e,<- bs_list],by rw [<- Lib.size_eq];exact hs⟩
 refine ⟨A,n,c,ys,rfl,h1,h2, ?_,fun f hf=>?_⟩
 ·have e:cs.flatten=strs ys:=flat_ones (by omega) fun j x y h1 h2=>(hR j x y h1 h2).1
  rw [<- e]
  simpa using hrow
 obtain ⟨j,hj,rfl⟩:=List.mem_iff_getElem.1 hf
 exact (hR j (cs[j]'(by omega)) _ (qge (by omega)) (qge hj)).2
theorem package_cells (h:DataW.trod enc Tryz.prog w base sp held fuel 101 cs=some x) :
  ∃ p,RPk w (fun k=>k<w.heap.size) cs p:=by
 have hT:=Tryz.underlying101
 obtain ⟨xs,n,hfu,_,hlen,hxl,hx⟩:=DataW.trod_struct hT h
 have hl:cs.length=14:=by rw [hlen];kernel_rfl
 obtain ⟨c0,n0,y0,e0,k0⟩:=field_cell hT h 0 rfl (by kernel_rfl) (of_decide_eq_true (by kernel_rfl))
 obtain ⟨c1,n1,y1,e1,k1⟩:=field_cell hT h 1 rfl (by kernel_rfl) (of_decide_eq_true (by kernel_rfl))
 obtain ⟨c2,n2,y2,e2,k2⟩:=field_cell hT h 2 rfl (by kernel_rfl) (of_decide_eq_true (by kernel_rfl))
 obtain ⟨c3,n3,y3,e3,k3⟩:=field_cell hT h 3 rfl (by kernel_rfl) (of_decide_eq_true (by kernel_rfl))
 have h4:=hx 4 _ rfl
 have hxs:xs.length=5:=hxl
 rw [qge (by omega)] at h4
 obtain ⟨s,rfl,hs⟩:=str_one Tryz.underlying9 k0
 obtain ⟨ver,rfl,_⟩:=int_oneA Tryz.underlying3 k1
 obtain ⟨slot,rfl,_⟩:=int_oneA Tryz.underlying3 k2
 obtain ⟨A,m,c,fs,rfl,hm,hc,hfs⟩:=open_words k3
 obtain ⟨nd,hnd⟩:=need_cells _ _ _ h4
 refine ⟨⟨s.data.toList,ver,slot,fs,nd⟩,A,m,c,(cs.drop 4).take 10, ?_,hm,hc,by rw [<- Lib.size_eq];exact hs,hfs,hnd⟩
 match cs,hl with
 | [d0,d1,d2,d3,d4,d5,d6,d7,d8,d9,d10,d11,d12,d13],_ =>
  have e0':d0=.string s:=by simpa using e0
  have e1':d1=.int .i64 ver:=by simpa using e1
  have e2':d2=.int .i64 slot:=by simpa using e2
  have e3':d3=.slice A m c:=by simpa using e3
  subst e0' e1' e2' e3'
  simp [pkRow,<- bs_list]
theorem tree_cells (h:DataW.trod enc Tryz.prog w base sp held fuel 24 cs=some x) :
  ∃ (A:Option Addr) (n c:Nat) (ps:List Pk),cs=[.slice A n c]/\n<=c/\c<=maxLen/\RTree w (fun k=>k<w.heap.size) A n ps:=by
 have hT:=Tryz.underlying24
 obtain ⟨xs,n,hfu,_,hlen,hxl,hx⟩:=DataW.trod_struct hT h
 have hl:cs.length=1:=by rw [hlen];kernel_rfl
 obtain ⟨c0,n0,y0,e0,k0⟩:=field_cell hT h 0 rfl (by kernel_rfl) (of_decide_eq_true (by kernel_rfl))
 obtain ⟨A,m,c,ps,rfl,hm,hc,hps⟩:=open_seq (R:=RPk w (fun k=>k<w.heap.size)) Tryz.underlying22 (K:=14) (by kernel_rfl) (by decide) k0 fun m x y _ hxy=>package_cells hxy
 refine ⟨A,m,c,ps, ?_,hm,hc,hps⟩
 match cs,hl with
 | [d0],_=>simp at e0;rw [e0]
theorem open_tree (hv:Value.okWide Tryz.prog w r b0 24 v) (h:DataW.Trod enc Tryz.prog w base sp held 24 v d p) :
  ∃ (A:Option Addr) (n c:Nat) (ps:List Pk),v=.agg #[.slice A n c]/\n<=c/\c<=maxLen/\RTree w (fun k=>k<w.heap.size) A n ps:=by
 obtain ⟨cs,rfl,_⟩:=okWide_struct Tryz.underlying24 hv
 obtain ⟨fuel,hf⟩:=h
 obtain ⟨A,n,c,ps,e,h1,h2,h3⟩:=tree_cells hf
 refine ⟨A,n,c,ps, ?_,h1,h2,h3⟩
 obtain ⟨l⟩:=cs
 simp only [Value.cells] at e
 subst e
 rfl
theorem open_ones {α:Type} {f:α->Value} {t e:TypeId} (ht:Tryz.prog.underlying t=some (.slice e)) (hK:Tryz.prog.cellsOf e=1)
  (h:DataW.trod enc Tryz.prog w base sp held fuel t [v]=some x) (hR:∀ m (x:List Value) y,m<fuel->DataW.trod enc Tryz.prog w base sp held m e x=some y->∃ z,x=[f z]) :
  ∃ (A:Option Addr) (n c:Nat) (ys:List α),v=.slice A n c/\n<=c/\c<=maxLen/\Row w (fun k=>k<w.heap.size) A n (ys.map f):=by
 obtain ⟨A,n,c,ys,rfl,h1,h2,cs,hy,hc,hrow,_,hr⟩:=open_seq (R:=fun x z=>x=[f z]) ht hK (by decide) h hR
 refine ⟨A,n,c,ys,rfl,h1,h2, ?_⟩
 rw [<- flat_ones (by omega) hr]
 simpa using hrow
theorem open_boolsV (h:DataW.trod enc Tryz.prog w base sp held fuel 40 [v]=some x) :
  ∃ (A:Option Addr) (n c:Nat) (ys:List Bool),v=.slice A n c/\n<=c/\c<=maxLen/\RBools w (fun k=>k<w.heap.size) A n ys:=
 open_ones (f:=Value.bool) Tryz.underlying40 (by kernel_rfl) h fun m x y _ hxy=>by
  obtain ⟨b,e,_⟩:=DataW.trod_bool Tryz.underlying4 hxy
  exact ⟨b,e⟩
theorem open_intsV (h:DataW.trod enc Tryz.prog w base sp held fuel 27 [v]=some x) :
  ∃ (A:Option Addr) (n c:Nat) (ys:List Int),v=.slice A n c/\n<=c/\c<=maxLen/\RInts w (fun k=>k<w.heap.size) A n ys:=
 open_ones (f:=Value.int .i64) Tryz.underlying27 (by kernel_rfl) h fun m x y _ hxy=>by
  obtain ⟨b,e,_⟩:=DataW.trod_int Tryz.underlying3 hxy
  exact ⟨b,e⟩
theorem member_cells (h:DataW.trod enc Tryz.prog w base sp held fuel 85 cs=some x) :
  ∃ m,RMem w (fun k=>k<w.heap.size) cs m:=by
 have hT:=Tryz.underlying85
 obtain ⟨xs,n,hfu,_,hlen,hxl,hx⟩:=DataW.trod_struct hT h
 have hl:cs.length=2:=by rw [hlen];kernel_rfl
 obtain ⟨c0,n0,y0,e0,k0⟩:=field_cell hT h 0 rfl (by kernel_rfl) (of_decide_eq_true (by kernel_rfl))
 obtain ⟨c1,n1,y1,e1,k1⟩:=field_cell hT h 1 rfl (by kernel_rfl) (of_decide_eq_true (by kernel_rfl))
 obtain ⟨pl,rfl,_⟩:=int_oneA Tryz.underlying3 k0
 obtain ⟨A,m,c,on,rfl,hm,hc,hon⟩:=open_boolsV k1
 refine ⟨⟨pl,on⟩,A,m,c, ?_,hm,hc,hon⟩
 match cs,hl with
 | [d0,d1],_ =>
  have e0':d0=.int .i64 pl:=by simpa using e0
  have e1':d1=.slice A m c:=by simpa using e1
  subst e0' e1';rfl
theorem open_setV (h:DataW.trod enc Tryz.prog w base sp held fuel 26 [v]=some x) :
  ∃ (A:Option Addr) (n c:Nat) (l:List Mem),v=.slice A n c/\n<=c/\c<=maxLen/\RSet w (fun k=>k<w.heap.size) A n l:=by
 obtain ⟨A,n,c,l,e,h1,h2,h3⟩:=open_seq (R:=RMem w (fun k=>k<w.heap.size)) Tryz.underlying26 (K:=2) (by kernel_rfl) (by decide) h fun m x y _ hxy=>member_cells hxy
 exact ⟨A,n,c,l,e,h1,h2,h3⟩
theorem pair_cells (h:DataW.trod enc Tryz.prog w base sp held fuel 86 cs=some x):∃ q,RPair cs q:=by
 obtain ⟨xs,m,_,ex,hlen,hl,hel⟩:=DataW.trod_array Tryz.underlying86 h
 have c1:Tryz.prog.cellsOf 3=1:=by kernel_rfl
 have c2:Tryz.prog.cellsOf 86=2:=by kernel_rfl
 rw [c2] at hlen
 have h0:=hel 0 (by decide)
 have h1:=hel 1 (by decide)
 rw [c1,qge (by omega)] at h0 h1
 match cs,hlen with
 | [a,b],_ =>
  obtain ⟨x0,rfl,_⟩:=int_oneA Tryz.underlying3 (c:=a) h0
  obtain ⟨x1,rfl,_⟩:=int_oneA Tryz.underlying3 (c:=b) h1
  exact ⟨(x0,x1),rfl⟩
theorem wish_cells (h:DataW.trod enc Tryz.prog w base sp held fuel 30 cs=some x) :
  ∃ v,RWs w (fun k=>k<w.heap.size) cs v:=by
 have hT:=Tryz.underlying30
 obtain ⟨xs,n,hfu,_,hlen,hxl,hx⟩:=DataW.trod_struct hT h
 have hl:cs.length=4:=by rw [hlen];kernel_rfl
 obtain ⟨d0,n0,y0,e0,k0⟩:=field_cell hT h 0 rfl (by kernel_rfl) (of_decide_eq_true (by kernel_rfl))
 obtain ⟨d1,n1,y1,e1,k1⟩:=field_cell hT h 1 rfl (by kernel_rfl) (of_decide_eq_true (by kernel_rfl))
 obtain ⟨d2,n2,y2,e2,k2⟩:=field_cell hT h 2 rfl (by kernel_rfl) (of_decide_eq_true (by kernel_rfl))
 obtain ⟨d3,n3,y3,e3,k3⟩:=field_cell hT h 3 rfl (by kernel_rfl) (of_decide_eq_true (by kernel_rfl))
 obtain ⟨A1,m1,c1,ts,rfl,a1,a2,a3⟩:=open_seq (R:=RAt) Tryz.underlying25 (K:=6) (by kernel_rfl) (by decide) k0 fun m x y _ hxy=>by
  obtain ⟨s,f,op,ver,slot,on,rfl,hs,hf,_⟩:=atom_cells hxy
  exact ⟨⟨s.data.toList,op,ver,slot,f.data.toList,on⟩,by unfold atRow;rw [<- bs_list,<- bs_list],by rw [<- Lib.size_eq];exact hs,by rw [<- Lib.size_eq];exact hf⟩
 obtain ⟨A2,m2,c2,ins,rfl,b1,b2,b3⟩:=open_setV k1
 obtain ⟨A3,m3,c3,ms,rfl,g1,g2,g3⟩:=open_intsV k2
 obtain ⟨A4,m4,c4,on,rfl,f1,f2,f3⟩:=open_seq (R:=RPair) Tryz.underlying28 (K:=2) (by kernel_rfl) (by decide) k3 fun m x y _ hxy=>pair_cells hxy
 refine ⟨⟨ts,ins,ms,on⟩,A1,m1,c1,A2,m2,c2,A3,m3,c3,A4,m4,c4, ?_,⟨⟨a1,a2⟩,⟨b1,b2⟩,⟨g1,g2⟩,⟨f1,f2⟩,a3,b3,g3,f3⟩⟩
 match cs,hl with
 | [z0,z1,z2,z3],_ =>
  have e0':z0=.slice A1 m1 c1:=by simpa using e0
  have e1':z1=.slice A2 m2 c2:=by simpa using e1
  have e2':z2=.slice A3 m3 c3:=by simpa using e2
  have e3':z3=.slice A4 m4 c4:=by simpa using e3
  subst e0' e1' e2' e3';rfl
theorem open_wish (hv:Value.okWide Tryz.prog w r b0 30 v) (h:DataW.Trod enc Tryz.prog w base sp held 30 v d p) :
  ∃ A1 n1 c1 A2 n2 c2 A3 n3 c3 A4 n4 c4 u,v=.agg #[.slice A1 n1 c1,.slice A2 n2 c2,.slice A3 n3 c3,.slice A4 n4 c4]/\WsAt w (fun k=>k<w.heap.size) A1 n1 c1 A2 n2 c2 A3 n3 c3 A4 n4 c4 u:=by
 obtain ⟨cs,rfl,_⟩:=okWide_struct Tryz.underlying30 hv
 obtain ⟨fuel,hf⟩:=h
 obtain ⟨u,A1,n1,c1,A2,n2,c2,A3,n3,c3,A4,n4,c4,e,hu⟩:=wish_cells hf
 refine ⟨A1,n1,c1,A2,n2,c2,A3,n3,c3,A4,n4,c4,u, ?_,hu⟩
 obtain ⟨l⟩:=cs
 simp only [Value.cells,wsRow] at e
 subst e
 rfl
end
end
section
open Go.ChangeShapes Go.WideShapes Go.RowKit
variable {H : Type} {enc : TypeId × Value → H}
theorem handed_laid_shaped {a:Assume} {C:Checked} {os:Os} {f:FuncId} {fn:Func} {s:ChangeSpec} {conds:List PathCond} {apart fresh handsOn again:Bool} {X:World->Array Value->Prop}
  (hX:∀ (w w':World) (args:Array Value),w.heap=w'.heap->X w args->X w' args)
  (own:ownKnob C.prog.godebug=none) (started:os.Started) (noInit:C.prog.inits.idxOf? f=none) (hfn:C.prog.funcs[f]? = some fn)
  (witness:∃ (w:World) (tape:Tape) (i:Input),w.os=os/\(w.forCall tape i).Shaped C.prog/\i.vars=[]/\Input.okWide C.prog (w.forCall tape i) .any w.heap.size f i /\
   ((s.pre enc C.prog fn conds apart (w.forCall tape i).memory i.args/\X (w.forCall tape i).memory i.args)/\sizedMet enc C.prog fn (OpenSpec.ofChange s) apart (w.forCall tape i).memory i.args)/\a.holds C.prog (lone (Frame.enter C.prog f i.args .normal) [] (w.forCall tape i)))
  (walk:∀ (W:World) (base:Nat) (args:Array Value) (ds gs:List (DataW H)) (before:List MemPlace),
   (∀ (j:Nat) t v,fn.params[j]? = some t->args[j]? = some v->Value.okWide C.prog W .any base t v) ->
   DataW.Whole enc C.prog fn.params.toList s.vars apart W args.toList ds gs before ->
   (DataW.weightsEach C.prog (fn.params.toList++s.plain.varTypes C.prog) (ds++gs)).all (· <= reachBytes)=true->X W args->W.ShapedOpen C.prog ->
   Calls C.prog f args W fun e W'=>∃ v,e=.returned v/\s.post enc C.prog fn apart fresh handsOn again W args v W') :
  ReturnsInHanded a C os f .any (fun w args=>(s.pre enc C.prog fn conds apart w args/\X w args)/\sizedMet enc C.prog fn (OpenSpec.ofChange s) apart w args) (s.post enc C.prog fn apart fresh handsOn again):=
 returnsInHanded_of_calls own started noInit witness fun w tape i _ hsh _ hok hpre _=>by
  obtain ⟨_,_,_,fn',hfn',_,_,_,_,hval⟩:=hok
  obtain rfl:fn'=fn:=Option.some.inj (hfn'.symm.trans hfn)
  obtain ⟨⟨⟨ds,gs,before,hw,_⟩,hx⟩,hz⟩:=hpre
  refine (walk (w.forCall tape i) w.heap.size i.args ds gs before hval (DataW.Whole.of_heap (w':=w.forCall tape i) (by rfl) hw) (hz.weights hw) (hX _ _ _ (by rfl) hx) hsh).mono ?_
  rintro e W' ⟨v,rfl,hp⟩
  exact ChangeSpec.post_blind hp
end
end Go.Proofs.YtedbhlgjcnnknaaGreatDoor
