/- Parts. -/
import Derived.Test.YtedbhlgjcnnknaaGreatDoorQ27
import Derived.Deep.RegionLaw
import Derived.Deep.Cut
import Derived.Lib.ParseIntBTie
import Derived.Lib.IndexMore
set_option linter.unusedVariables false
set_option linter.unusedSimpArgs false
set_option linter.unusedSectionVars false
set_option maxRecDepth 100000
set_option maxHeartbeats 12800000
namespace Go.Proofs.YtedbhlgjcnnknaaGreatDoor
section
open Go.RowKit Qm
structure Gone (K:Qm.W->Bool) (l:List Qm.W) (left:Lit->Bool):Prop where
 nodup:l.Nodup
 short:∀ x∈l,x.length<=maxLen
 sub:∀ x:Qm.W,x.length<=maxLen->left (.string x)=true->K x=true/\x ∉ l
 all:∀ x:Qm.W,x.length<=maxLen->K x=true->x∈l\/left (.string x)=true
 got:∀ x∈l,K x=true
theorem Gone.start {D:DataW Unit} {K:Qm.W->Bool} (h:∀ x:Qm.W,x.length<=maxLen->Maps.has D (.string x)=K x):Gone K [] (Maps.has D):=
 ⟨List.nodup_nil,fun _ h=>by simp at h,fun x hx e=>⟨by rw [<- h x hx];exact e,by simp⟩,fun x hx e=>.inr (by rw [h x hx];exact e),fun _ h=>by simp at h⟩
theorem Gone.step {K:Qm.W->Bool} {l:List Qm.W} {left:Lit->Bool} (h:Gone K l left) {x:Qm.W} (hx:x.length<=maxLen) (hl:left (.string x)=true):Gone K (l++[x]) (fun z=>left z && !z.sameKey (.string x)):=by
 obtain ⟨hk,hn⟩:=h.sub x hx hl
 have hs:∀ y:Qm.W,(Lit.string y).sameKey (.string x)=decide (y=x):=fun y=>by
  by_cases e:y=x <;> simp [Lit.sameKey,e]
 refine ⟨List.nodup_append.2 ⟨h.nodup,by simp,fun a ha b hb=>?_⟩,fun y hy=>?_,fun y hy e=>?_,fun y hy e=>?_,fun y hy=>?_⟩
 ·obtain rfl:b=x:=by simpa using hb
  exact fun e=>hn (e ▸ ha)
 ·rcases List.mem_append.1 hy with h1 | h1
  ·exact h.short y h1
  obtain rfl:y=x:=by simpa using h1
  exact hx
 ·simp only [hs,Bool.and_eq_true,Bool.not_eq_true',decide_eq_false_iff_not] at e
  obtain ⟨k1,k2⟩:=h.sub y hy e.1
  exact ⟨k1,by simp [k2,e.2]⟩
 ·rcases h.all y hy e with h1 | h1
  ·exact .inl (List.mem_append.2 (.inl h1))
  by_cases ex:y=x
  ·exact .inl (by simp [ex])
  exact .inr (by simp [hs,h1,ex])
 rcases List.mem_append.1 hy with h1 | h1
 ·exact h.got y h1
 obtain rfl:y=x:=by simpa using h1
 exact hk
theorem Gone.done {K:Qm.W->Bool} {l:List Qm.W} {left:Lit->Bool} (h:Gone K l left) (h0:∀ kl,left kl=false) {x:Qm.W} (hx:x.length<=maxLen):x∈l↔K x=true:=
 ⟨h.got x,fun e=>(h.all x hx e).resolve_right (by rw [h0];simp)⟩
end
section
open Go.RowKit Qm
open Go.Maps (Keyed)
theorem wpList_next_ranges_sb {P:Program} (w:World) {ops:Array Oper} {rest:List Oper} {o:Oper} {a:Act} {Q:Exit->Act->World->Prop}
  (hg:o.guard=none) (it:Operand) (hop:o.op=Op.next it false) (k e:TypeId) (K:Keyed P k) (hk:P.underlying k=some .string) (he:P.underlying e=some .bool)
  (b r n:Nat) (D:DataW Unit) (left:Lit->Bool) (cnt:Nat) (hit:a.eval it=.pointer (some ⟨r,0,none⟩)) (h:w.ranges P k (plainElem P e) b r n D left cnt)
  (hDone:cnt=0->(∀ kl,left kl=false)->wpList P ops Q rest (a.put o.dst (.tuple #[.bool false])) w)
  (hMore:∀ (x:Qm.W) (c:Value) (w':World) (cnt':Nat),x.length<=maxLen->left (.string x)=true->w'.ranges P k (plainElem P e) b r n D (fun z=>left z && !z.sameKey (.string x)) cnt'->cnt'<cnt ->
   w.grownBy w' (some r)->w'.heap.size=w.heap.size->(Instr.entry (.pointer (some ⟨r,0,none⟩))).run P w'=.ok (.tuple #[.string ⟨x.toArray⟩,c]) w'->wpList P ops Q rest (a.put o.dst (.tuple #[.bool true,.string ⟨x.toArray⟩,c])) w') :
  wpList P ops Q (o :: rest) a w:=
 wpList_next_ranges w hg it hop k K (plainElem P e) Value.string Value.bool (fun key kl hkey=>by obtain ⟨x,rfl,_⟩:=WideMaps.string_of_keyOf hk hkey;exact ⟨x,rfl⟩)
  (fun v y hv=>by
   unfold plainElem at hv
   rw [he] at hv
   cases v <;> simp at hv
   exact ⟨_,rfl⟩)
  b r n D left cnt hit h hDone (fun x c kl y w' cnt' hkey hlk hv hat hrg hlt hgr hsz hen=>by
   obtain ⟨x',ex,rfl,hwx⟩:=WideMaps.string_of_keyOf hk hkey
   cases ex
   have e1:(⟨x.data.toList.toArray⟩:ByteArray)=x:=by simp
   have hm:=hMore x.data.toList (.bool c) w' cnt' (by rw [<- Lib.size_eq];exact hwx) hlk hrg hlt hgr hsz
   rw [e1] at hm
   exact hm hen)
end
section
open Go.RowKit Qm
open Go.Maps (Keyed)
structure Fz (w:World) (b r m:Nat) (D:DataW Unit) (K:Qm.W->Bool) (l:List Qm.W) (A:Option Addr) (c:Nat) (left:Lit->Bool) (cnt:Nat) (wr:World):Prop where
 rg:wr.ranges Tryz.prog 9 (plainElem Tryz.prog 4) b r m D left cnt
 gone:Gone K l left
 own:wr.ownsRow (r+1) 9 1 (.slice A l.length c) l.length (strs l)
 bel:Below w.heap.size w wr
 lb:w.heap.size<=b/\w.heap.size<=r
 cnt_:l.length+cnt<=m
theorem strs_snoc (l:List Qm.W) (x:Qm.W):strs (l++[x])=strs l++[.string ⟨x.toArray⟩]:=by simp [strs]
theorem Fz.step {w wr w1 w2:World} {b r m:Nat} {D:DataW Unit} {K:Qm.W->Bool} {l:List Qm.W} {A A':Option Addr} {c c':Nat} {left:Lit->Bool} {cnt cnt':Nat} (h:Fz w b r m D K l A c left cnt wr) {x:Qm.W} (hx:x.length<=maxLen) (hl:left (.string x)=true)
  (hrg:w1.ranges Tryz.prog 9 (plainElem Tryz.prog 4) b r m D (fun z=>left z && !z.sameKey (.string x)) cnt') (hlt:cnt'<cnt) (hg:wr.grownBy w1 (some r)) (hsz:w1.heap.size=wr.heap.size)
  (hown:w2.ownsRow (r+1) 9 1 (.slice A' (l.length+1) c') (l.length+1) (strs l++[.string ⟨x.toArray⟩])) (o:Obj) (hg2:(w1.alloc o).grownBy w2 (Value.slice A l.length c).ownBlock) :
  Fz w b r m D K (l++[x]) A' c' (fun z=>left z && !z.sameKey (.string x)) cnt' w2:=by
 have hr:=h.rg.lt
 have hb:=h.rg.owns.lt
 have hne:=h.rg.ne
 have hob:∀ i,(Value.slice A l.length c).ownBlock=some i->r+1<=i:=fun i e=>(h.own.lt i e).1
 have hbne:some b≠(Value.slice A l.length c).ownBlock:=fun e=>by
  rcases h.own.2 with ⟨e0,_⟩ | ⟨g,cap,cur,hv,hg1,hg2,_⟩
  ·rw [e0] at e;cases e
  rw [hv] at e
  simp only [Value.ownBlock] at e
  injection e with e
  subst e
  obtain ⟨es,clock,_,_,_,hbb,_⟩:=h.rg
  rw [hbb] at hg2
  cases hg2
 have hrne:some r≠(Value.slice A l.length c).ownBlock:=fun e=>by have:=hob r e.symm;omega
 refine ⟨(hrg.alloc o).kept hg2 hbne hrne,h.gone.step hx hl, ?_, ?_,h.lb, ?_⟩
 ·rw [strs_snoc];simpa using hown
 ·have b1:Below w.heap.size wr w1:=below_of_grown hg (qlt h.bel.size (qr _)) fun i e=>by injection e with e;have:=h.lb.2;omega
  have b2:Below w.heap.size w1 (w1.alloc o):=(qbr _ _).alloc (by have:=h.bel.size;omega) _
  have b3:Below w.heap.size (w1.alloc o) w2:=below_of_grown hg2 (by simp;have:=h.bel.size;omega) fun i e=>by have:=hob i e;have:=h.lb.2;omega
  exact ((h.bel.trans b1).trans b2).trans b3
 simp only [List.length_append,List.length_cons,List.length_nil];have:=h.cnt_;omega
theorem new1 (w:World) (x:Value) (t:TypeId):∀ j u,[x][j]? = some u->(w.alloc (.cells #[x] t)).cell? ((⟨w.heap.size,0,none⟩:Addr).add j)=some u:=by
 intro j u hj
 have h:=(Whole.new w w.heap.size t [x] rfl).cell j
 have hadd:(⟨w.heap.size,0,none⟩:Addr).add j=⟨w.heap.size,j,none⟩:=by unfold Addr.add;split <;> simp_all
 rw [hadd,<- hj,<- h]
theorem RKids.each {w:World} {S:Nat->Prop} {A:Option Addr} {n:Nat} {ks:List Nd} (h:RKids w S A n ks):∀ y∈ks,∃ x,RNd w S x y:=by
 intro y hy
 obtain ⟨j,hj,e⟩:=List.mem_iff_getElem.1 hy
 obtain ⟨b,o,x,y',_,_,hy',hr,_⟩:=h.at_ (j:=j) (by rw [<- h.len];exact hj)
 rw [qge hj,e] at hy'
 injection hy' with hy'
 subst hy'
 exact ⟨x,hr⟩
theorem RNd.flags_len {w:World} {S:Nat->Prop}:∀ (y:Nd) (x:List Value),RNd w S x y->∀ f∈flagsN y,f.length<=maxLen:=by
 refine Nd.ind fun k a f no ks ih=>?_
 intro x h
 obtain ⟨A,n,c,rfl,_,_,_,_,h3,hK⟩:=h.open_
 have hL:∀ (l:List Nd),(∀ y∈l,∀ g∈flagsN y,g.length<=maxLen)->∀ g∈flagsL l,g.length<=maxLen:=by
  intro l
  induction l with
  | nil=>intro _ g hg;simp [flagsL] at hg
  | cons k r ihr =>
   intro hh g hg
   simp only [flagsL,List.mem_append] at hg
   rcases hg with hg | hg
   ·exact hh k (List.mem_cons_self ..) g hg
   exact ihr (fun y hy=>hh y (List.mem_cons_of_mem _ hy)) g hg
 intro g hg
 have hfn:flagsN (.mk k a f no ks)=(if k=5 then [f] else [])++flagsL ks:=rfl
 rw [hfn,List.mem_append] at hg
 rcases hg with hg | hg
 ·split at hg
  ·simp only [List.mem_singleton] at hg;subst hg;exact h3
  simp at hg
 exact hL ks (fun y hy=>by obtain ⟨x,hx⟩:=hK.each y hy;exact ih y hy x hx) g hg
theorem sortStrings_nil (w:World):Calls Tryz.prog 121 #[.slice none 0 0] w fun e w'=>e=.returned (.tuple #[])/\w'=w:=by
 have hs1:=Tryz.slices_Sort_string_none none 0 w
 go_enter Tryz.func121,Tryz.ntmps121
 go_wp2_with (first | (go_at_call 140;refine hs1.mono ?_;rintro e w1 ⟨rfl,rfl⟩))
 go_end0
 exact ⟨rfl,rfl⟩
def RFlagsPost (w:World) (y:Nd) (e:Ending) (w':World):Prop:=
 ∃ A c,e=.returned (.slice A (Lib.compact (sortW (flagsN y))).length c)/\Row w' (fun i=>w.heap.size<=i/\i<w'.heap.size) A (Lib.compact (sortW (flagsN y))).length (strs (Lib.compact (sortW (flagsN y))))/\(Lib.compact (sortW (flagsN y))).length<=c/\c<=maxLen/\Below w.heap.size w w'
theorem str_info:(Tryz.prog.info? 9).map (fun i=>(i.zero,i.size,i.bytes))=some (some (.string ⟨#[]⟩),1,16):=by kernel_rfl
theorem rflags_any (y:Nd) (S:Nat->Prop) (x:List Value) (w:World) (hR:RNd w S x y) (hS:∀ k,S k->k<w.heap.size) (hlen:(flagsN y).length<=10000) :
  Calls Tryz.prog 91 #[.agg x.toArray] w (RFlagsPost w y):=by
 have Hfc:=qh (fun BM BF b wx h1 h2 h3=>rflagsC_any y S x BM BF b (fun _=>false) 0 wx h1 h2 h3 (by omega))
 unfold RFlagsPost
 have HFL:=qh (hR.flags_len)
 obtain ⟨fs,hfs⟩:∃ fs,flagsN y=fs:=⟨_,rfl⟩
 rw [hfs] at Hfc hlen HFL ⊢
 obtain ⟨k,a,f,no,ks⟩:=y
 obtain ⟨A,n,c,rfl,-⟩:=hR.open_
 have HR:=qh hR;have HS:=qh hS
 clear hR hS hfs
 obtain ⟨nm,op,ver,slot,fl,on⟩:=a
 unfold ndRow at Hfc HR ⊢
 have henter:∀ (args:Array Value) (W:World),(callFunc 120 args).run Tryz.prog W=.ok (.enter 120 args) W:=fun args W=>by kernel_rfl
 obtain ⟨i0,hi,hz0,hz1,hz2⟩:∃ i0,Tryz.prog.info? 9=some i0/\i0.zero=some (.string ⟨#[]⟩)/\i0.size=1/\i0.bytes=16:=by
  have h:=str_info
  cases hh:Tryz.prog.info? 9 with
  | none=>rw [hh] at h;simp at h
  | some i=>rw [hh] at h;simp at h;exact ⟨i,rfl,h.1,h.2.1,h.2.2⟩
 have Hi:=qh hi;have Hz0:=qh hz0;have Hz1:=qh hz1;have Hz2:=qh hz2
 clear hi hz0 hz1 hz2
 have hmm:=@run_makeMap Tryz.prog
 have hb4:Below w.heap.size w ((((w.alloc (.cells #[.int .i64 k,.string ⟨nm.toArray⟩,.int .i64 op,.int .i64 ver,.int .i64 slot,.string ⟨fl.toArray⟩,.bool on,.string ⟨f.toArray⟩,.bool no,.slice A n c] 99)).alloc (.map #[] 0)).alloc (.cells #[.map (some (w.heap.size+1))] 150)).alloc (.cells #[.func (.func 120) #[] #[.pointer (some ⟨w.heap.size+1+1,0,none⟩),.pointer (some ⟨w.heap.size+1+1+1,0,none⟩)]] 170)):=(((qbr _ w).alloc (qr _) _).alloc (by simp) _).alloc (by simp;omega) _ |>.alloc (by simp;omega) _
 have hF0:Fm (w.heap.size+1+1) (w.heap.size+1+1+1) (w.heap.size+1) (fun _=>false) 0 ((((w.alloc (.cells #[.int .i64 k,.string ⟨nm.toArray⟩,.int .i64 op,.int .i64 ver,.int .i64 slot,.string ⟨fl.toArray⟩,.bool on,.string ⟨f.toArray⟩,.bool no,.slice A n c] 99)).alloc (.map #[] 0)).alloc (.cells #[.map (some (w.heap.size+1))] 150)).alloc (.cells #[.func (.func 120) #[] #[.pointer (some ⟨w.heap.size+1+1,0,none⟩),.pointer (some ⟨w.heap.size+1+1+1,0,none⟩)]] 170)):=by
  refine ⟨(Whole.new _ _ _ [.map (some (w.heap.size+1))] (by simp)).alloc _,Whole.new _ _ _ [_] (by simp), ?_,by omega,by omega⟩
  have hset:=StrSet.made Tryz.prog (w.alloc (.cells #[.int .i64 k,.string ⟨nm.toArray⟩,.int .i64 op,.int .i64 ver,.int .i64 slot,.string ⟨fl.toArray⟩,.bool on,.string ⟨f.toArray⟩,.bool no,.slice A n c] 99))
  rw [show (w.alloc (.cells #[.int .i64 k,.string ⟨nm.toArray⟩,.int .i64 op,.int .i64 ver,.int .i64 slot,.string ⟨fl.toArray⟩,.bool on,.string ⟨f.toArray⟩,.bool no,.slice A n c] 99)).heap.size=w.heap.size+1 by simp] at hset
  exact (hset.kept (World.grownBy_alloc _ _ none) (by simp)).kept (World.grownBy_alloc _ _ none) (by simp)
 have Hcall:=qh (Hfc.out _ _ _ _ (HR.out.under hb4 HS.out) (fun q hq=>⟨ql (HS.out q hq) hb4.size,by have:=HS.out q hq;omega⟩) hF0)
 have HB4:=qh hb4
 clear hb4 hF0 Hfc HR
 go_enter Tryz.func91,Tryz.ntmps91
 go_wp2_with (first | (go_at_call 120;refine Hcall.out.mono ?_;rintro e w1 ⟨K,m,rfl,hF1,hf1,hk1,hm1⟩;refine Hid.out ?_))
 refine qh ?_
 have HB1:Hid (Below w.heap.size w w1):=qh (HB4.out.trans (hf1.below HB4.out.size fun i e=>by omega))
 have HK1:=qh hk1
 obtain ⟨D,hown,hsz,hD⟩:=hF1.set
 have HO:=qh hown
 have HG:Hid (Gone K [] (Maps.has D)):=qh (Gone.start fun x hx=>(hD x hx).1)
 have HZ:=qh hsz
 have HM1:=qh hm1
 have m0:=hF1.mp.cell 0
 have m1:=hF1.mp.lt
 simp only [qgz] at m0
 clear Hcall HB4 hF1 hf1 hk1 hm1 hown hsz hD hmm henter
 go_wp2_with (first
  | (at_range;refine wpList_range_own _ rfl _ 150 rfl 9 4 (Maps.string_keyed Tryz.underlying9) Tryz.underlying150 _ (w.heap.size+1) m D rfl HO.out ?_;intro w0 hrg0 hg0 hs0)
  | go_in)
 go_frame
 have HRG:=qh hrg0
 have HB0:Hid (Below w.heap.size w w0):=qh (HB1.out.trans (below_of_grown hg0 HB1.out.size fun i e=>by cases e))
 clear hrg0 hg0 hs0 m0 m1
 go_loopw [5,6] (fun lv _ wr=>∃ (l:List Qm.W) (A':Option Addr) (c':Nat) (left:Lit->Bool) (cnt:Nat),Hid (Fz w (w.heap.size+1) w1.heap.size m D K l A' c' left cnt wr)/\lv=.slice A' l.length c') (fun _ _ wr=>wr.rangeLeft (w.heap.size+1) w1.heap.size)
 case atStart =>
  refine ⟨[],none,0,_,_,qh ⟨HRG.out,HG.out,World.ownsRow_nil _ _ _ _,HB0.out,⟨by omega,HB1.out.size⟩, ?_⟩,rfl⟩
  rw [HZ.out];simp
 case round =>
  obtain ⟨l,A',c',left,cnt,HF,rfl⟩:=hrel
  have hrg:=HF.out.rg
  have hrlt:=hrg.lt
  go_wp2_with (first
   | (at_next;refine wpList_next_ranges_sb _ rfl _ rfl 9 4 (Maps.string_keyed Tryz.underlying9) Tryz.underlying9 Tryz.underlying4 (w.heap.size+1) w1.heap.size m D left cnt rfl hrg ?_ ?_)
   | go_in)
  ·intro hc0 hl0
   have hdone:Hid (∀ x:Qm.W,x.length<=maxLen->(x∈l↔K x=true)):=qh fun x hx=>HF.out.gone.done hl0 hx
   have hcl:Hid (l.length<=m):=qh (by have:=HF.out.cnt_;omega)
   have hsame:Hid (Lib.compact (sortW fs)=sortW l):=qh (flags_same HF.out.gone.nodup fun x=>⟨fun h=>by
    have h1:=HF.out.gone.got x h
    rw [HK1.out] at h1
    simpa using h1,fun h=>(hdone.out x (HFL.out x h)).2 (by rw [HK1.out];simpa using h)⟩).symm
   have hsl:(sortW l).length=l.length:=by unfold sortW;rw [List.length_mergeSort]
   clear hrg
   rcases HF.out.own.2 with ⟨hv,hn0⟩ | ⟨g,cap,cur,hv,hg1,hg2,hg3⟩
   ·injection hv with e1 e2 e3
    subst e1 e3
    obtain rfl:l=[]:=List.eq_nil_of_length_eq_zero e2
    clear hn0 e2
    have hs1:=sortStrings_nil wr
    simp only [List.length_nil]
    go_wp2_with (first | (go_at_call 121;refine hs1.mono ?_;rintro e w5 ⟨rfl,rfl⟩))
    go_ret
    refine ⟨none,0, ?_, ?_, ?_,Nat.zero_le _, ?_⟩
    ·rw [hsame.out,hsl];rfl
    ·have h0:sortW ([]:List Qm.W)=[]:=List.eq_nil_of_length_eq_zero hsl
     rw [hsame.out,h0];exact Row.nil_
    ·rw [hsame.out,hsl];exact qr _
    exact HF.out.bel
   injection hv with e1 e2 e3
   subst e1 e3
   clear hg2 hg3
   have Hso:=qh (sortStrings_any (w1.heap.size+1) g l.length c' l wr HF.out.own (by have:=hcl.out;have:=HM1.out;simp at this;omega))
   go_wp2_with (first | (go_at_call 121;refine Hso.out.mono ?_;rintro e w5 ⟨rfl,hown5,hf5⟩;refine Hid.out ?_))
   refine qh ?_
   go_wp2
   go_ret
   obtain ⟨_,_,he,h1,h2,_⟩:=own_form hown5
   injection he with _ _ he
   subst he
   have hb5:Below w.heap.size w w5:=HF.out.bel.trans (hf5.below HF.out.bel.size fun i e=>by have:=HF.out.lb.2;omega)
   refine ⟨some ⟨g,0,none⟩,c', ?_, ?_, ?_,h2,hb5⟩
   ·rw [hsame.out,hsl];rfl
   ·rw [hsame.out,hsl];exact (own_row hown5).more fun i hi=>by have:=HF.out.lb.2;omega
   rw [hsame.out,hsl];exact h1
  intro x cv w2 cnt2 hx hlx hrg2 hlt2 hg2 hs2 hen
  have HO2:Hid (w2.ownsRow (w1.heap.size+1) 9 1 (.slice A' l.length c') l.length (strs l)):=qh (HF.out.own.kept hg2 (by
   by_cases h:(Value.slice A' l.length c').ownBlock=some w1.heap.size
   ·have:=(HF.out.own.lt _ h).1;omega
   exact .inr h))
  have hl10:l.length+1<=100000:=by have:=HF.out.cnt_;have:=HM1.out;simp at this;omega
  have HRG2:=qh hrg2;have HLX:=qh hlx;have HG2:=qh hg2;have HS2:=qh hs2;have HX:=qh hx
  have hw2:w1.heap.size+1<=w2.heap.size:=by omega
  clear hrg2 hrg hg2 hs2 hlx hx
  go_wp2_with (first
   | (at_builtin;refine wpList_append_own_at _ rfl (.tmp 18) (.tmp 20) 96 rfl (w1.heap.size+1) 9 i0 (.string ⟨#[]⟩) 1 16 Tryz.underlying96 Hi.out Hz0.out Hz1.out Hz2.out rfl (by decide) (.slice A' l.length c') l.length (strs l) rfl (HO2.out.kept (World.grownBy_alloc _ _ none) (by cases hv:(Value.slice A' l.length c').ownBlock <;> simp)) ⟨w2.heap.size,0,none⟩ 1 1 [.string ⟨x.toArray⟩] rfl rfl (new1 _ _ _) (by simp [Value.oneCell']) (by unfold maxLen;omega) (by omega) (by simp;omega) ?_)
   | go_in)
  intro v' w3 hown3 hg3 _ _
  obtain ⟨A3,c3,rfl,_⟩:=own_formK hown3
  have HF3:=qh (HF.out.step HX.out HLX.out HRG2.out hlt2 HG2.out HS2.out hown3 _ hg3)
  clear hown3 hg3
  go_wp2_with fail
  go_roundw
  case rel=>exact ⟨l++[x],A3,c3,_,cnt2,HF3,by simp⟩
  case measure=>rw [HF3.out.rg.left_eq,HF.out.rg.left_eq];exact hlt2
end
end Go.Proofs.YtedbhlgjcnnknaaGreatDoor

namespace Qm
open Go
structure Fr where
 k:Int
 f:W
 no:Bool
 ys:List Nd
end Qm

namespace Go.Proofs.YtedbhlgjcnnknaaGreatDoor
section
open Go.RowKit Qm
abbrev Hd:=Option Addr×Nat
def obs (A:Option Addr) (hs:List Hd):List Nat:=(A :: hs.map (·.1)).filterMap fun a=>a.map (·.block)
def frow (g:Fr) (h:Hd):List Value:=ndRow g.k At.zero g.f g.no h.1 g.ys.length h.2
def frows:List Fr->List Hd->List Value
 | g :: gs,h :: hs=>frows gs hs++frow g h
 | _,_=>[]
def KidOk (wx:World) (B:Nat) (F:Nat->Prop) (g:Fr) (h:Hd):Prop:=
 ∃ cs:List (List Value),cs.length=g.ys.length/\wx.ownsRow B 99 10 (.slice h.1 g.ys.length h.2) g.ys.length cs.flatten /\
  (∀ (i:Nat) (x:List Value) (y:Nd),cs[i]? = some x->g.ys[i]? = some y->RNd wx F x y)/\g.f.length<=maxLen
def KidsOk (wx:World) (B:Nat) (F:Nat->Prop):List Fr->List Hd->Prop
 | [],[]=>True
 | g :: gs,h :: hs=>KidOk wx B F g h/\KidsOk wx B F gs hs
 | _,_=>False
def Fre (wx:World) (B:Nat) (A:Option Addr) (hs:List Hd) (i:Nat):Prop:=B<=i/\i<wx.heap.size/\i ∉ obs A hs
structure Op (B:Nat) (fs:List Fr) (hs:List Hd) (A:Option Addr) (c:Nat) (wx:World):Prop where
 own:wx.ownsRow B 99 10 (.slice A fs.length c) fs.length (frows fs hs)
 kids:KidsOk wx B (Fre wx B A hs) fs hs
 nodup:(obs A hs).Nodup
section
variable {wx wy : World} {B : Nat} {F F' : Nat → Prop} {g : Fr} {gs fs : List Fr} {h : Hd} {hs : List Hd} {A : Option Addr} {c : Nat}
end
end
section
open Go.RowKit Qm
section
variable {B BO BW c : Nat} {fs : List Fr} {hs : List Hd} {A : Option Addr} {wh : Value} {w w' : World}
end
structure Aft (B BO BW:Nat) (g:Fr) (gs:List Fr) (hd:Hd) (hs:List Hd) (b c:Nat) (wh:Value) (w wx w8:World):Prop where
 op:Op B (g :: gs) (hd :: hs) (some ⟨b,0,none⟩) c wx
 lt:b<w8.heap.size
 cell:w8.cell? ⟨b,gs.length * 10+9,none⟩=some (.slice hd.1 g.ys.length hd.2)
 free:w8.frozen? ⟨b,gs.length * 10+9,none⟩=false
 far:Far (fun i=>B<=i) w w8
end
section
open Go.RowKit Qm Go.ChangeMaps
end
section
open Go.RowKit Qm
end
section
open Go.RowKit Qm
section
variable {w wx : World} {op ver slot : Int} {f : ByteArray} {on : Bool}
end
end
section
open Go.RowKit Qm
structure Rw (w:World) (ws:List Qm.W) (wx:World):Prop where
 res:Whole wx w.heap.size 99 [.int .i64 0,.string ⟨#[]⟩,.int .i64 0,.int .i64 0,.int .i64 0,.string ⟨#[]⟩,.bool false,.string ⟨#[]⟩,.bool false,.slice none 0 0]
 words:Whole wx (w.heap.size+1+1+1) 9 (strs ws)
 bel:Below w.heap.size w wx
 sz:w.heap.size+1+1+1+1<=wx.heap.size
section
variable {w wx wy : World} {ws : List Qm.W}
end
structure Oaf (BO b8 m nb:Nat) (v:Value) (row:List Value) (w8:World):Prop where
 cell:∀ i,i<10->w8.cell? ⟨b8,m * 10+i,none⟩=([.int .i64 0,.string ⟨#[]⟩,.int .i64 0,.int .i64 0,.int .i64 0,.string ⟨#[]⟩,.bool false,.string ⟨#[]⟩,.bool false,.slice none 0 0]:List Value)[i]? /\ w8.frozen? ⟨b8,m * 10+i,none⟩=false
 lt:b8<w8.heap.size
 n:Whole w8 nb 99 row
 o:Whole w8 BO 97 [v]
 ne:b8≠BO
end
section
open Go.RowKit Qm
def loopIn:Code->Option Code
 | .loop b=>some b
 | .seq a b=>match loopIn a with | some x=>some x | none=>loopIn b
 | .block _ c=>loopIn c
 | .cond _ a b=>match loopIn a with | some x=>some x | none=>loopIn b
 | .scope c=>loopIn c
 | _=>none
def roundOf (f:Func):Code:=match f.body with | some c=>(match loopIn c with | some b=>b | none=>.skip) | none=>.skip
end
section
open Go.RowKit Qm
def ctFrame (w:World) (A:Option Addr) (n c:Nat) (u2 u3 u4 u5 u6 u7 u8 u10 u11 u19 u20 u21 u22 u23 u24 u25 u26 u27 u28 u29 u30 u31 u32 u33 u34 u35 u36 u37 u38 u39 u40 u41 u42 u43 u44 u45 u46 u47 u48 u49 u50 u51 u52 u53 u54 u55 u56 u57 u58 u59 u60 u61 u62 u63 u64 u65 u66 u67 u68 u69 u70 u71 u72 u73 u74 u75 u76 u77 u78 u79 u80 u81 u82 u83 u84 u85 u86 u87 u88 u89 u90 u91 u92 u93 u94 u95 u96 u97 u98 u99 u100 u101 u102 u103 u104 u105 u106 u107 u108 u109 u110 u111 u112 u113 u114 u115 u116 u117 u118 u119 u120 u121 u122 u123 u124 u125 u126 u127 u128 u129 u130 u131 u132 u133 u134 u135 u136 u137 u138 u139:Value):Act:={ tmps:=#[Value.agg #[Value.slice A n c],Value.pointer (some { block:=w.heap.size,off:=0 }),u2,u3,u4,u5,u6,u7,u8,undef,u10,u11,Value.pointer (some { block:=w.heap.size,off:=0 }),Value.slice A n c,Value.int IntKind.i64 ↑n,Value.bool false,Value.pointer (some { block:=w.heap.size,off:=0 }),Value.slice A n c,Value.int IntKind.i64 ↑n,u19,u20,u21,u22,u23,u24,u25,u26,u27,u28,u29,u30,u31,u32,u33,u34,u35,u36,u37,u38,u39,u40,u41,u42,u43,u44,u45,u46,u47,u48,u49,u50,u51,u52,u53,u54,u55,u56,u57,u58,u59,u60,u61,u62,u63,u64,u65,u66,u67,u68,u69,u70,u71,u72,u73,u74,u75,u76,u77,u78,u79,u80,u81,u82,u83,u84,u85,u86,u87,u88,u89,u90,u91,u92,u93,u94,u95,u96,u97,u98,u99,u100,u101,u102,u103,u104,u105,u106,u107,u108,u109,u110,u111,u112,u113,u114,u115,u116,u117,u118,u119,u120,u121,u122,u123,u124,u125,u126,u127,u128,u129,u130,u131,u132,u133,u134,u135,u136,u137,u138,u139],defers:=[] }
def ctJ (w:World) (A:Option Addr) (n c:Nat) (ps:List Pk) (J:Nat->Act->World->Prop):Prop:=∀ (k:Nat) (a':Act) (w':World),(∃ u2 u3 u4 u5 u6 u7 u8 u10 u11 u19 u20 u21 u22 u23 u24 u25 u26 u27 u28 u29 u30 u31 u32 u33 u34 u35 u36 u37 u38 u39 u40 u41 u42 u43 u44 u45 u46 u47 u48 u49 u50 u51 u52 u53 u54 u55 u56 u57 u58 u59 u60 u61 u62 u63 u64 u65 u66 u67 u68 u69 u70 u71 u72 u73 u74 u75 u76 u77 u78 u79 u80 u81 u82 u83 u84 u85 u86 u87 u88 u89 u90 u91 u92 u93 u94 u95 u96 u97 u98 u99 u100 u101 u102 u103 u104 u105 u106 u107 u108 u109 u110 u111 u112 u113 u114 u115 u116 u117 u118 u119 u120 u121 u122 u123 u124 u125 u126 u127 u128 u129 u130 u131 u132 u133 u134 u135 u136 u137 u138 u139:Value,(∃ j m:Nat,Hid (j+k=n)/\u19=Value.int IntKind.i64 ↑j/\u3=Value.int IntKind.i64 ↑m/\n+m<=14/\Hid (ckT none n ps=ckT (prevOf ps j) (n+m) (ps.drop j))/\Hid (Tx w A n c w'))/\a'=ctFrame w A n c u2 u3 u4 u5 u6 u7 u8 u10 u11 u19 u20 u21 u22 u23 u24 u25 u26 u27 u28 u29 u30 u31 u32 u33 u34 u35 u36 u37 u38 u39 u40 u41 u42 u43 u44 u45 u46 u47 u48 u49 u50 u51 u52 u53 u54 u55 u56 u57 u58 u59 u60 u61 u62 u63 u64 u65 u66 u67 u68 u69 u70 u71 u72 u73 u74 u75 u76 u77 u78 u79 u80 u81 u82 u83 u84 u85 u86 u87 u88 u89 u90 u91 u92 u93 u94 u95 u96 u97 u98 u99 u100 u101 u102 u103 u104 u105 u106 u107 u108 u109 u110 u111 u112 u113 u114 u115 u116 u117 u118 u119 u120 u121 u122 u123 u124 u125 u126 u127 u128 u129 u130 u131 u132 u133 u134 u135 u136 u137 u138 u139)->J k a' w'
theorem badPk_lt {u p:Pk} (h:p.nm<u.nm):badPk (some u) p=true:=by
 have h1:¬ u.nm<p.nm:=List.not_lt.2 (List.le_of_lt h)
 have h2:u.nm≠p.nm:=fun e=>List.lt_irrefl _ (e ▸ h)
 simp [badPk,beforeP,h1,h2]
theorem badPk_eq {u p:Pk} (h:p.nm=u.nm):badPk (some u) p=decide (p.ver<=u.ver):=by
 have h1:¬ u.nm<p.nm:=by rw [h];exact List.lt_irrefl _
 have e:decide (u.nm=p.nm)=true:=qdt h.symm
 simp only [badPk,beforeP,e,qdf h1,Bool.false_or,Bool.true_and]
 by_cases hv:u.ver<p.ver
 ·rw [qdt hv,qdf (by omega)];rfl
 rw [qdf hv,qdt (by omega)];rfl
theorem badPk_gt {u p:Pk} (h1:¬ p.nm<u.nm) (h2:p.nm≠u.nm):badPk (some u) p=false:=by
 have h:u.nm<p.nm:=by
  refine Classical.byContradiction fun hn=>h2 (List.le_antisymm (List.not_lt.1 hn) (List.not_lt.1 h1))
 simp [badPk,beforeP,h]
end
section
open Go.RowKit Qm
theorem rct_round (ps:List Pk) (S:Nat->Prop) (A:Option Addr) (n c:Nat) (w:World) (HT:Hid (RTree w S A n ps)) (hnc:n<=c) (hc:c<=2 ^ 63 - 1) (HS:Hid (∀ k,S k->k<w.heap.size)) (R:Int) (HK1:Hid (R=ckT none n ps))
  (gko:Nat) (wo:World) (u2 u4 u5 u6 u7 u8 u10 u11 u20 u21 u22 u23 u24 u25 u26 u27 u28 u29 u30 u31 u32 u33 u34 u35 u36 u37 u38 u39 u40 u41 u42 u43 u44 u45 u46 u47 u48 u49 u50 u51 u52 u53 u54 u55 u56 u57 u58 u59 u60 u61 u62 u63 u64 u65 u66 u67 u68 u69 u70 u71 u72 u73 u74 u75 u76 u77 u78 u79 u80 u81 u82 u83 u84 u85 u86 u87 u88 u89 u90 u91 u92 u93 u94 u95 u96 u97 u98 u99 u100 u101 u102 u103 u104 u105 u106 u107 u108 u109 u110 u111 u112 u113 u114 u115 u116 u117 u118 u119 u120 u121 u122 u123 u124 u125 u126 u127 u128 u129 u130 u131 u132 u133 u134 u135 u136 u137 u138 u139:Value) (J:Nat->Act->World->Prop) (K K1:Act->World->Prop) (hJ:ctJ w A n c ps J) (hK:∀ (a':Act) (w':World),Handed J gko a' w'->K a' w')
  (j m:Nat) (Hj:Hid (j+gko=n)) (hm:n+m<=14) (Hcl:Hid (ckT none n ps=ckT (prevOf ps j) (n+m) (ps.drop j))) (XR:Hid (Tx w A n c wo)) (hj:j<n) :
  Code.wp Tryz.prog (roundOf Tryz.f65) (Exit.then K (Exit.inBlock 0 (Exit.then K1 (bodyPost Tryz.prog Tryz.f65 (fun e w'=>e=.returned (.int .i64 R)/\Below w.heap.size w w'))))) (ctFrame w A n c u2 (.int .i64 m) u4 u5 u6 u7 u8 u10 u11 (.int .i64 j) u20 u21 u22 u23 u24 u25 u26 u27 u28 u29 u30 u31 u32 u33 u34 u35 u36 u37 u38 u39 u40 u41 u42 u43 u44 u45 u46 u47 u48 u49 u50 u51 u52 u53 u54 u55 u56 u57 u58 u59 u60 u61 u62 u63 u64 u65 u66 u67 u68 u69 u70 u71 u72 u73 u74 u75 u76 u77 u78 u79 u80 u81 u82 u83 u84 u85 u86 u87 u88 u89 u90 u91 u92 u93 u94 u95 u96 u97 u98 u99 u100 u101 u102 u103 u104 u105 u106 u107 u108 u109 u110 u111 u112 u113 u114 u115 u116 u117 u118 u119 u120 u121 u122 u123 u124 u125 u126 u127 u128 u129 u130 u131 u132 u133 u134 u135 u136 u137 u138 u139) wo:=by
 obtain ⟨b,o,p,B,m',c',k,a,f,no,D,q,d,rfl,hbS,hp,hP,hcell⟩:=(HT.out.under XR.out.below HS.out).at_ hj
 have t0:=XR.out.whole.cell 0
 simp only [qgz] at t0
 have Hst:=qh (ckT_step (n:=n+m) hp)
 have hlb:b<wo.heap.size:=ql (HS.out _ hbS) XR.out.below.size
 have hlt0:=XR.out.whole.lt
 obtain ⟨g0,g1,g2,g3,g4,g5,g6,g7,g8,g9,g10,g11,g12,g13⟩:=cb14 hcell (by decide)
 unfold pkRow ndRow at g0 g1 g2 g3 g4 g5 g6 g7 g8 g9 g10 g11 g12 g13
 simp only [qgz,qgs,Nat.add_zero] at g0 g1 g2 g3 g4 g5 g6 g7 g8 g9 g10 g11 g12 g13
 have hnd:=hP.nd
 have hdec:∃ k2 a2 f2 no2 ks2,p.nd=.mk k2 a2 f2 no2 ks2:=by cases p.nd;exact ⟨_,_,_,_,_,rfl⟩
 obtain ⟨nm,ver,slot,fs,nd⟩:=p
 obtain ⟨k2,a2,f2,no2,ks2,hnd2⟩:=hdec
 dsimp only at hnd2 hnd
 subst hnd2
 obtain ⟨D',q',d',hrow,-⟩:=hnd.open_
 unfold ndRow at hrow
 obtain ⟨rfl,rfl,rfl,rfl,rfl,rfl,rfl,-⟩:k2=k/\a2=a/\f2=f/\no2=no/\D'=D/\q'=q/\d'=d/\True:=by
  simp only [List.cons.injEq,Value.int.injEq,Value.string.injEq,Value.bool.injEq,Value.slice.injEq,and_true,true_and] at hrow
  obtain ⟨h1,h2,h3,h4,h5,h6,h7,h8,h9,h10,h11,h12⟩:=hrow
  refine ⟨h1.symm, ?_, ?_,h9.symm,h10.symm,h11.symm,h12.symm,trivial⟩
  ·cases a;cases a2;simp_all
  simp_all
 have HKp:Hid (ckPk ⟨nm,ver,slot,fs,.mk k2 a2 f2 no2 ks2⟩=if isName nm=false then 1 else if ver<1\/99<ver\/slot<1\/9<slot then 3 else if 2<fs.length then 2 else if ckFlags none fs≠0 then ckFlags none fs
  else if k2≠3 then 4 else if ckNeed (.mk k2 a2 f2 no2 ks2)≠0 then ckNeed (.mk k2 a2 f2 no2 ks2) else if (flagsN (.mk k2 a2 f2 no2 ks2)).all (fun f=>fs.contains f)=true then 0 else 5):=qh rfl
 generalize ckPk _=Rk at HKp Hst
 have HB:Hid (∀ q,Rk=q->q≠0->q=R):=qh fun q h h0=>by rw [HK1.out,Hcl.out,Hst.out,if_pos (by rw [h];exact h0)];exact h.symm
 have hrf:=fun (h0:ckNeed (.mk k2 a2 f2 no2 ks2)=0) wx h1 h2=>rflags_any (.mk k2 a2 f2 no2 ks2) S (ndRow k2 a2 f2 no2 D' q' d') wx h1 h2 (by have:=flagsN_le (.mk k2 a2 f2 no2 ks2);have:=(ckNeed_zero h0).2.1;omega)
 unfold RFlagsPost at hrf
 have hck:=fun wx h1 h2=>rcheckNeed_any (.mk k2 a2 f2 no2 ks2) S (ndRow k2 a2 f2 no2 D' q' d') wx h1 h2
 have hA:=fun (h:ckNeed (.mk k2 a2 f2 no2 ks2)=0) p=>flP_all (y:=.mk k2 a2 f2 no2 ks2) h p
 have hflp:ckNeed (.mk k2 a2 f2 no2 ks2)=0->flP (.mk k2 a2 f2 no2 ks2)=Lib.compact (sortW (flagsN (.mk k2 a2 f2 no2 ks2))):=fun h=>by unfold flP;rw [if_pos h]
 generalize flP (.mk k2 a2 f2 no2 ks2)=fl0 at hA hflp
 generalize Lib.compact (sortW (flagsN (.mk k2 a2 f2 no2 ks2)))=fl at hrf hflp
 generalize flagsN (.mk k2 a2 f2 no2 ks2)=fn at hA HKp
 generalize ckNeed (.mk k2 a2 f2 no2 ks2)=z at hrf hck hA HKp hflp
 have HA:Hid (z=0->∀ p,fl.all p=fn.all p):=qh fun h p=>by rw [<- hflp h];exact hA h p
 have HND:=qh hP.nd
 have hln:fs.length=m':=hP.fs.len
 have P0:=qh (Pb.new wo (pkRow ⟨nm,ver,slot,fs,.mk k2 a2 f2 no2 ks2⟩ B m' c' (ndRow k2 a2 f2 no2 D' q' d')))
 have Hna:Hid (∀ wx,Calls Tryz.prog 89 #[.string ⟨nm.toArray⟩] wx fun e w'=>e=.returned (.bool (isName nm))/\Below wx.heap.size wx w'):=qh fun wx=>rname_any ⟨nm.toArray⟩ wx (by rw [bsz];exact hP.nm)
 have HFS:=qh hP.fs
 have hcap:=hP.cap
 have hmax:=hP.max
 unfold maxLen at hmax
 unfold pkRow at P0
 unfold ndRow at P0 hrf hck HND
 dsimp only at P0 HFS HND
 have HSr:Hid (∀ k,S k->k<wo.heap.size):=qh fun k hk=>ql (HS.out k hk) XR.out.below.size
 have Hrf:=qh hrf;have Hck:=qh hck
 clear hrf hck hA hflp hnd hP hcell hrow hp
 cases hn:isName nm
 ·rw [hn] at Hna
  unfold ctJ ctFrame at hJ
  unfold ctFrame
  show Code.wp Tryz.prog (Code.seq _ _) _ _ _
  go_wp2_with (first | (go_at_call 89;refine (Hna.out _).mono ?_;rintro e w1 ⟨rfl,hb1⟩;refine Hid.out ?_))
  refine qh ?_
  have P1:=qh (P0.out.move hb1)
  clear hb1
  obtain ⟨d0,d1,d2,d3,d4,d5,d6,d7,d8,d9,d10,d11,d12,d13⟩:=ch14 P1.out.whole.cell
  simp only [qgz,qgs] at d0 d1 d2 d3 d4 d5 d6 d7 d8 d9 d10 d11 d12 d13
  have hlt:=P1.out.whole.lt
  go_wp2
  go_ret
  exact ⟨ret_int (HB.out 1 (by rw [HKp.out,if_pos hn]) (by decide)),(XR.out.move P1.out.below).below⟩
 rw [hn] at Hna
 by_cases v1:ver<1
 ·skip
  unfold ctJ ctFrame at hJ
  unfold ctFrame
  show Code.wp Tryz.prog (Code.seq _ _) _ _ _
  go_wp2_with (first | (go_at_call 89;refine (Hna.out _).mono ?_;rintro e w1 ⟨rfl,hb1⟩;refine Hid.out ?_))
  refine qh ?_
  have P1:=qh (P0.out.move hb1)
  clear hb1
  obtain ⟨d0,d1,d2,d3,d4,d5,d6,d7,d8,d9,d10,d11,d12,d13⟩:=ch14 P1.out.whole.cell
  simp only [qgz,qgs] at d0 d1 d2 d3 d4 d5 d6 d7 d8 d9 d10 d11 d12 d13
  have hlt:=P1.out.whole.lt
  go_wp2
  go_ret
  exact ⟨ret_int (HB.out 3 (by rw [HKp.out,if_neg (by simp [hn]),if_pos (by omega)]) (by decide)),(XR.out.move P1.out.below).below⟩
 have v1':decide (ver<1)=false:=by simpa using v1
 by_cases v2:99<ver
 ·skip
  unfold ctJ ctFrame at hJ
  unfold ctFrame
  show Code.wp Tryz.prog (Code.seq _ _) _ _ _
  go_wp2_with (first | (go_at_call 89;refine (Hna.out _).mono ?_;rintro e w1 ⟨rfl,hb1⟩;refine Hid.out ?_))
  refine qh ?_
  have P1:=qh (P0.out.move hb1)
  clear hb1
  obtain ⟨d0,d1,d2,d3,d4,d5,d6,d7,d8,d9,d10,d11,d12,d13⟩:=ch14 P1.out.whole.cell
  simp only [qgz,qgs] at d0 d1 d2 d3 d4 d5 d6 d7 d8 d9 d10 d11 d12 d13
  have hlt:=P1.out.whole.lt
  go_wp2
  go_ret
  exact ⟨ret_int (HB.out 3 (by rw [HKp.out,if_neg (by simp [hn]),if_pos (by omega)]) (by decide)),(XR.out.move P1.out.below).below⟩
 have v2':decide (99<ver)=false:=by simpa using v2
 by_cases s1:slot<1
 ·skip
  unfold ctJ ctFrame at hJ
  unfold ctFrame
  show Code.wp Tryz.prog (Code.seq _ _) _ _ _
  go_wp2_with (first | (go_at_call 89;refine (Hna.out _).mono ?_;rintro e w1 ⟨rfl,hb1⟩;refine Hid.out ?_))
  refine qh ?_
  have P1:=qh (P0.out.move hb1)
  clear hb1
  obtain ⟨d0,d1,d2,d3,d4,d5,d6,d7,d8,d9,d10,d11,d12,d13⟩:=ch14 P1.out.whole.cell
  simp only [qgz,qgs] at d0 d1 d2 d3 d4 d5 d6 d7 d8 d9 d10 d11 d12 d13
  have hlt:=P1.out.whole.lt
  go_wp2
  go_ret
  exact ⟨ret_int (HB.out 3 (by rw [HKp.out,if_neg (by simp [hn]),if_pos (by omega)]) (by decide)),(XR.out.move P1.out.below).below⟩
 have s1':decide (slot<1)=false:=by simpa using s1
 by_cases s2:9<slot
 ·skip
  unfold ctJ ctFrame at hJ
  unfold ctFrame
  show Code.wp Tryz.prog (Code.seq _ _) _ _ _
  go_wp2_with (first | (go_at_call 89;refine (Hna.out _).mono ?_;rintro e w1 ⟨rfl,hb1⟩;refine Hid.out ?_))
  refine qh ?_
  have P1:=qh (P0.out.move hb1)
  clear hb1
  obtain ⟨d0,d1,d2,d3,d4,d5,d6,d7,d8,d9,d10,d11,d12,d13⟩:=ch14 P1.out.whole.cell
  simp only [qgz,qgs] at d0 d1 d2 d3 d4 d5 d6 d7 d8 d9 d10 d11 d12 d13
  have hlt:=P1.out.whole.lt
  go_wp2
  go_ret
  exact ⟨ret_int (HB.out 3 (by rw [HKp.out,if_neg (by simp [hn]),if_pos (by omega)]) (by decide)),(XR.out.move P1.out.below).below⟩
 have s2':decide (9<slot)=false:=by simpa using s2
 have HKp1:Hid (Rk=if 2<fs.length then 2 else if ckFlags none fs≠0 then ckFlags none fs
  else if k2≠3 then 4 else if z≠0 then z else if fn.all (fun f=>fs.contains f)=true then 0 else 5):=qh (by rw [HKp.out,if_neg (by simp [hn]),if_neg (by omega)])
 clear HKp
 by_cases n2:(2:Int)<m'
 ·skip
  unfold ctJ ctFrame at hJ
  unfold ctFrame
  show Code.wp Tryz.prog (Code.seq _ _) _ _ _
  go_wp2_with (first | (go_at_call 89;refine (Hna.out _).mono ?_;rintro e w1 ⟨rfl,hb1⟩;refine Hid.out ?_))
  refine qh ?_
  have P1:=qh (P0.out.move hb1)
  clear hb1
  obtain ⟨d0,d1,d2,d3,d4,d5,d6,d7,d8,d9,d10,d11,d12,d13⟩:=ch14 P1.out.whole.cell
  simp only [qgz,qgs] at d0 d1 d2 d3 d4 d5 d6 d7 d8 d9 d10 d11 d12 d13
  have hlt:=P1.out.whole.lt
  go_wp2
  go_ret
  exact ⟨ret_int (HB.out 2 (by rw [HKp1.out,if_pos (by omega)]) (by decide)),(XR.out.move P1.out.below).below⟩
 have n2':decide ((2:Int)<m')=false:=qdf n2
 have HKp2:Hid (Rk=if ckFlags none fs≠0 then ckFlags none fs else if k2≠3 then 4 else if z≠0 then z else if fn.all (fun f=>fs.contains f)=true then 0 else 5):=qh (by rw [HKp1.out,if_neg (by omega)])
 clear HKp1
 unfold ctJ ctFrame at hJ
 unfold ctFrame
 show Code.wp Tryz.prog (Code.seq _ _) _ _ _
 go_wp2_with (first | (go_at_call 89;refine (Hna.out _).mono ?_;rintro e w1 ⟨rfl,hb1⟩;refine Hid.out ?_))
 refine qh ?_
 have P1:=qh (P0.out.move hb1)
 clear hb1 g0 g1 g2 g3 g4 g5 g6 g7 g8 g9 g10 g11 g12 g13
 obtain ⟨d0,d1,d2,d3,d4,d5,d6,d7,d8,d9,d10,d11,d12,d13⟩:=ch14 P1.out.whole.cell
 simp only [qgz,qgs] at d0 d1 d2 d3 d4 d5 d6 d7 d8 d9 d10 d11 d12 d13
 have hlt:=P1.out.whole.lt
 go_upto_block 3 with fail
 clear v1 v2 s1 s2 v1' v2' s1' s2' n2' hn Hna
 clear d0 d1 d2 d3 d4 d5 d6 d7 d8 d9 d10 d11 d12 d13 hlt
 go_cut [] (fun wx=>ckFlags none fs=0/\Pb wo wo.heap.size [.string ⟨nm.toArray⟩,.int .i64 ver,.int .i64 slot,.slice B m' c',.int .i64 k2,.string ⟨a2.nm.toArray⟩,.int .i64 a2.op,.int .i64 a2.ver,.int .i64 a2.slot,.string ⟨a2.fl.toArray⟩,.bool a2.on,.string ⟨f2.toArray⟩,.bool no2,.slice D' q' d'] wx)
 case first =>
  obtain ⟨d0,d1,d2,d3,d4,d5,d6,d7,d8,d9,d10,d11,d12,d13⟩:=ch14 P1.out.whole.cell
  simp only [qgz,qgs] at d0 d1 d2 d3 d4 d5 d6 d7 d8 d9 d10 d11 d12 d13
  have hlt:=P1.out.whole.lt
  go_wp2
  clear d0 d1 d2 d3 d4 d5 d6 d7 d8 d9 d10 d11 d12 d13 hlt
  obtain ⟨w1',rfl⟩:∃ x,x=w1:=⟨_,rfl⟩
  go_loopg [56] m' (fun g iv wx=>∃ (i:Nat),Hid (i+g=m')/\iv=.int .i64 i/\Hid (ckFlags none fs=ckFlags (prevOf fs i) (fs.drop i))/\Hid (Pb wo wo.heap.size [.string ⟨nm.toArray⟩,.int .i64 ver,.int .i64 slot,.slice B m' c',.int .i64 k2,.string ⟨a2.nm.toArray⟩,.int .i64 a2.op,.int .i64 a2.ver,.int .i64 a2.slot,.string ⟨a2.fl.toArray⟩,.bool a2.on,.string ⟨f2.toArray⟩,.bool no2,.slice D' q' d'] wx))
  case atStart=>exact ⟨0,qh (Nat.zero_add _),rfl,qh rfl,P1⟩
  case round =>
   obtain ⟨i,Hi,rfl,Hcf,PR⟩:=hrel
   clear P1
   by_cases hi:i<m'
   ·obtain ⟨b1,o1,g,rfl,hbS1,hg,hgl,hcell⟩:=(HFS.out.under PR.out.below HSr.out).at_ hi
    have hlb1:b1<wr.heap.size:=ql (HSr.out _ hbS1) PR.out.below.size
    have Hsf:=qh (ckFlags_step hg)
    have Hnm:Hid (∀ wx,Calls Tryz.prog 89 #[.string ⟨g.toArray⟩] wx fun e w'=>e=.returned (.bool (isName g))/\Below wx.heap.size wx w'):=qh (fun wx=>rname_any ⟨g.toArray⟩ wx (by rw [bsz];exact hgl))
    clear hgl
    cases hq:isName g
    ·rw [hq] at Hnm
     clear hg
     have e1:ckFlags none fs=1:=by rw [Hcf.out,Hsf.out,if_pos hq]
     have E1:=qh e1;clear e1
     obtain ⟨d0,d1,d2,d3,d4,d5,d6,d7,d8,d9,d10,d11,d12,d13⟩:=ch14 PR.out.whole.cell
     simp only [qgz,qgs] at d0 d1 d2 d3 d4 d5 d6 d7 d8 d9 d10 d11 d12 d13
     have hlt:=PR.out.whole.lt
     go_wp2_with (first | (go_at_call 89;refine (Hnm.out _).mono ?_;rintro e w2 ⟨rfl,hb2⟩;refine Hid.out ?_))
     refine qh ?_
     clear d0 d1 d2 d3 d4 d5 d6 d7 d8 d9 d10 d11 d12 d13 hlt
     have P2:=qh (PR.out.move hb2)
     replace hcell:=(hb2.cell (p:=⟨b1,_,none⟩) hlb1).trans hcell
     clear hb2
     obtain ⟨d0,d1,d2,d3,d4,d5,d6,d7,d8,d9,d10,d11,d12,d13⟩:=ch14 P2.out.whole.cell
     simp only [qgz,qgs] at d0 d1 d2 d3 d4 d5 d6 d7 d8 d9 d10 d11 d12 d13
     have hlt:=P2.out.whole.lt
     go_wp2
     go_ret
     exact ⟨ret_int (HB.out 1 (by rw [HKp2.out,if_pos (by rw [E1.out];decide),E1.out]) (by decide)),(XR.out.move P2.out.below).below⟩
    rw [hq] at Hnm
    rcases i with _ | l
    ·clear hg
     rw [Nat.add_zero] at hcell
     obtain ⟨d0,d1,d2,d3,d4,d5,d6,d7,d8,d9,d10,d11,d12,d13⟩:=ch14 PR.out.whole.cell
     simp only [qgz,qgs] at d0 d1 d2 d3 d4 d5 d6 d7 d8 d9 d10 d11 d12 d13
     have hlt:=PR.out.whole.lt
     go_wp2_with (first | (go_at_call 89;refine (Hnm.out _).mono ?_;rintro e w2 ⟨rfl,hb2⟩;refine Hid.out ?_))
     refine qh ?_
     clear d0 d1 d2 d3 d4 d5 d6 d7 d8 d9 d10 d11 d12 d13 hlt
     have P2:=qh (PR.out.move hb2)
     replace hcell:=(hb2.cell (p:=⟨b1,_,none⟩) hlb1).trans hcell
     clear hb2
     obtain ⟨d0,d1,d2,d3,d4,d5,d6,d7,d8,d9,d10,d11,d12,d13⟩:=ch14 P2.out.whole.cell
     simp only [qgz,qgs] at d0 d1 d2 d3 d4 d5 d6 d7 d8 d9 d10 d11 d12 d13
     have hlt:=P2.out.whole.lt
     go_wp2
     go_roundg (gk - 1)
     case measure=>have:=Hi.out;omega
     case rel=>exact ⟨1,qh (by have:=Hi.out;omega),by go_num,qh (by rw [Hcf.out,Hsf.out,if_neg (by simp [hq])];rfl),P2⟩
    obtain ⟨b1',o1',u,eA,_,hu,_,hucell⟩:=(HFS.out.under PR.out.below HSr.out).at_ (j:=l) (by omega)
    injection eA with eA;injection eA with e1 e2;subst e1 e2
    have hpr:prevOf fs (l+1)=some u:=prevOf_succ hu
    have Hpr:=qh hpr
    have hbl:=bytesLess_eq g u
    clear hu hpr
    by_cases hug:u<g
    ·have hgu:(g == u)=false:=by rw [beq_eq_false_iff_ne];exact fun e=>List.lt_irrefl _ (e ▸ hug)
     rw [qdf (List.not_lt.2 (List.le_of_lt hug))] at hbl
     have Hug:Hid (badNext (some u) g=false):=qh (qdf (List.not_le.2 hug))
     clear hug hg
     obtain ⟨d0,d1,d2,d3,d4,d5,d6,d7,d8,d9,d10,d11,d12,d13⟩:=ch14 PR.out.whole.cell
     simp only [qgz,qgs] at d0 d1 d2 d3 d4 d5 d6 d7 d8 d9 d10 d11 d12 d13
     have hlt:=PR.out.whole.lt
     go_wp2_with (first | (go_at_call 89;refine (Hnm.out _).mono ?_;rintro e w2 ⟨rfl,hb2⟩;refine Hid.out ?_))
     refine qh ?_
     clear d0 d1 d2 d3 d4 d5 d6 d7 d8 d9 d10 d11 d12 d13 hlt
     have P2:=qh (PR.out.move hb2)
     replace hcell:=(hb2.cell (p:=⟨b1,_,none⟩) hlb1).trans hcell
     replace hucell:=(hb2.cell (p:=⟨b1,_,none⟩) hlb1).trans hucell
     clear hb2
     obtain ⟨d0,d1,d2,d3,d4,d5,d6,d7,d8,d9,d10,d11,d12,d13⟩:=ch14 P2.out.whole.cell
     simp only [qgz,qgs] at d0 d1 d2 d3 d4 d5 d6 d7 d8 d9 d10 d11 d12 d13
     have hlt:=P2.out.whole.lt
     go_wp2
     go_roundg (gk - 1)
     case measure=>have:=Hi.out;omega
     case rel=>exact ⟨l+1+1,qh (by have:=Hi.out;omega),by go_num,qh (by rw [Hcf.out,Hsf.out,if_neg (by simp [hq]),Hpr.out,if_neg (by rw [Hug.out];simp)]),P2⟩
    have Hug:Hid (badNext (some u) g=true):=qh (qdt (List.not_lt.1 hug))
    have e6:ckFlags none fs=6:=by rw [Hcf.out,Hsf.out,if_neg (by simp [hq]),Hpr.out,if_pos Hug.out]
    have E6:=qh e6
    by_cases hgu:g=u
    ·subst hgu
     rw [qdf hug] at hbl
     clear hug hg e6
     obtain ⟨d0,d1,d2,d3,d4,d5,d6,d7,d8,d9,d10,d11,d12,d13⟩:=ch14 PR.out.whole.cell
     simp only [qgz,qgs] at d0 d1 d2 d3 d4 d5 d6 d7 d8 d9 d10 d11 d12 d13
     have hlt:=PR.out.whole.lt
     go_wp2_with (first | (go_at_call 89;refine (Hnm.out _).mono ?_;rintro e w2 ⟨rfl,hb2⟩;refine Hid.out ?_))
     refine qh ?_
     clear d0 d1 d2 d3 d4 d5 d6 d7 d8 d9 d10 d11 d12 d13 hlt
     have P2:=qh (PR.out.move hb2)
     replace hcell:=(hb2.cell (p:=⟨b1,_,none⟩) hlb1).trans hcell
     replace hucell:=(hb2.cell (p:=⟨b1,_,none⟩) hlb1).trans hucell
     clear hb2
     obtain ⟨d0,d1,d2,d3,d4,d5,d6,d7,d8,d9,d10,d11,d12,d13⟩:=ch14 P2.out.whole.cell
     simp only [qgz,qgs] at d0 d1 d2 d3 d4 d5 d6 d7 d8 d9 d10 d11 d12 d13
     have hlt:=P2.out.whole.lt
     go_wp2
     go_ret
     exact ⟨ret_int (HB.out 6 (by rw [HKp2.out,if_pos (by rw [E6.out];decide),E6.out]) (by decide)),(XR.out.move P2.out.below).below⟩
    rw [qdt (Classical.byContradiction fun hn=>hgu (List.le_antisymm (List.not_lt.1 hug) (List.not_lt.1 hn)))] at hbl
    have hgu':(g == u)=false:=by rw [beq_eq_false_iff_ne];exact hgu
    clear hug hg e6 hgu
    obtain ⟨d0,d1,d2,d3,d4,d5,d6,d7,d8,d9,d10,d11,d12,d13⟩:=ch14 PR.out.whole.cell
    simp only [qgz,qgs] at d0 d1 d2 d3 d4 d5 d6 d7 d8 d9 d10 d11 d12 d13
    have hlt:=PR.out.whole.lt
    go_wp2_with (first | (go_at_call 89;refine (Hnm.out _).mono ?_;rintro e w2 ⟨rfl,hb2⟩;refine Hid.out ?_))
    refine qh ?_
    clear d0 d1 d2 d3 d4 d5 d6 d7 d8 d9 d10 d11 d12 d13 hlt
    have P2:=qh (PR.out.move hb2)
    replace hcell:=(hb2.cell (p:=⟨b1,_,none⟩) hlb1).trans hcell
    replace hucell:=(hb2.cell (p:=⟨b1,_,none⟩) hlb1).trans hucell
    clear hb2
    obtain ⟨d0,d1,d2,d3,d4,d5,d6,d7,d8,d9,d10,d11,d12,d13⟩:=ch14 P2.out.whole.cell
    simp only [qgz,qgs] at d0 d1 d2 d3 d4 d5 d6 d7 d8 d9 d10 d11 d12 d13
    have hlt:=P2.out.whole.lt
    go_wp2
    go_ret
    exact ⟨ret_int (HB.out 6 (by rw [HKp2.out,if_pos (by rw [E6.out];decide),E6.out]) (by decide)),(XR.out.move P2.out.below).below⟩
   obtain rfl:m'=i:=by have:=Hi.out;omega
   have hz:ckFlags none fs=0:=by rw [Hcf.out,ckFlags_done (by omega)]
   have Hz:=qh hz;clear hz
   go_wp2
   go_meet
   case rel=>exact ⟨Hz.out,PR.out⟩
 case rest =>
  obtain ⟨hz,hPR⟩:=hcut
  have HKp3:Hid (Rk=if k2≠3 then 4 else if z≠0 then z else if fn.all (fun f=>fs.contains f)=true then 0 else 5):=qh (by rw [HKp2.out,if_neg (by rw [hz];simp)])
  have PR:=qh hPR
  clear HKp2 hz hPR P1
  obtain ⟨d0,d1,d2,d3,d4,d5,d6,d7,d8,d9,d10,d11,d12,d13⟩:=ch14 PR.out.whole.cell
  simp only [qgz,qgs] at d0 d1 d2 d3 d4 d5 d6 d7 d8 d9 d10 d11 d12 d13
  have hlt:=PR.out.whole.lt
  by_cases k3:k2=3
  ·subst k3
   have HKp4:Hid (Rk=if z≠0 then z else if fn.all (fun f=>fs.contains f)=true then 0 else 5):=qh (by rw [HKp3.out,if_neg (by simp)])
   clear HKp3
   go_wp2_with (first | (go_at_call 90;refine (Hck.out _ (HND.out.under PR.out.below HSr.out) (fun k hk=>ql (HSr.out k hk) PR.out.below.size)).mono ?_;rintro e w3 ⟨rfl,hb3⟩;refine Hid.out ?_))
   refine qh ?_
   clear d0 d1 d2 d3 d4 d5 d6 d7 d8 d9 d10 d11 d12 d13 hlt
   have P3:=qh (PR.out.move hb3)
   clear hb3 PR Hck
   by_cases z0:z=0
   ·subst z0
    have HKp5:Hid (Rk=if fl.all (fun f=>fs.contains f)=true then 0 else 5):=qh (by rw [HKp4.out,if_neg (by simp),HA.out rfl])
    clear HKp4 HA
    have hrf2:=Hrf.out rfl
    obtain ⟨lf,hlf⟩:∃ lf,fl.length=lf:=⟨_,rfl⟩
    rw [hlf] at hrf2
    have Hlf:=qh hlf
    have Hrf2:=qh hrf2
    clear hlf hrf2 Hrf
    obtain ⟨d0,d1,d2,d3,d4,d5,d6,d7,d8,d9,d10,d11,d12,d13⟩:=ch14 P3.out.whole.cell
    simp only [qgz,qgs] at d0 d1 d2 d3 d4 d5 d6 d7 d8 d9 d10 d11 d12 d13
    have hlt:=P3.out.whole.lt
    go_upto_block 5 with (first | (go_at_call 91;refine (Hrf2.out _ (HND.out.under P3.out.below HSr.out) (fun k hk=>ql (HSr.out k hk) P3.out.below.size)).mono ?_;rintro e w4 ⟨Af,cf,rfl,hrf,hf1,hf2,hb4⟩;refine Hid.out ?_))
    refine qh ?_
    clear d0 d1 d2 d3 d4 d5 d6 d7 d8 d9 d10 d11 d12 d13 hlt
    have P4:=qh (P3.out.move hb4)
    have HRF:=qh hrf
    have hfll:lf<=maxLen:=qlt hf1 hf2
    unfold maxLen at hfll
    clear hb4 P3 Hrf2 hrf hf1 hf2
    go_upto_block 5 with fail
    go_cut [] (fun wx=>fl.all (fun f=>fs.contains f)=true/\Pb wo wo.heap.size [.string ⟨nm.toArray⟩,.int .i64 ver,.int .i64 slot,.slice B m' c',.int .i64 3,.string ⟨a2.nm.toArray⟩,.int .i64 a2.op,.int .i64 a2.ver,.int .i64 a2.slot,.string ⟨a2.fl.toArray⟩,.bool a2.on,.string ⟨f2.toArray⟩,.bool no2,.slice D' q' d'] wx)
    case first =>
     obtain ⟨d0,d1,d2,d3,d4,d5,d6,d7,d8,d9,d10,d11,d12,d13⟩:=ch14 P4.out.whole.cell
     simp only [qgz,qgs] at d0 d1 d2 d3 d4 d5 d6 d7 d8 d9 d10 d11 d12 d13
     have hlt:=P4.out.whole.lt
     go_wp2
     clear d0 d1 d2 d3 d4 d5 d6 d7 d8 d9 d10 d11 d12 d13 hlt
     go_loopg [91] lf (fun g iv wx=>∃ (i:Nat),Hid (i+g=lf)/\iv=.int .i64 i/\Hid (fl.all (fun f=>fs.contains f)=(fl.drop i).all (fun f=>fs.contains f))/\Hid (Below w4.heap.size w4 wx))
     case atStart=>exact ⟨0,qh (Nat.zero_add _),rfl,qh rfl,qh (qbr _ _)⟩
     case round =>
      obtain ⟨i,Hi,rfl,Hcf,HBr⟩:=hrel
      have P5:=qh (P4.out.move HBr.out)
      clear P4
      by_cases hi:i<lf
      ·obtain ⟨b1,o1,rfl,hbS1,hcell⟩:=(HRF.out.below HBr.out fun q hq=>hq.2).at_ hi
       have hlb1:b1<wr.heap.size:=ql hbS1.2 HBr.out.size
       have hgj:fl[i]? = some (fl[i]'(by rw [Hlf.out];exact hi)):=qge _
       generalize fl[i]'(by rw [Hlf.out];exact hi)=g at hgj
       rw [strs,qgm,hgj] at hcell
       dsimp only [Option.map_some] at hcell
       have Hsf:=qh (all_step (p:=fun f=>fs.contains f) hgj)
       have Hco:=qh (fun wx h=>containsS_any B m' c' fs g wx S h (by unfold maxLen;omega))
       have HRW:=qh (HFS.out.under P5.out.below HSr.out).row
       clear hgj
       cases hq:fs.contains g
       ·rw [hq] at Hco
        obtain ⟨d0,d1,d2,d3,d4,d5,d6,d7,d8,d9,d10,d11,d12,d13⟩:=ch14 P5.out.whole.cell
        simp only [qgz,qgs] at d0 d1 d2 d3 d4 d5 d6 d7 d8 d9 d10 d11 d12 d13
        have hlt:=P5.out.whole.lt
        go_wp2_with (first | (go_at_call 92;refine (Hco.out _ HRW.out).mono ?_;rintro e w5 ⟨rfl,rfl⟩;refine Hid.out ?_))
        refine qh ?_
        go_wp2
        go_ret
        exact ⟨ret_int (HB.out 5 (by rw [HKp5.out,if_neg (by rw [Hcf.out,Hsf.out];simp only [hq,Bool.false_and];decide)]) (by decide)),(XR.out.move P5.out.below).below⟩
       rw [hq] at Hco
       obtain ⟨d0,d1,d2,d3,d4,d5,d6,d7,d8,d9,d10,d11,d12,d13⟩:=ch14 P5.out.whole.cell
       simp only [qgz,qgs] at d0 d1 d2 d3 d4 d5 d6 d7 d8 d9 d10 d11 d12 d13
       have hlt:=P5.out.whole.lt
       go_wp2_with (first | (go_at_call 92;refine (Hco.out _ HRW.out).mono ?_;rintro e w5 ⟨rfl,rfl⟩;refine Hid.out ?_))
       refine qh ?_
       go_wp2
       go_roundg (gk - 1)
       case measure=>have:=Hi.out;omega
       case rel=>exact ⟨i+1,qh (by have:=Hi.out;omega),by go_num,qh (by rw [Hcf.out,Hsf.out];simp only [hq,Bool.true_and]),HBr⟩
      obtain rfl:i=lf:=by have:=Hi.out;omega
      go_wp2
      go_meet
      case rel=>exact ⟨by rw [Hcf.out,all_done (Nat.le_of_eq Hlf.out)],P5.out⟩
    case rest =>
     obtain ⟨hall,hPR⟩:=hcut
     have HX:Hid (ckT (prevOf ps j) (n+m) (ps.drop j)=if badPk (prevOf ps j) ⟨nm,ver,slot,fs,.mk 3 a2 f2 no2 ks2⟩=true then 6 else if 14<n+m+m' then 2 else ckT (prevOf ps (j+1)) (n+m+m') (ps.drop (j+1))):=qh (by rw [Hst.out,if_neg (by rw [HKp5.out,if_pos hall];simp)];simp only [hln])
     have P5:=qh hPR
     clear hall hPR P4 HKp5 HB Hst HRF Hlf
     obtain ⟨d0,d1,d2,d3,d4,d5,d6,d7,d8,d9,d10,d11,d12,d13⟩:=ch14 P5.out.whole.cell
     simp only [qgz,qgs] at d0 d1 d2 d3 d4 d5 d6 d7 d8 d9 d10 d11 d12 d13
     have hlt:=P5.out.whole.lt
     have X5:=qh (XR.out.move P5.out.below)
     have t1:=X5.out.whole.cell 0
     simp only [qgz] at t1
     have hltx:=X5.out.whole.lt
     rcases j with _ | i
     ·have HX0:Hid (ckT (prevOf ps 0) (n+m) (ps.drop 0)=if 14<n+m+m' then 2 else ckT (prevOf ps 1) (n+m+m') (ps.drop 1)):=qh (by rw [HX.out,if_neg (by rw [prevOf_zero];simp [badPk])])
      clear HX
      by_cases h14:(14:Int)<(n:Int)+((m:Int)+(m':Int))
      ·go_wp2
       go_ret
       exact ⟨ret_int (by rw [HK1.out,Hcl.out,HX0.out,if_pos (by omega)]),X5.out.below⟩
      have h14':decide ((14:Int)<(n:Int)+((m:Int)+(m':Int)))=false:=qdf h14
      go_wp2
      go_roundg (gko - 1)
      case measure=>have:=Hj.out;omega
      case rel=>exact ⟨1,m+m',qh (by have:=Hj.out;omega),by go_num,by go_num,by omega,qh (by rw [Hcl.out,HX0.out,if_neg (by omega),Nat.add_assoc n m m']),X5⟩
     obtain ⟨b1,o1,u,B3,m3,c3,k3,a3,f3,no3,D3,q3,d3,eA,_,hu,_,hucell⟩:=(HT.out.under X5.out.below HS.out).at_ (j:=i) (by omega)
     injection eA with eA;injection eA with e1 e2;subst e1 e2
     have Hpr:=qh (prevOf_succ hu)
     have hin:i<n:=by omega
     have hwi:(0:Int)<=(i:Int):=by omega
     obtain ⟨v0,v1,v2,v3,v4,v5,v6,v7,v8,v9,v10,v11,v12,v13⟩:=cb14 hucell (by decide)
     unfold pkRow ndRow at v0 v1 v2 v3 v4 v5 v6 v7 v8 v9 v10 v11 v12 v13
     simp only [qgz,qgs,Nat.add_zero] at v0 v1 v2 v3 v4 v5 v6 v7 v8 v9 v10 v11 v12 v13
     have hlbx:b<wc.heap.size:=ql hlb P5.out.below.size
     clear hucell hu
     obtain ⟨pnm,pver,pslot,pfs,pnd⟩:=u
     dsimp only at v0 v1 v2 v3 v4 v5 v6 v7 v8 v9 v10 v11 v12 v13
     have hbl:=bytesLess_eq nm pnm
     by_cases h1:nm<pnm
     ·rw [qdt h1] at hbl
      have HX1:Hid (ckT (prevOf ps (i+1)) (n+m) (ps.drop (i+1))=6):=qh (by rw [HX.out,Hpr.out,if_pos (badPk_lt h1)])
      clear HX h1
      go_wp2
      go_ret
      exact ⟨ret_int (by rw [HK1.out,Hcl.out,HX1.out]),X5.out.below.alloc X5.out.below.size _⟩
     rw [qdf h1] at hbl
     by_cases h2:nm=pnm
     ·subst h2
      have hbq:=badPk_eq (u:=⟨nm,pver,pslot,pfs,pnd⟩) (p:=⟨nm,ver,slot,fs,.mk 3 a2 f2 no2 ks2⟩) rfl
      have heq:(nm == nm)=true:=by simp
      by_cases h3:ver<=pver
      ·have HX1:Hid (ckT (prevOf ps (i+1)) (n+m) (ps.drop (i+1))=6):=qh (by rw [HX.out,Hpr.out,if_pos (by rw [hbq];exact qdt h3)])
       have h3':decide (ver<=pver)=true:=qdt h3
       clear HX h1 hbq h3
       go_wp2
       go_ret
       exact ⟨ret_int (by rw [HK1.out,Hcl.out,HX1.out]),X5.out.below.alloc X5.out.below.size _⟩
      have HX1:Hid (ckT (prevOf ps (i+1)) (n+m) (ps.drop (i+1))=if 14<n+m+m' then 2 else ckT (prevOf ps (i+1+1)) (n+m+m') (ps.drop (i+1+1))):=qh (by rw [HX.out,Hpr.out,if_neg (by rw [hbq,qdf h3];simp)])
      have h3':decide (ver<=pver)=false:=qdf h3
      clear HX h1 hbq h3
      have XB:=qh (X5.out.move ((qbr _ wc).alloc (qr _) (.cells #[.string ⟨nm.toArray⟩,.int .i64 pver,.int .i64 pslot,.slice B3 m3 c3,.int .i64 k3,.string ⟨a3.nm.toArray⟩,.int .i64 a3.op,.int .i64 a3.ver,.int .i64 a3.slot,.string ⟨a3.fl.toArray⟩,.bool a3.on,.string ⟨f3.toArray⟩,.bool no3,.slice D3 q3 d3] 101)))
      by_cases h14:(14:Int)<(n:Int)+((m:Int)+(m':Int))
      ·go_wp2
       go_ret
       exact ⟨ret_int (by rw [HK1.out,Hcl.out,HX1.out,if_pos (by omega)]),XB.out.below⟩
      have h14':decide ((14:Int)<(n:Int)+((m:Int)+(m':Int)))=false:=qdf h14
      go_wp2
      go_roundg (gko - 1)
      case measure=>have:=Hj.out;omega
      case rel=>exact ⟨i+1+1,m+m',qh (by have:=Hj.out;omega),by go_num,by go_num,by omega,qh (by rw [Hcl.out,HX1.out,if_neg (by omega),Nat.add_assoc n m m']),XB⟩
     have HX1:Hid (ckT (prevOf ps (i+1)) (n+m) (ps.drop (i+1))=if 14<n+m+m' then 2 else ckT (prevOf ps (i+1+1)) (n+m+m') (ps.drop (i+1+1))):=qh (by rw [HX.out,Hpr.out,if_neg (by rw [badPk_gt (u:=⟨pnm,pver,pslot,pfs,pnd⟩) (p:=⟨nm,ver,slot,fs,.mk 3 a2 f2 no2 ks2⟩) h1 h2];simp)])
     have heq:(nm == pnm)=false:=by rw [beq_eq_false_iff_ne];exact h2
     clear HX h1 h2
     have XB:=qh (X5.out.move ((qbr _ wc).alloc (qr _) (.cells #[.string ⟨pnm.toArray⟩,.int .i64 pver,.int .i64 pslot,.slice B3 m3 c3,.int .i64 k3,.string ⟨a3.nm.toArray⟩,.int .i64 a3.op,.int .i64 a3.ver,.int .i64 a3.slot,.string ⟨a3.fl.toArray⟩,.bool a3.on,.string ⟨f3.toArray⟩,.bool no3,.slice D3 q3 d3] 101)))
     by_cases h14:(14:Int)<(n:Int)+((m:Int)+(m':Int))
     ·go_wp2
      go_ret
      exact ⟨ret_int (by rw [HK1.out,Hcl.out,HX1.out,if_pos (by omega)]),XB.out.below⟩
     have h14':decide ((14:Int)<(n:Int)+((m:Int)+(m':Int)))=false:=qdf h14
     go_wp2
     go_roundg (gko - 1)
     case measure=>have:=Hj.out;omega
     case rel=>exact ⟨i+1+1,m+m',qh (by have:=Hj.out;omega),by go_num,by go_num,by omega,qh (by rw [Hcl.out,HX1.out,if_neg (by omega),Nat.add_assoc n m m']),XB⟩
   have z1:(z != 0)=true:=by simpa using z0
   go_wp2
   go_ret
   exact ⟨ret_int (HB.out z (by rw [HKp4.out,if_pos z0]) z0),(XR.out.move P3.out.below).below⟩
  have k1:(k2 != 3)=true:=by simpa using k3
  go_wp2
  go_ret
  exact ⟨ret_int (HB.out 4 (by rw [HKp3.out,if_pos k3]) (by decide)),(XR.out.move PR.out.below).below⟩
end
end Go.Proofs.YtedbhlgjcnnknaaGreatDoor
