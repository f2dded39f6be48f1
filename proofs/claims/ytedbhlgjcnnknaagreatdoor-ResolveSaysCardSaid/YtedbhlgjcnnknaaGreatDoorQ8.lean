/- Parts. -/
import Derived.WideKeyPair
import Derived.DeepKeys4
import Derived.Test.YtedbhlgjcnnknaaGreatDoorQ5
import Derived.IntWalk
import Derived.Outline
import Derived.Lib.ConvBytes
import Derived.Lib.AtoiErrMem
import Derived.Lib.Strings
set_option linter.unusedVariables false
set_option linter.unusedSimpArgs false
set_option linter.unusedSectionVars false
set_option maxRecDepth 100000
set_option maxHeartbeats 12800000
namespace Go.Proofs.YtedbhlgjcnnknaaGreatDoor
section
open Go.RowKit Go.WideMaps
def keyL (x y:Int):Lit:=.string (keyBytes [.int .i64 x,.int .i64 y])
structure PairKey (P:Program) (k:TypeId):Prop where
 law:Maps.Keyed P k
 arr:ArrKey P k 3 2
 i:P.underlying 3=some (.int .i64)
 sz:∃ m,P.types.size=m+1
section
variable {P : Program} {w w' : World} {k : TypeId} {b m : Nat} {K : Int → Int → Int}
theorem PairKey.key (h:PairKey P k) {x y:Int} (hx:(Lit.int .i64 x).wf=true) (hy:(Lit.int .i64 y).wf=true):keyOf P k (.agg #[.int .i64 x,.int .i64 y])=some (keyL x y):=keyOf_pair h.arr h.i h.sz hx hy
theorem PairKey.ne (h:PairKey P k) {x y n f:Int} (hx:(Lit.int .i64 x).wf=true) (hy:(Lit.int .i64 y).wf=true) (hn:(Lit.int .i64 n).wf=true) (hf:(Lit.int .i64 f).wf=true) (hne:¬ (x=n/\y=f)):keyL x y≠keyL n f:=by
 intro e
 have h1:=h.key hx hy
 rw [e] at h1
 have h2:=h.law.inj h1 (h.key hn hf)
 injection h2 with h2;injection h2 with h2
 simp only [List.cons.injEq,Value.int.injEq,true_and,and_true] at h2
 exact hne h2
def PairMap (P:Program) (k:TypeId) (w:World) (b:Nat) (K:Int->Int->Int) (m:Nat):Prop:=
 ∃ D:DataW Unit,w.ownsMap P k (plainElem P 3) b m D/\∀ x y:Int,(Lit.int .i64 x).wf=true->(Lit.int .i64 y).wf=true->D.atKey (keyL x y) (.lit (.int .i64 0))=.lit (.int .i64 (K x y))
theorem PairMap.made (P:Program) (k:TypeId) (w:World):PairMap P k (w.alloc (.map #[] 0)) w.heap.size (fun _ _=>0) 0:=
 ⟨.map [],World.ownsMap_made w P k _,fun _ _ _ _=>rfl⟩
theorem PairMap.kept {row:Option Nat} (h:PairMap P k w b K m) (hg:w.grownBy w' row) (hne:some b≠row):PairMap P k w' b K m:=by
 obtain ⟨D,h1,h2⟩:=h
 exact ⟨D,h1.kept hg hne,h2⟩
theorem PairMap.block (h:PairMap P k w b K m) (hb:w'.heap[b]? = w.heap[b]?):PairMap P k w' b K m:=by
 obtain ⟨D,⟨es,clock,h1,r⟩,h2⟩:=h
 exact ⟨D,⟨es,clock,hb.trans h1,r⟩,h2⟩
theorem PairMap.lt (h:PairMap P k w b K m):b<w.heap.size:=by obtain ⟨D,h1,_⟩:=h;exact h1.lt
theorem PairMap.look (h:PairMap P k w b K m) (hk:PairKey P k) (hz:(zeroValue 3).run P w=.ok (.int .i64 0) w) {t:TypeId} (ht:P.underlying t=some (.map k 3)) {x y:Int} (hx:(Lit.int .i64 x).wf=true) (hy:(Lit.int .i64 y).wf=true) :
  (Instr.lookup t (.map (some b)) (.agg #[.int .i64 x,.int .i64 y]) false).run P w=.ok (.int .i64 (K x y)) w:=by
 obtain ⟨D,h1,h3⟩:=h
 obtain ⟨v,ps,hrun,hv⟩:=h1.lookup hk.law ht hz (plainElem_int hk.i (by decide)) (hk.key hx hy)
 rw [h3 x y hx hy] at hv
 obtain ⟨a,rfl,ha,_⟩:=plainElem_int_inv hk.i hv
 simp only [Prod.mk.injEq,DataW.lit.injEq,Lit.int.injEq,true_and] at ha
 rw [hrun,ha.1]
theorem PairMap.put (h:PairMap P k w b K m) (hk:PairKey P k) {t:TypeId} (ht:P.underlying t=some (.map k 3)) {x y v:Int} (hx:(Lit.int .i64 x).wf=true) (hy:(Lit.int .i64 y).wf=true) (hv:(Lit.int .i64 v).wf=true) (hm:m<maxLen) :
  ∃ w',(Instr.mapUpdate t (.map (some b)) (.agg #[.int .i64 x,.int .i64 y]) (.int .i64 v)).run P w=.ok () w'/\PairMap P k w' b (fun n f=>if n=x/\f=y then v else K n f) (m+1)/\w.grownBy w' (some b)/\w'.heap.size=w.heap.size:=by
 obtain ⟨D,h1,h3⟩:=h
 have hkey:=hk.key hx hy
 have hkl:WideAt.IsKeyLit (keyL x y):=hk.law.key hkey
 obtain ⟨w',hrun,h4,h5⟩:=h1.store hk.law ht hm hkey (plainElem_int hk.i hv)
 have htd:=h1.tidy hk.law
 refine ⟨w',hrun,⟨_,h4,fun n f hn hf=>?_⟩,h5.grown, ?_⟩
 ·by_cases e:n=x/\f=y
  ·obtain ⟨rfl,rfl⟩:=e
   rw [Maps.atKey_put_same htd.isMap hkl]
   dsimp only
   rw [if_pos (And.intro rfl rfl)]
  rw [Maps.atKey_put_other (hk.ne hn hf hx hy e)]
  dsimp only
  rw [if_neg e]
  exact h3 n f hn hf
 obtain ⟨es,clock,es',clock',_,rfl⟩:=h5
 simp [ChangeMaps.setBlock]
end
end
section
open Go.RowKit Qm
def DLe (d d':Dk):Prop:=d.vars<=d'.vars/\d.cls.length<=d'.cls.length
theorem DLe.refl (d:Dk):DLe d d:=⟨Nat.le_refl _,Nat.le_refl _⟩
theorem DLe.trans {a b c:Dk} (h:DLe a b) (k:DLe b c):DLe a c:=⟨Nat.le_trans h.1 k.1,Nat.le_trans h.2 k.2⟩
theorem bothD_cases (d:Dk) (l:List Int):(∃ x,l=[x]/\bothD d l=(d,x))\/(l.length≠1/\bothD d l=({ d with vars:=d.vars+1,cls:=d.cls++gate ((d.vars:Int)+1) l },(d.vars:Int)+1)):=by
 match l with
 | [x]=>exact .inl ⟨x,rfl,rfl⟩
 | []=>exact .inr ⟨by simp,rfl⟩
 | x :: y :: r=>exact .inr ⟨by simp,rfl⟩
theorem bothD_le (d:Dk) (l:List Int):DLe d (bothD d l).1:=by
 rcases bothD_cases d l with ⟨x,_,h⟩ | ⟨_,h⟩
 ·rw [h];exact DLe.refl _
 rw [h];exact ⟨Nat.le_succ _,by show _<=(d.cls++_).length;rw [List.length_append];omega⟩
theorem oneD_le (d:Dk) (l:List Int):DLe d (oneD d l).1:=bothD_le d _
theorem addD_le (d:Dk) (c:List Int):DLe d (addD d c):=⟨Nat.le_refl _,by show _<=(d.cls++_).length;rw [List.length_append];omega⟩
theorem meanStep_le (X:Chs) (ps:List Pk) (a:At) (but:Int) (s:Dk×List Int) (i:Nat):DLe s.1 (meanStep X ps a but s i).1:=by
 unfold meanStep
 split
 ·exact DLe.refl _
 split
 ·exact DLe.refl _
 cases ixOf a.fl (pkOf ps i).fs with
 | none=>exact DLe.refl _
 | some k =>
  dsimp only
  split
  ·exact bothD_le _ _
  exact DLe.refl _
theorem meansTo_le (X:Chs) (ps:List Pk) (a:At) (but:Int) (d:Dk) (j:Nat):∀ k,DLe (meansTo X ps a but d j).1 (meansTo X ps a but d (j+k)).1
 | 0=>DLe.refl _
 | k+1=>(meansTo_le X ps a but d j k).trans (meanStep_le X ps a but _ _)
theorem meansD_le (X:Chs) (ps:List Pk) (a:At) (but:Int) (d:Dk):DLe d (meansD X ps a but d).1:=by
 have:=meansTo_le X ps a but d 0 ps.length
 rwa [Nat.zero_add] at this
theorem kidsD_le (X:Chs) (ps:List Pk) (i:Nat):∀ (ks:List Nd),(∀ x∈ks,∀ d,DLe d (needD X ps i x d).1)->∀ d,DLe d (kidsD X ps i ks d).1
 | [],_,d=>DLe.refl _
 | x :: r,h,d=>by
  rw [kidsD]
  exact (h x (List.mem_cons_self ..) d).trans (kidsD_le X ps i r (fun y hy=>h y (List.mem_cons_of_mem _ hy)) _)
theorem needD_le (X:Chs) (ps:List Pk) (i:Nat):∀ (y:Nd) (d:Dk),DLe d (needD X ps i y d).1:=by
 refine Nd.ind fun kd a f no ks ih=>?_
 intro d
 have hk:=kidsD_le X ps i ks ih d
 rw [needD]
 split
 ·exact (meansD_le ..).trans (oneD_le ..)
 split
 ·exact (meansD_le ..).trans (oneD_le ..)
 split
 ·exact hk.trans (oneD_le ..)
 split
 ·exact (hk.trans (bothD_le ..)).trans (oneD_le ..)
 exact hk.trans (bothD_le ..)
theorem confTo_le (X:Chs) (ps:List Pk) (i:Nat) (d:Dk) (j:Nat):∀ k,DLe (confTo X ps i d j) (confTo X ps i d (j+k))
 | 0=>DLe.refl _
 | k+1=>by
  refine (confTo_le X ps i d j k).trans ?_
  show DLe _ (confTo X ps i d (j+k+1))
  rw [confTo]
  split
  ·exact addD_le ..
  exact DLe.refl _
theorem pkD_le (X:Chs) (ps:List Pk) (i:Nat) (d:Dk):DLe d (pkD X ps i d):=by
 unfold pkD
 have:=confTo_le X ps i d 0 i
 rw [Nat.zero_add] at this
 exact (DLe.trans this (needD_le ..)).trans (addD_le ..)
theorem pksD_le (X:Chs) (ps:List Pk) (d:Dk) (j:Nat):∀ k,DLe (pksD X ps d j) (pksD X ps d (j+k))
 | 0=>DLe.refl _
 | k+1=>(pksD_le X ps d j k).trans (pkD_le ..)
theorem masksD_le (X:Chs):∀ (ms:List Int) (d:Dk),DLe d (masksD X ms d)
 | [],d=>DLe.refl _
 | k :: r,d=>by rw [masksD];exact (addD_le ..).trans (masksD_le X r _)
theorem tgtsD_le (X:Chs) (ps:List Pk):∀ (ts:List At) (d:Dk),DLe d (tgtsD X ps ts d)
 | [],d=>DLe.refl _
 | a :: r,d=>by rw [tgtsD];exact ((meansD_le ..).trans (addD_le ..)).trans (tgtsD_le X ps r _)
def LIn (d:Dk) (l:List Int):Prop:=∀ x∈l,x.natAbs<=d.vars
structure DIn (X:Chs) (ps:List Pk) (d:Dk):Prop where
 pick:∀ i,i<ps.length->(X.pick i).natAbs<=d.vars
 on:∀ i k,i<ps.length->k<(pkOf ps i).fs.length->(X.on i k).natAbs<=d.vars
 pair:∀ n f,(d.pair n f).natAbs<=d.vars
section
variable {X : Chs} {ps : List Pk} {d d' : Dk}
theorem DIn.up (h:DIn X ps d) (hd:d.vars<=d'.vars) (hp:d'.pair=d.pair):DIn X ps d':=
 ⟨fun i hi=>Nat.le_trans (h.pick i hi) hd,fun i k hi hk=>Nat.le_trans (h.on i k hi hk) hd,fun n f=>by rw [hp];exact Nat.le_trans (h.pair n f) hd⟩
theorem bothD_pair (d:Dk) (l:List Int):(bothD d l).1.pair=d.pair:=by
 rcases bothD_cases d l with ⟨x,_,h⟩ | ⟨_,h⟩ <;> rw [h]
theorem bothD_in (h:DIn X ps d) {l:List Int} (hl:LIn d l):DIn X ps (bothD d l).1/\(bothD d l).2.natAbs<=(bothD d l).1.vars:=by
 refine ⟨h.up (bothD_le d l).1 (bothD_pair d l), ?_⟩
 rcases bothD_cases d l with ⟨x,rfl,h⟩ | ⟨_,h⟩
 ·rw [h];exact hl x (List.mem_singleton.2 rfl)
 rw [h];dsimp only;omega
theorem oneD_in (h:DIn X ps d) {l:List Int} (hl:LIn d l):DIn X ps (oneD d l).1/\(oneD d l).2.natAbs<=(oneD d l).1.vars:=by
 have:=bothD_in h (l:=l.map Neg.neg) (fun x hx=>by obtain ⟨y,hy,rfl⟩:=List.mem_map.1 hx;rw [Int.natAbs_neg];exact hl y hy)
 refine ⟨this.1, ?_⟩
 show (-(bothD d (l.map Neg.neg)).2).natAbs<=_
 rw [Int.natAbs_neg];exact this.2
theorem askD_in (h:DIn X ps d) {a:At} {i k:Nat} (hi:i<ps.length) (hk:k<(pkOf ps i).fs.length):(askD X a i k).natAbs<=d.vars:=by
 unfold askD
 split
 ·exact h.on i k hi hk
 rw [Int.natAbs_neg];exact h.on i k hi hk
theorem meanStep_in {a:At} {but:Int} {s:Dk×List Int} {i:Nat} (h:DIn X ps s.1) (hl:LIn s.1 s.2) (hi:i<ps.length):DIn X ps (meanStep X ps a but s i).1/\LIn (meanStep X ps a but s i).1 (meanStep X ps a but s i).2:=by
 unfold meanStep
 split
 ·exact ⟨h,hl⟩
 split
 ·exact ⟨h,fun x hx=>by
   rcases List.mem_append.1 hx with hx | hx
   ·exact hl x hx
   rw [List.mem_singleton.1 hx];exact h.pick i hi⟩
 cases hix:ixOf a.fl (pkOf ps i).fs with
 | none=>exact ⟨h,hl⟩
 | some k =>
  dsimp only
  split
  ·have hb:=bothD_in h (l:=[X.pick i,askD X a i k]) (fun x hx=>by
    simp only [List.mem_cons,List.not_mem_nil,or_false] at hx
    rcases hx with rfl | rfl
    ·exact h.pick i hi
    exact askD_in h hi (ixOf_lt hix))
   have hle:=bothD_le s.1 [X.pick i,askD X a i k]
   refine ⟨⟨hb.1.pick,hb.1.on,fun n f=>?_⟩,fun x hx=>?_⟩
   ·show (if _ then _ else _:Int).natAbs<=(bothD s.1 [X.pick i,askD X a i k]).1.vars
    split
    ·exact hb.2
    exact hb.1.pair n f
   rcases List.mem_append.1 hx with hx | hx
   ·exact Nat.le_trans (hl x hx) hle.1
   rw [List.mem_singleton.1 hx];exact hb.2
  exact ⟨h,fun x hx=>by
   rcases List.mem_append.1 hx with hx | hx
   ·exact hl x hx
   rw [List.mem_singleton.1 hx];exact h.pair _ _⟩
theorem meansTo_in (h:DIn X ps d) (a:At) (but:Int):∀ j,j<=ps.length->DIn X ps (meansTo X ps a but d j).1/\LIn (meansTo X ps a but d j).1 (meansTo X ps a but d j).2
 | 0,_=>⟨h,fun x hx=>by cases hx⟩
 | j+1,hj=>by
  have:=meansTo_in h a but j (by omega)
  exact meanStep_in this.1 this.2 (by omega)
theorem ifLit_in (h:DIn X ps d) {i:Nat} (hi:i<ps.length) (f:Qm.W) (no:Bool):(ifLit X ps i f no).natAbs<=d.vars:=by
 unfold ifLit
 cases hix:ixOf f (pkOf ps i).fs with
 | none=>exact Nat.zero_le _
 | some j =>
  dsimp only
  split
  ·rw [Int.natAbs_neg];exact h.on i j hi (ixOf_lt hix)
  exact h.on i j hi (ixOf_lt hix)
theorem kidsD_in {i:Nat}:∀ (ks:List Nd),(∀ x∈ks,∀ d,DIn X ps d->DIn X ps (needD X ps i x d).1/\(needD X ps i x d).2.natAbs<=(needD X ps i x d).1.vars)->∀ d,DIn X ps d->DIn X ps (kidsD X ps i ks d).1/\LIn (kidsD X ps i ks d).1 (kidsD X ps i ks d).2
 | [],_,d,h=>⟨h,fun x hx=>by cases hx⟩
 | x :: r,ih,d,h=>by
  have h1:=ih x (List.mem_cons_self ..) d h
  have h2:=kidsD_in r (fun y hy=>ih y (List.mem_cons_of_mem _ hy)) _ h1.1
  have hle:=kidsD_le X ps i r (fun y _ d=>needD_le X ps i y d) (needD X ps i x d).1
  rw [kidsD]
  refine ⟨h2.1,fun z hz=>?_⟩
  rcases List.mem_cons.1 hz with rfl | hz
  ·exact Nat.le_trans h1.2 hle.1
  exact h2.2 z hz
theorem needD_in {i:Nat} (hi:i<ps.length):∀ (y:Nd) (d:Dk),DIn X ps d->DIn X ps (needD X ps i y d).1/\(needD X ps i y d).2.natAbs<=(needD X ps i y d).1.vars:=by
 refine Nd.ind fun kd a f no ks ih=>?_
 intro d h
 have hk:=kidsD_in ks ih d h
 have hm:=fun but=>meansTo_in h a but ps.length (Nat.le_refl _)
 rw [needD]
 split
 ·exact oneD_in (hm _).1 (hm _).2
 split
 ·have:=oneD_in (hm (i:Int)).1 (hm (i:Int)).2
  refine ⟨this.1, ?_⟩
  dsimp only
  rw [Int.natAbs_neg];exact this.2
 split
 ·exact oneD_in hk.1 hk.2
 have hb:=bothD_in hk.1 hk.2
 split
 ·exact oneD_in hb.1 (fun x hx=>by
   simp only [List.mem_cons,List.not_mem_nil,or_false] at hx
   rcases hx with rfl | rfl
   ·rw [Int.natAbs_neg];exact ifLit_in hb.1 hi f no
   exact hb.2)
 exact hb
end
end
section
open Go.RowKit Qm
def ndRow (k:Int) (a:At) (f:Qm.W) (no:Bool) (A:Option Addr) (n c:Nat):List Value:=
 [.int .i64 k,.string ⟨a.nm.toArray⟩,.int .i64 a.op,.int .i64 a.ver,.int .i64 a.slot,.string ⟨a.fl.toArray⟩,.bool a.on,.string ⟨f.toArray⟩,.bool no,.slice A n c]
inductive RNd (w:World) (S:Nat->Prop):List Value->Nd->Prop
 | mk (k:Int) (a:At) (f:Qm.W) (no:Bool) (A:Option Addr) (n c:Nat) (ks:List Nd) (cs:List (List Value))
  (hnc:n<=c) (hc:c<=maxLen) (h1:a.nm.length<=maxLen) (h2:a.fl.length<=maxLen) (h3:f.length<=maxLen)
  (hk:ks.length=n) (hcs:cs.length=n) (hrow:Row w S A (n * 10) cs.flatten)
  (hr:∀ (j:Nat) (x:List Value) (y:Nd),cs[j]? = some x->ks[j]? = some y->RNd w S x y):RNd w S (ndRow k a f no A n c) (.mk k a f no ks)
theorem RNd.ten {w:World} {S:Nat->Prop} {x:List Value} {y:Nd} (h:RNd w S x y):x.length=10:=by cases h;rfl
def RKids (w:World) (S:Nat->Prop) (A:Option Addr) (n:Nat) (ks:List Nd):Prop:=
 ∃ cs:List (List Value),ks.length=n/\cs.length=n/\Row w S A (n * 10) cs.flatten/\∀ (j:Nat) (x:List Value) (y:Nd),cs[j]? = some x->ks[j]? = some y->RNd w S x y
theorem RNd.open_ {w:World} {S:Nat->Prop} {x:List Value} {k:Int} {a:At} {f:Qm.W} {no:Bool} {ks:List Nd} (h:RNd w S x (.mk k a f no ks)) :
  ∃ A n c,x=ndRow k a f no A n c/\n<=c/\c<=maxLen/\a.nm.length<=maxLen/\a.fl.length<=maxLen/\f.length<=maxLen/\RKids w S A n ks:=by
 cases h with
 | mk k a f no A n c ks cs hnc hc h1 h2 h3 hk hcs hrow hr=>exact ⟨A,n,c,rfl,hnc,hc,h1,h2,h3,cs,hk,hcs,hrow,hr⟩
theorem RNd.shut {w:World} {S:Nat->Prop} {k:Int} {a:At} {f:Qm.W} {no:Bool} {ks:List Nd} {A:Option Addr} {n c:Nat}
  (hnc:n<=c) (hc:c<=maxLen) (h1:a.nm.length<=maxLen) (h2:a.fl.length<=maxLen) (h3:f.length<=maxLen) (h:RKids w S A n ks):RNd w S (ndRow k a f no A n c) (.mk k a f no ks):=by
 obtain ⟨cs,hk,hcs,hrow,hr⟩:=h
 exact .mk k a f no A n c ks cs hnc hc h1 h2 h3 hk hcs hrow hr
theorem RNd.keep {w w':World} {S:Nat->Prop} (hw:∀ p:Addr,S p.block->w'.cell? p=w.cell? p) {x:List Value} {y:Nd} (h:RNd w S x y):RNd w' S x y:=by
 induction h with
 | mk k a f no A n c ks cs hnc hc h1 h2 h3 hk hcs hrow hr ih=>exact .mk k a f no A n c ks cs hnc hc h1 h2 h3 hk hcs (hrow.keep hw) ih
theorem RNd.more {w:World} {S S':Nat->Prop} (hS:∀ k,S k->S' k) {x:List Value} {y:Nd} (h:RNd w S x y):RNd w S' x y:=by
 induction h with
 | mk k a f no A n c ks cs hnc hc h1 h2 h3 hk hcs hrow hr ih=>exact .mk k a f no A n c ks cs hnc hc h1 h2 h3 hk hcs (hrow.more hS) ih
theorem RNd.under {w w':World} {S:Nat->Prop} {B:Nat} {x:List Value} {y:Nd} (h:RNd w S x y) (hb:Below B w w') (hS:∀ k,S k->k<B):RNd w' S x y:=h.keep fun _ hp=>hb.cell (hS _ hp)
theorem RKids.keep {w w':World} {S:Nat->Prop} {A:Option Addr} {n:Nat} {ks:List Nd} (h:RKids w S A n ks) (hw:∀ p:Addr,S p.block->w'.cell? p=w.cell? p):RKids w' S A n ks:=by
 obtain ⟨cs,hk,hcs,hrow,hr⟩:=h
 exact ⟨cs,hk,hcs,hrow.keep hw,fun j x y h1 h2=>(hr j x y h1 h2).keep hw⟩
theorem RKids.more {w:World} {S S':Nat->Prop} (hS:∀ k,S k->S' k) {A:Option Addr} {n:Nat} {ks:List Nd} (h:RKids w S A n ks):RKids w S' A n ks:=by
 obtain ⟨cs,hk,hcs,hrow,hr⟩:=h
 exact ⟨cs,hk,hcs,hrow.more hS,fun j x y h1 h2=>(hr j x y h1 h2).more hS⟩
theorem RKids.under {w w':World} {S:Nat->Prop} {B:Nat} {A:Option Addr} {n:Nat} {ks:List Nd} (h:RKids w S A n ks) (hb:Below B w w') (hS:∀ k,S k->k<B):RKids w' S A n ks:=h.keep fun _ hp=>hb.cell (hS _ hp)
theorem RKids.len {w:World} {S:Nat->Prop} {A:Option Addr} {n:Nat} {ks:List Nd} (h:RKids w S A n ks):ks.length=n:=by obtain ⟨_,h,_⟩:=h;exact h
theorem RKids.nil_ {w:World} {S:Nat->Prop} {A:Option Addr}:RKids w S A 0 []:=⟨[],rfl,rfl,by simpa using Row.nil_,fun j x y h _=>by simp at h⟩
theorem flat_at {cs:List (List Value)} (h:∀ x∈cs,x.length=10):∀ {j:Nat} {x:List Value},cs[j]? = some x->∀ i,i<10->cs.flatten[j * 10+i]? = x[i]?:=by
 induction cs with
 | nil=>intro j x hj;simp at hj
 | cons c r ih =>
  intro j x hj i hi
  have hc:=h c (List.mem_cons_self ..)
  rw [List.flatten_cons]
  cases j with
  | zero =>
   simp only [qgz,Option.some.injEq] at hj
   subst hj
   rw [List.getElem?_append_left (by omega)];congr 1;omega
  | succ j =>
   rw [qgs] at hj
   rw [List.getElem?_append_right (by omega)]
   rw [<- ih (fun y hy=>h y (List.mem_cons_of_mem _ hy)) hj i hi]
   congr 1;omega
theorem RKids.at_ {w:World} {S:Nat->Prop} {A:Option Addr} {n:Nat} {ks:List Nd} (h:RKids w S A n ks) {j:Nat} (hj:j<n) :
  ∃ b o x y,A=some ⟨b,o,none⟩/\S b/\ks[j]? = some y/\RNd w S x y/\∀ i,i<10->w.cell? ⟨b,o+j * 10+i,none⟩=x[i]?:=by
 obtain ⟨cs,hk,hcs,hrow,hr⟩:=h
 obtain ⟨b,o,hA,hb,hc⟩:=hrow.2 (by omega)
 have e1:cs[j]? = some (cs[j]'(by omega)):=qge (by omega)
 have e2:ks[j]? = some (ks[j]'(by omega)):=qge (by omega)
 refine ⟨b,o,_,_,hA,hb,e2,hr j _ _ e1 e2,fun i hi=>?_⟩
 rw [Nat.add_assoc,hc (j * 10+i) (by omega)]
 refine flat_at (fun x hx=>?_) e1 i hi
 obtain ⟨i',hi',e⟩:=List.mem_iff_getElem.1 hx
 exact (hr i' x (ks[i']'(by omega)) (by rw [<- e];exact qge hi') (qge (by omega))).ten
end
section
open Go.RowKit Qm
def cntV:Option Int->Value
 | none=>.tuple #[.int .i64 0,.bool false]
 | some c=>.tuple #[.int .i64 c,.bool true]
theorem drop_step {ks:List Nd} {j:Nat} {y:Nd} (h:ks[j]? = some y):ks.drop j=y :: ks.drop (j+1):=by
 obtain ⟨hj,e⟩:=List.getElem?_eq_some_iff.1 h
 rw [List.drop_eq_getElem_cons hj,e]
theorem count_any:∀ (n:Nd) (S:Nat->Prop) (x:List Value) (d:Nat) (m:Int) (w:World),RNd w S x n->(∀ k,S k->k<w.heap.size)->1<=d->d<=5->0<=m->m<=20 ->
  Calls Tryz.prog 151 #[.agg x.toArray,.int .i64 d,.int .i64 m] w fun e w'=>e=.returned (cntV (cnt n d m))/\Below w.heap.size w w':=by
 refine Nd.ind fun k a f no ks ih=>?_
 intro S x d m w hR hS hd1 hd5 hm0 hm
 have HI:=qh ih;clear ih
 obtain ⟨A,n,c,rfl,hnc,hc,h1,h2,h3,hK⟩:=hR.open_
 clear hR
 have HS:=qh hS;clear hS
 have HK:=qh hK;clear hK
 unfold maxLen at hc
 clear h1 h2 h3
 unfold ndRow
 have HW:=qh (Whole.new w _ 99 [.int .i64 k,.string ⟨a.nm.toArray⟩,.int .i64 a.op,.int .i64 a.ver,.int .i64 a.slot,.string ⟨a.fl.toArray⟩,.bool a.on,.string ⟨f.toArray⟩,.bool no,.slice A n c] rfl)
 have HB:=qh ((qbr _ w).alloc (qr _) (.cells #[.int .i64 k,.string ⟨a.nm.toArray⟩,.int .i64 a.op,.int .i64 a.ver,.int .i64 a.slot,.string ⟨a.fl.toArray⟩,.bool a.on,.string ⟨f.toArray⟩,.bool no,.slice A n c] 99))
 by_cases h4:4<d
 ·have h4':(4:Int)<(d:Int):=by omega
  go_enter Tryz.func151,Tryz.ntmps151
  go_wp2
  go_ret2
  exact ⟨by simp [cnt,cntV,h4],HB.out⟩
 have h4':decide ((4:Int)<(d:Int))=false:=by simp;omega
 have HC:Hid (cnt (.mk k a f no ks) d m=cntL ks d m 1):=qh (by simp [cnt,h4])
 go_enter Tryz.func151,Tryz.ntmps151
 go_wp2
 go_loopg [8,18] n (fun g av iv wr=>∃ (j:Nat) (z:Int),Hid (j+g=n)/\iv=.int .i64 j/\av=.int .i64 z/\1<=z/\z<=21/\Hid (cntL ks d m 1=cntL (ks.drop j) d m z)/\Below w.heap.size w wr)
 case atStart=>exact ⟨0,1,qh (Nat.zero_add _),rfl,rfl,by omega,by omega,qh rfl,HB.out⟩
 case round =>
  obtain ⟨j,z,Hj,rfl,rfl,hz1,hz2,Hcl,hb⟩:=hrel
  have HBr:=qh hb;clear hb
  by_cases hj:j<n
  ·obtain ⟨b,o,x,y,rfl,hb,hy,hxy,hcell⟩:=(HK.out.under HBr.out HS.out).at_ hj
   have Hdr:=qh (drop_step hy)
   have hmem:=List.mem_of_getElem? hy
   obtain ⟨yk,ya,yf,yn,yks⟩:=y
   obtain ⟨A',n',c',rfl,-⟩:=hxy.open_
   have g0:=hcell 0 (by omega);have g1:=hcell 1 (by omega);have g2:=hcell 2 (by omega);have g3:=hcell 3 (by omega);have g4:=hcell 4 (by omega);have g5:=hcell 5 (by omega);have g6:=hcell 6 (by omega);have g7:=hcell 7 (by omega);have g8:=hcell 8 (by omega);have g9:=hcell 9 (by omega)
   clear hcell
   unfold ndRow at g0 g1 g2 g3 g4 g5 g6 g7 g8 g9
   simp only [qgz,qgs,Nat.add_zero] at g0 g1 g2 g3 g4 g5 g6 g7 g8 g9
   clear hy
   have hxy2:=(hxy.under (qbr _ wr |>.alloc (qr _) (.cells #[.int .i64 yk,.string ⟨ya.nm.toArray⟩,.int .i64 ya.op,.int .i64 ya.ver,.int .i64 ya.slot,.string ⟨ya.fl.toArray⟩,.bool ya.on,.string ⟨yf.toArray⟩,.bool yn,.slice A' n' c'] 99)) fun q hq=>ql (HS.out q hq) HBr.out.size)
   clear hxy
   by_cases hzm:m<z
   ·go_wp2_with fail
    go_ret2
    exact ⟨by rw [HC.out,Hcl.out,Hdr.out];simp [cntL,hzm,cntV],HBr.out.alloc HBr.out.size _⟩
   have hzm':decide (m<z)=false:=by simpa using hzm
   have hcall:=HI.out _ hmem S _ (d+1) (m - z) _ hxy2 (fun q hq=>by have:=HS.out q hq;have:=HBr.out.size;simp;omega) (by omega) (by omega) (by omega) (by omega)
   have Hle:=qh (cnt_le (.mk yk ya yf yn yks) (d+1) (m - z))
   have Hge:=qh (cnt_spec (.mk yk ya yf yn yks) (d+1) (m - z) (by omega)).1
   have e:((d+1:Nat):Int)=(d:Int)+1:=by omega
   rw [e] at hcall
   unfold ndRow at hcall
   have HX:Hid (cntL (ks.drop j) d m z=match cnt (.mk yk ya yf yn yks) (d+1) (m - z) with | none=>none | some c=>cntL (ks.drop (j+1)) d m (z+c)):=qh (by rw [Hdr.out];simp only [cntL,if_neg hzm];cases cnt (.mk yk ya yf yn yks) (d+1) (m - z) <;> rfl)
   generalize hq:cnt (.mk yk ya yf yn yks) (d+1) (m - z)=q at hcall Hle Hge HX
   have HBn:=qh (HBr.out.alloc HBr.out.size (.cells #[.int .i64 yk,.string ⟨ya.nm.toArray⟩,.int .i64 ya.op,.int .i64 ya.ver,.int .i64 ya.slot,.string ⟨ya.fl.toArray⟩,.bool ya.on,.string ⟨yf.toArray⟩,.bool yn,.slice A' n' c'] 99))
   clear hq e hxy2
   have Hcall:=qh hcall;clear hcall
   rcases q with _ | q
   ·simp only [cntV] at Hcall
    go_wp2_with fail
    refine Hcall.out.mono ?_
    rintro e w' ⟨rfl,hb'⟩
    have HB':=qh (HBn.out.trans (hb'.mono HBn.out.size));clear hb'
    go_wp2_with fail
    go_ret2
    exact ⟨by rw [HC.out,Hcl.out,HX.out];rfl,HB'.out⟩
   simp only [cntV] at Hcall
   have hq1:=Hle.out q (by omega) rfl
   have hq0:=(Hge.out q rfl).1
   go_wp2_with fail
   refine Hcall.out.mono ?_
   rintro e w' ⟨rfl,hb'⟩
   have HB':=qh (HBn.out.trans (hb'.mono HBn.out.size));clear hb'
   go_wp2_with fail
   go_roundg (gk - 1)
   case measure=>have:=Hj.out;omega
   case rel=>exact ⟨j+1,z+q,qh (by have:=Hj.out;omega),by go_num,rfl,by omega,by omega,qh (by rw [Hcl.out,HX.out]),HB'.out⟩
  go_wp2_with fail
  go_ret2
  refine ⟨?_,HBr.out⟩
  rw [HC.out,Hcl.out,List.drop_of_length_le (by have:=HK.out.len;omega)];rfl
end
section
open Go.RowKit Qm
theorem okFrom_drop {l:List UInt8} {k:Nat} (h:k<l.length):okFrom k (l.drop k)=(okAt k (l.getD k 0) && okFrom (k+1) (l.drop (k+1))):=by
 rw [List.drop_eq_getElem_cons h,okFrom]
 simp [List.getD,h]
theorem okAt_low {k:Nat} {c:UInt8} (h1:97<=c.toNat) (h2:c.toNat<=122):okAt k c=true:=by simp [okAt,lowB,h1,h2]
theorem okAt_dig {k:Nat} {c:UInt8} (h0:0<k) (h1:48<=c.toNat) (h2:c.toNat<=57):okAt k c=true:=by simp [okAt,digB,h0,h1,h2]
theorem okAt_not {k:Nat} {c:UInt8} (h1:c.toNat<97\/122<c.toNat) (h2:k=0\/c.toNat<48\/57<c.toNat):okAt k c=false:=by
 simp only [okAt,lowB,digB,Bool.or_eq_false_iff,Bool.and_eq_false_iff,decide_eq_false_iff_not]
 omega
theorem name_any (s:ByteArray) (w:World) (hs:s.size<=maxLen) :
  Calls Tryz.prog 104 #[.string s] w fun e w'=>e=.returned (.bool (isName s.data.toList))/\Below w.heap.size w w':=by
 unfold maxLen at hs
 have HL:=qh (Lib.size_eq s).symm
 by_cases h0:s.size=0
 ·have hz:s=⟨#[]⟩:=by
   obtain ⟨⟨l⟩⟩:=s
   have:l.length=0:=h0
   cases l
   ·rfl
   simp at this
  subst hz
  go_enter Tryz.func104,Tryz.ntmps104
  go_wp2
  go_ret
  exact ⟨rfl,qbr _ _⟩
 have hne:s.toList.isEmpty=false:=by
  have:=HL.out
  rw [Lib.toList_data]
  cases e:s.data.toList
  ·rw [e] at this;simp at this;omega
  rfl
 by_cases h8:8<s.size
 ·have h8':(8:Int)<(s.size:Int):=by omega
  go_enter Tryz.func104,Tryz.ntmps104
  go_wp2
  go_ret
  refine ⟨?_,qbr _ _⟩
  have:isName s.data.toList=false:=by
   have:=HL.out
   unfold isName
   rw [qdf (by omega)];rfl
  rw [this];rfl
 have h8':decide ((8:Int)<(s.size:Int))=false:=by simp;omega
 have hcv:=Lib.run_convert_string_bytes (P:=Tryz.prog) w 9 173 5 s Tryz.underlying9 Tryz.underlying173 Tryz.underlying5
 have hcell:∀ k,k<s.size->(Lib.bytesWorld w 5 s).cell? ⟨w.heap.size,k,none⟩=some (.int .u8 (s.data.toList.getD k 0).toNat):=fun k hk=>Lib.bytesWorld_cell w 5 s k hk
 have hbw:=Lib.bytesWorld_below w 5 s
 have HB:=qh hbw;clear hbw
 generalize Lib.bytesWorld w 5 s=W1 at hcv hcell HB
 have HC:=qh hcell;clear hcell
 go_enter Tryz.func104,Tryz.ntmps104
 go_wp2
 clear hcv
 go_loop [15] (fun i=>∃ k:Nat,k<=s.size/\i=.int .i64 k/\okFrom 0 s.data.toList=okFrom k (s.data.toList.drop k)) (fun i=>s.size - (intOf i).toNat)
 case atStart=>exact ⟨0,Nat.zero_le _,rfl,rfl⟩
 case round =>
  obtain ⟨k,hk,rfl,hok⟩:=hrel
  have Hok:=qh hok;clear hok
  by_cases hlt:k<s.size
  ·have hc:=HC.out k hlt
   have HS:=qh (okFrom_drop (l:=s.data.toList) (k:=k) (by have:=HL.out;omega))
   generalize s.data.toList.getD k 0=c at hc HS
   have no:okAt k c=false->isName s.data.toList=false:=by
    intro h
    unfold isName
    rw [Hok.out,HS.out,h,Bool.false_and,Bool.and_false]
   have yes:okAt k c=true->okFrom 0 s.data.toList=okFrom (k+1) (s.data.toList.drop (k+1)):=by
    intro h
    rw [Hok.out,HS.out,h,Bool.true_and]
   have No:=qh no;clear no
   have Yes:=qh yes;clear yes
   by_cases a1:c.toNat<97
   ·have b1:(c.toNat:Int)<97:=by omega
    by_cases k0:k=0
    ·subst k0
     go_wp2
     go_ret
     refine ⟨?_,HB.out⟩
     rw [No.out (okAt_not (by omega) (by omega))];rfl
    have bk:((k:Int) == 0)=false:=by simp;omega
    by_cases a3:c.toNat<48
    ·have b3:(c.toNat:Int)<48:=by omega
     go_wp2
     go_ret
     refine ⟨?_,HB.out⟩
     rw [No.out (okAt_not (by omega) (by omega))];rfl
    have b3:decide ((c.toNat:Int)<48)=false:=by simp;omega
    by_cases a4:57<c.toNat
    ·have b4:57<(c.toNat:Int):=by omega
     go_wp2
     go_ret
     refine ⟨?_,HB.out⟩
     rw [No.out (okAt_not (by omega) (by omega))];rfl
    have b4:decide (57<(c.toNat:Int))=false:=by simp;omega
    go_wp2
    go_round
    case rel=>exact ⟨k+1,by omega,by go_num,Yes.out (okAt_dig (by omega) (by omega) (by omega))⟩
    case measure=>simp [intOf];omega
   have b1:decide ((c.toNat:Int)<97)=false:=by simp;omega
   by_cases a2:122<c.toNat
   ·have b2:122<(c.toNat:Int):=by omega
    by_cases k0:k=0
    ·subst k0
     go_wp2
     go_ret
     refine ⟨?_,HB.out⟩
     rw [No.out (okAt_not (by omega) (by omega))];rfl
    have bk:((k:Int) == 0)=false:=by simp;omega
    have b3:decide ((c.toNat:Int)<48)=false:=by simp;omega
    have b4:57<(c.toNat:Int):=by omega
    go_wp2
    go_ret
    refine ⟨?_,HB.out⟩
    rw [No.out (okAt_not (by omega) (by omega))];rfl
   have b2:decide (122<(c.toNat:Int))=false:=by simp;omega
   go_wp2
   go_round
   case rel=>exact ⟨k+1,by omega,by go_num,Yes.out (okAt_low (by omega) (by omega))⟩
   case measure=>simp [intOf];omega
  go_wp2
  go_ret
  refine ⟨?_,HB.out⟩
  have e:okFrom 0 s.data.toList=true:=by
   rw [Hok.out,List.drop_of_length_le (by have:=HL.out;omega)];rfl
  have:isName s.data.toList=true:=by
   unfold isName
   have:=HL.out
   rw [e,qdt (by omega)];rfl
  rw [this];rfl
end
section
open Go.RowKit Qm
def atv (s:ByteArray) (op ver slot:Int) (f:ByteArray) (on:Bool):Value:=.agg #[.string s,.int .i64 op,.int .i64 ver,.int .i64 slot,.string f,.bool on]
def atOf (s:ByteArray) (op ver slot:Int) (f:ByteArray) (on:Bool):At:=⟨s.data.toList,op,ver,slot,f.data.toList,on⟩
theorem box_cell {w w1:World} {cs:Array Value} {t:TypeId} (h:Below (w.alloc (.cells cs t)).heap.size (w.alloc (.cells cs t)) w1) {i:Nat} {v:Value} (hv:cs[i]? = some v):w1.cell? ⟨w.heap.size,i,none⟩=some v:=by
 rw [h.cell (by simp)]
 simp [World.cell?,World.alloc,-World.alloc_eq,hv]
theorem empty_spell {f:ByteArray} (h:f.data.toList=[]):f.toList.isEmpty=true/\(!f.toList.isEmpty)=false:=by
 rw [Lib.toList_data,h];exact ⟨rfl,rfl⟩
theorem full_spell {f:ByteArray} (h:f.data.toList≠[]):f.toList.isEmpty=false/\(!f.toList.isEmpty)=true:=by
 rw [Lib.toList_data]
 cases e:f.data.toList
 ·exact absurd e h
 exact ⟨rfl,rfl⟩
theorem ck1 {a:At} (h:isName a.nm=false\/a.fl≠[]/\isName a.fl=false):ckAtom a=1:=by unfold ckAtom;rw [if_pos h]
theorem ck3 {a:At} (h:¬ (isName a.nm=false\/a.fl≠[]/\isName a.fl=false)) (h2:(a.op<0\/3<a.op\/a.slot<0\/9<a.slot)\/(a.op=0/\a.ver≠0\/a.op≠0/\(a.ver<1\/99<a.ver))):ckAtom a=3:=by
 unfold ckAtom
 rw [if_neg h]
 split
 ·rfl
 rename_i h3
 rw [if_pos (by omega)]
theorem ck4 {a:At} (h:¬ (isName a.nm=false\/a.fl≠[]/\isName a.fl=false)) (h2:¬ ((a.op<0\/3<a.op\/a.slot<0\/9<a.slot)\/(a.op=0/\a.ver≠0\/a.op≠0/\(a.ver<1\/99<a.ver)))):ckAtom a=if a.fl=[]/\a.on=true then 4 else 0:=by
 unfold ckAtom
 rw [if_neg h,if_neg (by omega),if_neg (by omega)]
theorem check_any (s f:ByteArray) (op ver slot:Int) (on:Bool) (w:World) (hs:s.size<=maxLen) (hf:f.size<=maxLen) :
  Calls Tryz.prog 75 #[atv s op ver slot f on] w fun e w'=>e=.returned (.int .i64 (ckAtom (atOf s op ver slot f on)))/\Below w.heap.size w w':=by
 unfold atv
 have ba:Below w.heap.size w (w.alloc (.cells #[.string s,.int .i64 op,.int .i64 ver,.int .i64 slot,.string f,.bool on] 75)):=(qbr _ w).alloc (qr _) _
 have Ba:=qh ba;clear ba
 cases hn:isName s.data.toList
 ·skip
  go_enter Tryz.func75,Tryz.ntmps75
  go_wp2_with (first
   | (go_at_call 104;refine (name_any _ _ hs).mono ?_;rintro e w1 ⟨rfl,hb1⟩;have c0:=box_cell hb1 (i:=0) rfl;have c1:=box_cell hb1 (i:=1) rfl;have c2:=box_cell hb1 (i:=2) rfl;have c3:=box_cell hb1 (i:=3) rfl;have c4:=box_cell hb1 (i:=4) rfl;have c5:=box_cell hb1 (i:=5) rfl;refine Hid.out ?_))
  refine qh ?_
  have HB:=qh (Ba.out.trans (hb1.mono (by simp)))
  clear hb1
  go_wp2
  go_ret
  exact ⟨ret_int (ck1 (a:=atOf s op ver slot f on) (.inl hn)).symm,HB.out⟩
 by_cases h0:f.data.toList=[]
 ·obtain ⟨e1,e2⟩:=empty_spell h0
  go_enter Tryz.func75,Tryz.ntmps75
  go_wp2_with (first
   | (go_at_call 104;refine (name_any _ _ hs).mono ?_;rintro e w1 ⟨rfl,hb1⟩;have c0:=box_cell hb1 (i:=0) rfl;have c1:=box_cell hb1 (i:=1) rfl;have c2:=box_cell hb1 (i:=2) rfl;have c3:=box_cell hb1 (i:=3) rfl;have c4:=box_cell hb1 (i:=4) rfl;have c5:=box_cell hb1 (i:=5) rfl;refine Hid.out ?_))
  refine qh ?_
  have HB:=qh (Ba.out.trans (hb1.mono (by simp)))
  clear hb1
  have H0:=qh h0
  have HG:=qh (show ¬ (isName (atOf s op ver slot f on).nm=false\/(atOf s op ver slot f on).fl≠[]/\isName (atOf s op ver slot f on).fl=false) by simp [atOf,hn,h0])
  clear h0
  by_cases o1:op<0
  ·
   go_wp2
   go_ret
   exact ⟨ret_int (ck3 (a:=atOf s _ _ slot f on) HG.out (by show _\/_;simp only [atOf];first | omega | exact .inr (.inl ⟨trivial,‹_›⟩))).symm,HB.out⟩
  have o1':decide (op<0)=false:=by simpa using o1
  by_cases o2:3<op
  ·
   go_wp2
   go_ret
   exact ⟨ret_int (ck3 (a:=atOf s _ _ slot f on) HG.out (by show _\/_;simp only [atOf];first | omega | exact .inr (.inl ⟨trivial,‹_›⟩))).symm,HB.out⟩
  have o2':decide (3<op)=false:=by simpa using o2
  by_cases s1:slot<0
  ·
   go_wp2
   go_ret
   exact ⟨ret_int (ck3 (a:=atOf s _ _ slot f on) HG.out (by show _\/_;simp only [atOf];first | omega | exact .inr (.inl ⟨trivial,‹_›⟩))).symm,HB.out⟩
  have s1':decide (slot<0)=false:=by simpa using s1
  by_cases s2:9<slot
  ·
   go_wp2
   go_ret
   exact ⟨ret_int (ck3 (a:=atOf s _ _ slot f on) HG.out (by show _\/_;simp only [atOf];first | omega | exact .inr (.inl ⟨trivial,‹_›⟩))).symm,HB.out⟩
  have s2':decide (9<slot)=false:=by simpa using s2
  by_cases z:op=0
  ·
   subst z
   by_cases v:ver=0
   ·
    subst v
    cases on
    ·
     go_wp2
     go_ret
     exact ⟨ret_int (by rw [ck4 (a:=atOf s _ _ slot f false) HG.out (by simp only [atOf];omega)];simp [atOf]),HB.out⟩
    ·
     go_wp2
     go_ret
     exact ⟨ret_int (by rw [ck4 (a:=atOf s _ _ slot f true) HG.out (by simp only [atOf];omega)];simp [atOf,H0.out]),HB.out⟩
   ·
    have v1:(ver == 0)=false:=by simpa using v
    have v2:(ver != 0)=true:=by simpa using v
    go_wp2
    go_ret
    exact ⟨ret_int (ck3 (a:=atOf s _ _ slot f on) HG.out (by show _\/_;simp only [atOf];first | omega | exact .inr (.inl ⟨trivial,‹_›⟩))).symm,HB.out⟩
  ·
   have z1:(op == 0)=false:=by simpa using z
   have z2:(op != 0)=true:=by simpa using z
   by_cases v1:ver<1
   ·
    go_wp2
    go_ret
    exact ⟨ret_int (ck3 (a:=atOf s _ _ slot f on) HG.out (by show _\/_;simp only [atOf];first | omega | exact .inr (.inl ⟨trivial,‹_›⟩))).symm,HB.out⟩
   have v1':decide (ver<1)=false:=by simpa using v1
   by_cases v2:99<ver
   ·
    go_wp2
    go_ret
    exact ⟨ret_int (ck3 (a:=atOf s _ _ slot f on) HG.out (by show _\/_;simp only [atOf];first | omega | exact .inr (.inl ⟨trivial,‹_›⟩))).symm,HB.out⟩
   have v2':decide (99<ver)=false:=by simpa using v2
   cases on
   ·
    go_wp2
    go_ret
    exact ⟨ret_int (by rw [ck4 (a:=atOf s _ _ slot f false) HG.out (by simp only [atOf];omega)];simp [atOf]),HB.out⟩
   ·
    go_wp2
    go_ret
    exact ⟨ret_int (by rw [ck4 (a:=atOf s _ _ slot f true) HG.out (by simp only [atOf];omega)];simp [atOf,H0.out]),HB.out⟩
 obtain ⟨e1,e2⟩:=full_spell h0
 cases hn2:isName f.data.toList
 ·skip
  go_enter Tryz.func75,Tryz.ntmps75
  go_wp2_with (first
   | (go_at_call 104;refine (name_any _ _ hs).mono ?_;rintro e w1 ⟨rfl,hb1⟩;have c0:=box_cell hb1 (i:=0) rfl;have c1:=box_cell hb1 (i:=1) rfl;have c2:=box_cell hb1 (i:=2) rfl;have c3:=box_cell hb1 (i:=3) rfl;have c4:=box_cell hb1 (i:=4) rfl;have c5:=box_cell hb1 (i:=5) rfl;refine Hid.out ?_))
  refine qh ?_
  go_wp2_with (first
   | (go_at_call 104;refine (name_any _ _ hf).mono ?_;rintro e w2 ⟨rfl,hb2⟩;replace c0:=(hb2.cell (World.block_lt_of_cell? _ _ c0)).trans c0;replace c1:=(hb2.cell (World.block_lt_of_cell? _ _ c1)).trans c1;replace c2:=(hb2.cell (World.block_lt_of_cell? _ _ c2)).trans c2;replace c3:=(hb2.cell (World.block_lt_of_cell? _ _ c3)).trans c3;replace c4:=(hb2.cell (World.block_lt_of_cell? _ _ c4)).trans c4;replace c5:=(hb2.cell (World.block_lt_of_cell? _ _ c5)).trans c5;refine Hid.out ?_))
  refine qh ?_
  have HB:=qh (Ba.out.trans ((hb1.mono (by simp)).trans (hb2.mono (qlt (by simp) hb1.size))))
  clear hb1 hb2
  go_wp2
  go_ret
  exact ⟨ret_int (ck1 (a:=atOf s op ver slot f on) (.inr ⟨h0,hn2⟩)).symm,HB.out⟩
 skip
 go_enter Tryz.func75,Tryz.ntmps75
 go_wp2_with (first
  | (go_at_call 104;refine (name_any _ _ hs).mono ?_;rintro e w1 ⟨rfl,hb1⟩;have c0:=box_cell hb1 (i:=0) rfl;have c1:=box_cell hb1 (i:=1) rfl;have c2:=box_cell hb1 (i:=2) rfl;have c3:=box_cell hb1 (i:=3) rfl;have c4:=box_cell hb1 (i:=4) rfl;have c5:=box_cell hb1 (i:=5) rfl;refine Hid.out ?_))
 refine qh ?_
 go_wp2_with (first
  | (go_at_call 104;refine (name_any _ _ hf).mono ?_;rintro e w2 ⟨rfl,hb2⟩;replace c0:=(hb2.cell (World.block_lt_of_cell? _ _ c0)).trans c0;replace c1:=(hb2.cell (World.block_lt_of_cell? _ _ c1)).trans c1;replace c2:=(hb2.cell (World.block_lt_of_cell? _ _ c2)).trans c2;replace c3:=(hb2.cell (World.block_lt_of_cell? _ _ c3)).trans c3;replace c4:=(hb2.cell (World.block_lt_of_cell? _ _ c4)).trans c4;replace c5:=(hb2.cell (World.block_lt_of_cell? _ _ c5)).trans c5;refine Hid.out ?_))
 refine qh ?_
 have HB:=qh (Ba.out.trans ((hb1.mono (by simp)).trans (hb2.mono (qlt (by simp) hb1.size))))
 clear hb1 hb2
 have H0:=qh h0
 have HG:=qh (show ¬ (isName (atOf s op ver slot f on).nm=false\/(atOf s op ver slot f on).fl≠[]/\isName (atOf s op ver slot f on).fl=false) by simp [atOf,hn,hn2])
 clear h0
 by_cases o1:op<0
 ·
  go_wp2
  go_ret
  exact ⟨ret_int (ck3 (a:=atOf s _ _ slot f on) HG.out (by show _\/_;simp only [atOf];first | omega | exact .inr (.inl ⟨trivial,‹_›⟩))).symm,HB.out⟩
 have o1':decide (op<0)=false:=by simpa using o1
 by_cases o2:3<op
 ·
  go_wp2
  go_ret
  exact ⟨ret_int (ck3 (a:=atOf s _ _ slot f on) HG.out (by show _\/_;simp only [atOf];first | omega | exact .inr (.inl ⟨trivial,‹_›⟩))).symm,HB.out⟩
 have o2':decide (3<op)=false:=by simpa using o2
 by_cases s1:slot<0
 ·
  go_wp2
  go_ret
  exact ⟨ret_int (ck3 (a:=atOf s _ _ slot f on) HG.out (by show _\/_;simp only [atOf];first | omega | exact .inr (.inl ⟨trivial,‹_›⟩))).symm,HB.out⟩
 have s1':decide (slot<0)=false:=by simpa using s1
 by_cases s2:9<slot
 ·
  go_wp2
  go_ret
  exact ⟨ret_int (ck3 (a:=atOf s _ _ slot f on) HG.out (by show _\/_;simp only [atOf];first | omega | exact .inr (.inl ⟨trivial,‹_›⟩))).symm,HB.out⟩
 have s2':decide (9<slot)=false:=by simpa using s2
 by_cases z:op=0
 ·
  subst z
  by_cases v:ver=0
  ·
   subst v
   go_wp2
   go_ret
   exact ⟨ret_int (by rw [ck4 (a:=atOf s _ _ slot f on) HG.out (by simp only [atOf];omega)];simp [atOf,H0.out]),HB.out⟩
  ·
   have v1:(ver == 0)=false:=by simpa using v
   have v2:(ver != 0)=true:=by simpa using v
   go_wp2
   go_ret
   exact ⟨ret_int (ck3 (a:=atOf s _ _ slot f on) HG.out (by show _\/_;simp only [atOf];first | omega | exact .inr (.inl ⟨trivial,‹_›⟩))).symm,HB.out⟩
 ·
  have z1:(op == 0)=false:=by simpa using z
  have z2:(op != 0)=true:=by simpa using z
  by_cases v1:ver<1
  ·
   go_wp2
   go_ret
   exact ⟨ret_int (ck3 (a:=atOf s _ _ slot f on) HG.out (by show _\/_;simp only [atOf];first | omega | exact .inr (.inl ⟨trivial,‹_›⟩))).symm,HB.out⟩
  have v1':decide (ver<1)=false:=by simpa using v1
  by_cases v2:99<ver
  ·
   go_wp2
   go_ret
   exact ⟨ret_int (ck3 (a:=atOf s _ _ slot f on) HG.out (by show _\/_;simp only [atOf];first | omega | exact .inr (.inl ⟨trivial,‹_›⟩))).symm,HB.out⟩
  have v2':decide (99<ver)=false:=by simpa using v2
  go_wp2
  go_ret
  exact ⟨ret_int (by rw [ck4 (a:=atOf s _ _ slot f on) HG.out (by simp only [atOf];omega)];simp [atOf,H0.out]),HB.out⟩
end
end Go.Proofs.YtedbhlgjcnnknaaGreatDoor
