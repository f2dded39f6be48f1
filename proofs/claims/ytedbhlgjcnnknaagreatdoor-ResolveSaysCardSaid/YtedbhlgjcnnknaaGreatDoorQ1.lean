/- Parts. -/
import Derived.WalkKit
import Derived.Below
import Derived.Laws.OwnMore
import Derived.Deep.Draws
import Derived.Lib.Hide
import Derived.Test.YtedbhlgjcnnknaaGreatDoorProg
import Derived.Deep.LoopGhost
import Derived.StillTailTactics
import Derived.BigQuiet
set_option linter.unusedVariables false
set_option linter.unusedSimpArgs false
set_option linter.unusedSectionVars false
set_option maxRecDepth 100000
set_option maxHeartbeats 12800000
namespace Go.Proofs.YtedbhlgjcnnknaaGreatDoor
open Go.RowKit
def Row (w:World) (S:Nat->Prop) (A:Option Addr) (n:Nat) (vs:List Value):Prop:=
 vs.length=n/\(0<n->∃ b o,A=some ⟨b,o,none⟩/\S b/\∀ j,j<n->w.cell? ⟨b,o+j,none⟩=vs[j]?)
section
variable {w w' : World} {S S' : Nat → Prop} {B n : Nat} {A : Option Addr} {vs : List Value}
theorem Row.len (h:Row w S A n vs):vs.length=n:=h.1
theorem Row.nil_:Row w S A 0 []:=⟨rfl,fun h=>absurd h (by omega)⟩
theorem Row.at_ {k:Nat} (h:Row w S A n vs) (hk:k<n):∃ b o,A=some ⟨b,o,none⟩/\S b/\w.cell? ⟨b,o+k,none⟩=vs[k]?:=by
 obtain ⟨b,o,e,hb,hc⟩:=h.2 (by omega)
 exact ⟨b,o,e,hb,hc k hk⟩
theorem Row.keep (h:Row w S A n vs) (hk:∀ p:Addr,S p.block->w'.cell? p=w.cell? p):Row w' S A n vs:=
 ⟨h.1,fun hn=>by
  obtain ⟨b,o,e,hb,hc⟩:=h.2 hn
  exact ⟨b,o,e,hb,fun j hj=>(hk _ hb).trans (hc j hj)⟩⟩
theorem Row.more (h:Row w S A n vs) (hS:∀ k,S k->S' k):Row w S' A n vs:=
 ⟨h.1,fun hn=>by
  obtain ⟨b,o,e,hb,hc⟩:=h.2 hn
  exact ⟨b,o,e,hS _ hb,hc⟩⟩
theorem Row.below (h:Row w S A n vs) (hb:Below B w w') (hS:∀ k,S k->k<B):Row w' S A n vs:=h.keep fun _ hp=>hb.cell (hS _ hp)
theorem Row.drop (h:Row w S A n vs) {k cap:Nat} (hk:k<=n) (hc:n<=cap):Row w S (if cap=k then A else A.map (·.add k)) (n - k) (vs.drop k):=by
 refine ⟨by rw [List.length_drop,h.1],fun hn=>?_⟩
 obtain ⟨b,o,e,hb,hcell⟩:=h.2 (by omega)
 subst e
 rw [if_neg (by omega)]
 have he:(⟨b,o,none⟩:Addr).add k=⟨b,o+k,none⟩:=by
  unfold Addr.add
  by_cases h0:k=0 <;> simp [h0]
 refine ⟨b,o+k,by rw [Option.map_some,he],hb,fun j hj=>?_⟩
 rw [List.getElem?_drop,<- hcell (k+j) (by omega),Nat.add_assoc]
def RInts (w:World) (S:Nat->Prop) (A:Option Addr) (n:Nat) (xs:List Int):Prop:=Row w S A n (xs.map (Value.int .i64))
theorem RInts.len {xs:List Int} (h:RInts w S A n xs):xs.length=n:=by have:=h.1;simpa using this
theorem RInts.at_ {xs:List Int} {k:Nat} (h:RInts w S A n xs) (hk:k<n):∃ b o,A=some ⟨b,o,none⟩/\S b/\w.cell? ⟨b,o+k,none⟩=some (.int .i64 (xs.getD k 0)):=by
 obtain ⟨b,o,hA,hb,hc⟩:=Row.at_ h hk
 have hl:=h.len
 refine ⟨b,o,hA,hb, ?_⟩
 rw [hc,List.getElem?_map,List.getElem?_eq_getElem (by omega),List.getD_eq_getElem?_getD,List.getElem?_eq_getElem (by omega)];rfl
def RBools (w:World) (S:Nat->Prop) (A:Option Addr) (n:Nat) (xs:List Bool):Prop:=Row w S A n (xs.map Value.bool)
theorem RBools.len {xs:List Bool} (h:RBools w S A n xs):xs.length=n:=by have:=h.1;simpa using this
theorem RBools.at_ {xs:List Bool} {k:Nat} (h:RBools w S A n xs) (hk:k<n):∃ b o,A=some ⟨b,o,none⟩/\S b/\w.cell? ⟨b,o+k,none⟩=some (.bool (xs.getD k false)):=by
 obtain ⟨b,o,hA,hb,hc⟩:=Row.at_ h hk
 have hl:=h.len
 refine ⟨b,o,hA,hb, ?_⟩
 rw [hc,List.getElem?_map,List.getElem?_eq_getElem (by omega),List.getD_eq_getElem?_getD,List.getElem?_eq_getElem (by omega)];rfl
def RClauses (w:World) (S:Nat->Prop) (A:Option Addr) (n:Nat) (cs:List (List Int)):Prop:=
 ∃ hs:List (Option Addr×Nat×Nat),Row w S A n (hs.map fun h=>Value.slice h.1 h.2.1 h.2.2)/\cs.length=n /\
  ∀ (j:Nat) (h:Option Addr×Nat×Nat) (c:List Int),hs[j]? = some h->cs[j]? = some c->RInts w S h.1 h.2.1 c/\h.2.1<=h.2.2/\h.2.2<=maxLen
theorem RClauses.len {cs:List (List Int)} (h:RClauses w S A n cs):cs.length=n:=by obtain ⟨_,_,h,_⟩:=h;exact h
theorem RClauses.at_ {cs:List (List Int)} {k:Nat} (h:RClauses w S A n cs) (hk:k<n):∃ b o A' n' c',A=some ⟨b,o,none⟩/\S b/\w.cell? ⟨b,o+k,none⟩=some (.slice A' n' c') /\
  RInts w S A' n' (cs.getD k [])/\n'<=c'/\c'<=maxLen:=by
 obtain ⟨hs,hr,hl,hi⟩:=h
 obtain ⟨b,o,hA,hb,hc⟩:=hr.at_ hk
 have hsl:hs.length=n:=by simpa using hr.len
 have e1:hs[k]? = some (hs[k]'(by omega)):=List.getElem?_eq_getElem (by omega)
 have e2:cs[k]? = some (cs[k]'(by omega)):=List.getElem?_eq_getElem (by omega)
 have e3:cs.getD k []=cs[k]'(by omega):=by rw [List.getD_eq_getElem?_getD,e2];rfl
 refine ⟨b,o,(hs[k]'(by omega)).1,(hs[k]'(by omega)).2.1,(hs[k]'(by omega)).2.2,hA,hb, ?_, ?_⟩
 ·rw [hc,List.getElem?_map,e1];rfl
 rw [e3];exact hi k _ _ e1 e2
theorem RInts.keep {xs:List Int} (h:RInts w S A n xs) (hk:∀ p:Addr,S p.block->w'.cell? p=w.cell? p):RInts w' S A n xs:=Row.keep h hk
theorem RInts.below {xs:List Int} (h:RInts w S A n xs) (hb:Below B w w') (hS:∀ k,S k->k<B):RInts w' S A n xs:=Row.below h hb hS
theorem RInts.more {xs:List Int} (h:RInts w S A n xs) (hS:∀ k,S k->S' k):RInts w S' A n xs:=Row.more h hS
theorem RInts.nil_:RInts w S A 0 []:=Row.nil_
theorem RBools.below {xs:List Bool} (h:RBools w S A n xs) (hb:Below B w w') (hS:∀ k,S k->k<B):RBools w' S A n xs:=Row.below h hb hS
theorem RBools.more {xs:List Bool} (h:RBools w S A n xs) (hS:∀ k,S k->S' k):RBools w S' A n xs:=Row.more h hS
theorem RClauses.keep {cs:List (List Int)} (h:RClauses w S A n cs) (hk:∀ p:Addr,S p.block->w'.cell? p=w.cell? p):RClauses w' S A n cs:=by
 obtain ⟨hs,hr,hl,hi⟩:=h
 exact ⟨hs,hr.keep hk,hl,fun j h c h1 h2=>⟨(hi j h c h1 h2).1.keep hk,(hi j h c h1 h2).2⟩⟩
theorem RClauses.below {cs:List (List Int)} (h:RClauses w S A n cs) (hb:Below B w w') (hS:∀ k,S k->k<B):RClauses w' S A n cs:=h.keep fun _ hp=>hb.cell (hS _ hp)
theorem RClauses.more {cs:List (List Int)} (h:RClauses w S A n cs) (hS:∀ k,S k->S' k):RClauses w S' A n cs:=by
 obtain ⟨hs,hr,hl,hi⟩:=h
 exact ⟨hs,hr.more hS,hl,fun j h c h1 h2=>⟨(hi j h c h1 h2).1.more hS,(hi j h c h1 h2).2⟩⟩
theorem RClauses.nil_:RClauses w S A 0 []:=⟨[],Row.nil_,rfl,fun j h c h1 _=>by simp at h1⟩
def RLists (w:World) (S:Nat->Prop) (A:Option Addr) (n:Nat) (ls:List (List (List Int))):Prop:=
 ∃ hs:List (Option Addr×Nat×Nat),Row w S A n (hs.map fun h=>Value.slice h.1 h.2.1 h.2.2)/\ls.length=n /\
  ∀ (j:Nat) (h:Option Addr×Nat×Nat) (c:List (List Int)),hs[j]? = some h->ls[j]? = some c->RClauses w S h.1 h.2.1 c/\h.2.1<=h.2.2/\h.2.2<=maxLen
theorem RLists.len {ls:List (List (List Int))} (h:RLists w S A n ls):ls.length=n:=by obtain ⟨_,_,h,_⟩:=h;exact h
theorem RLists.at_ {ls:List (List (List Int))} {k:Nat} (h:RLists w S A n ls) (hk:k<n):∃ b o A' n' c',A=some ⟨b,o,none⟩/\S b/\w.cell? ⟨b,o+k,none⟩=some (.slice A' n' c') /\
  RClauses w S A' n' (ls.getD k [])/\n'<=c'/\c'<=maxLen:=by
 obtain ⟨hs,hr,hl,hi⟩:=h
 obtain ⟨b,o,hA,hb,hc⟩:=hr.at_ hk
 have hsl:hs.length=n:=by simpa using hr.len
 have e1:hs[k]? = some (hs[k]'(by omega)):=List.getElem?_eq_getElem (by omega)
 have e2:ls[k]? = some (ls[k]'(by omega)):=List.getElem?_eq_getElem (by omega)
 have e3:ls.getD k []=ls[k]'(by omega):=by rw [List.getD_eq_getElem?_getD,e2];rfl
 refine ⟨b,o,(hs[k]'(by omega)).1,(hs[k]'(by omega)).2.1,(hs[k]'(by omega)).2.2,hA,hb, ?_, ?_⟩
 ·rw [hc,List.getElem?_map,e1];rfl
 rw [e3];exact hi k _ _ e1 e2
theorem RLists.keep {ls:List (List (List Int))} (h:RLists w S A n ls) (hk:∀ p:Addr,S p.block->w'.cell? p=w.cell? p):RLists w' S A n ls:=by
 obtain ⟨hs,hr,hl,hi⟩:=h
 exact ⟨hs,hr.keep hk,hl,fun j h c h1 h2=>⟨(hi j h c h1 h2).1.keep hk,(hi j h c h1 h2).2⟩⟩
def Whole (w:World) (b:Nat) (t:TypeId) (vs:List Value):Prop:=w.heap[b]? = some (.cells vs.toArray t (0,0))
variable {b : Nat} {t : TypeId}
theorem Whole.lt (h:Whole w b t vs):b<w.heap.size:=lt_of_block h
theorem Whole.cell (h:Whole w b t vs) (i:Nat):w.cell? ⟨b,i,none⟩=vs[i]?:=by rw [cell_of_row w b i _ t (0,0) h];simp
theorem Whole.free (h:Whole w b t vs) (i:Nat):w.frozen? ⟨b,i,none⟩=false:=frozen_of_row w b i _ t h
theorem Whole.new (w:World) (b:Nat) (t:TypeId) (vs:List Value) (h:b=w.heap.size):Whole (w.alloc (.cells vs.toArray t)) b t vs:=by subst h;exact heap_alloc_new w _
theorem Whole.alloc (h:Whole w b t vs) (o:Obj):Whole (w.alloc o) b t vs:=(Below.heap_alloc w o b h.lt).trans h
theorem Whole.drew (h:Whole w b t vs):Whole w.drew b t vs:=h
theorem Whole.drewN (h:Whole w b t vs) (k:Nat):Whole (w.drewN k) b t vs:=h
theorem Whole.set_ (h:Whole w b t vs) (i:Nat) (u:Value):Whole (w.setCell ⟨b,i,none⟩ u) b t (vs.set i u):=by
 unfold Whole at h ⊢
 rw [heap_setCell_same w b i _ t u h];simp
theorem Whole.far (h:Whole w b t vs) {p:Addr} (hp:b≠p.block) (u:Value):Whole (w.setCell p u) b t vs:=(heap_setCell_other w p b u hp).trans h
theorem Whole.below {B:Nat} (h:Whole w b t vs) (hb:Below B w w') (hg:b<B):Whole w' b t vs:=(hb.block b hg).trans h
theorem Whole.grown {row:Option Nat} (h:Whole w b t vs) (hg:w.grownBy w' row) (hr:some b≠row):Whole w' b t vs:=(hg.block b h.lt hr).trans h
theorem Whole.row (h:Whole w b t vs) {S:Nat->Prop} (hB:S b) {n:Nat} (hn:vs.length=n):Row w S (some ⟨b,0,none⟩) n vs:=
 ⟨hn,fun _=>⟨b,0,rfl,hB,fun j _=>by rw [Nat.zero_add];exact h.cell j⟩⟩
theorem Whole.ints {xs:List Int} (h:Whole w b t (xs.map (Value.int .i64))) {S:Nat->Prop} (hB:S b) {n:Nat} (hn:xs.length=n):RInts w S (some ⟨b,0,none⟩) n xs:=
 Whole.row h hB (by simpa using hn)
theorem Whole.bools {xs:List Bool} (h:Whole w b t (xs.map Value.bool)) {S:Nat->Prop} (hB:S b) {n:Nat} (hn:xs.length=n):RBools w S (some ⟨b,0,none⟩) n xs:=
 Whole.row h hB (by simpa using hn)
theorem row_of_own {base:Nat} {e:TypeId} {c:Nat} (h:w.ownsRow base e 1 (.slice A n c) n vs) {S:Nat->Prop} (hS:∀ g,(.slice A n c:Value).ownBlock=some g->S g):Row w S A n vs:=by
 refine ⟨by simpa using h.1,fun hn=>?_⟩
 rcases h.2 with ⟨_,h0⟩ | ⟨g,cap,cur,hv,hb,hh,hc,hm,hs,ht⟩
 ·omega
 injection hv with h1 h2 h3
 subst h1 h3
 refine ⟨g,0,rfl,hS g rfl,fun j hj=>?_⟩
 rw [Nat.zero_add];exact h.cellAt j (by omega)
theorem below_drewN {B:Nat} {a w:World} (h:Below B a w) (n:Nat):Below B a (w.drewN n):=⟨h.os,h.tape,h.output,h.size,h.block⟩
theorem below_of_grown {B:Nat} {w w':World} {row:Option Nat} (hg:w.grownBy w' row) (hB:B<=w.heap.size) (hr:∀ k,row=some k->B<=k):Below B w w':=(Below.refl B w).grown hg hB hr
theorem grown_trans {a b c:World} {row:Option Nat} (h:a.grownBy b row) (k:b.grownBy c row):a.grownBy c row:=
 ⟨k.os.trans h.os,k.tape.trans h.tape,k.output.trans h.output,Nat.le_trans h.size k.size,fun i hi hn=>(k.block i (Nat.lt_of_lt_of_le hi h.size) hn).trans (h.block i hi hn)⟩
theorem grown_set {a w:World} {g:Nat} (h:a.grownBy w (some g)) (i:Nat) (u:Value):a.grownBy (w.setCell ⟨g,i,none⟩ u) (some g):=
 ⟨h.os,h.tape,h.output,by simpa [World.setCell] using h.size,fun k hk hn=>(heap_setCell_other w _ k u (fun e=>hn (by rw [e]))).trans (h.block k hk hn)⟩
theorem grown_drewN {a w:World} {row:Option Nat} (h:a.grownBy w row) (n:Nat):a.grownBy (w.drewN n) row:=⟨h.os,h.tape,h.output,h.size,h.block⟩
theorem grown_of_below {a w:World} (h:Below a.heap.size a w) (row:Option Nat):a.grownBy w row:=⟨h.os,h.tape,h.output,h.size,fun i hi _=>h.block i hi⟩
end
theorem ret_int {k:IntKind} {a b:Int} (h:a=b):Ending.returned (.int k a)=.returned (.int k b):=by rw [h]
theorem ret_bool {a b:Bool} (h:a=b):Ending.returned (.bool a)=.returned (.bool b):=by rw [h]
theorem qh {p:Prop} (h:p):Go.RowKit.Hid p:=h
theorem qr (n:Nat):n<=n:=Nat.le_refl n
theorem ql {a b c:Nat} (h:a<b) (g:b<=c):a<c:=Nat.lt_of_lt_of_le h g
theorem qgz {α:Type} {a:α} {l:List α}:(a :: l)[0]? = some a:=List.getElem?_cons_zero
theorem qgs {α:Type} {a:α} {l:List α} {i:Nat}:(a :: l)[i+1]? = l[i]?:=List.getElem?_cons_succ
theorem qsa {α:Type} {l:List α} {i:Nat} {a:α}:l.toArray.setIfInBounds i a=(l.set i a).toArray:=List.setIfInBounds_toArray _ _ _
theorem qsz {α:Type} {x:α} {l:List α} {a:α}:(x :: l).set 0 a=a :: l:=List.set_cons_zero
theorem qge {α:Type} {l:List α} {i:Nat} (h:i<l.length):l[i]? = some l[i]:=List.getElem?_eq_getElem h
theorem qgd {α:Type} {l:List α} {i:Nat} {a:α}:l.getD i a=l[i]?.getD a:=List.getD_eq_getElem?_getD
theorem qlt {a b c:Nat} (h:a<=b) (g:b<=c):a<=c:=Nat.le_trans h g
theorem qdf {p:Prop} [Decidable p] (h:¬ p):decide p=false:=decide_eq_false h
theorem qdt {p:Prop} [Decidable p] (h:p):decide p=true:=decide_eq_true h
theorem qgm {α β:Type} {f:α->β} {l:List α} {i:Nat}:(l.map f)[i]? = Option.map f l[i]?:=List.getElem?_map
theorem qss {α:Type} {x:α} {l:List α} {i:Nat} {a:α}:(x :: l).set (i+1) a=x :: l.set i a:=List.set_cons_succ
theorem ch3 {P:Nat->Prop} (h:∀ i,P i):P 0/\P 1/\P 2:=⟨h 0,h 1,h 2⟩
theorem ch4 {P:Nat->Prop} (h:∀ i,P i):P 0/\P 1/\P 2/\P 3:=⟨h 0,h 1,h 2,h 3⟩
theorem ch5 {P:Nat->Prop} (h:∀ i,P i):P 0/\P 1/\P 2/\P 3/\P 4:=⟨h 0,h 1,h 2,h 3,h 4⟩
theorem ch6 {P:Nat->Prop} (h:∀ i,P i):P 0/\P 1/\P 2/\P 3/\P 4/\P 5:=⟨h 0,h 1,h 2,h 3,h 4,h 5⟩
theorem ch7 {P:Nat->Prop} (h:∀ i,P i):P 0/\P 1/\P 2/\P 3/\P 4/\P 5/\P 6:=⟨h 0,h 1,h 2,h 3,h 4,h 5,h 6⟩
theorem ch8 {P:Nat->Prop} (h:∀ i,P i):P 0/\P 1/\P 2/\P 3/\P 4/\P 5/\P 6/\P 7:=⟨h 0,h 1,h 2,h 3,h 4,h 5,h 6,h 7⟩
theorem ch9 {P:Nat->Prop} (h:∀ i,P i):P 0/\P 1/\P 2/\P 3/\P 4/\P 5/\P 6/\P 7/\P 8:=⟨h 0,h 1,h 2,h 3,h 4,h 5,h 6,h 7,h 8⟩
theorem ch10 {P:Nat->Prop} (h:∀ i,P i):P 0/\P 1/\P 2/\P 3/\P 4/\P 5/\P 6/\P 7/\P 8/\P 9:=⟨h 0,h 1,h 2,h 3,h 4,h 5,h 6,h 7,h 8,h 9⟩
theorem ch11 {P:Nat->Prop} (h:∀ i,P i):P 0/\P 1/\P 2/\P 3/\P 4/\P 5/\P 6/\P 7/\P 8/\P 9/\P 10:=⟨h 0,h 1,h 2,h 3,h 4,h 5,h 6,h 7,h 8,h 9,h 10⟩
theorem ch12 {P:Nat->Prop} (h:∀ i,P i):P 0/\P 1/\P 2/\P 3/\P 4/\P 5/\P 6/\P 7/\P 8/\P 9/\P 10/\P 11:=⟨h 0,h 1,h 2,h 3,h 4,h 5,h 6,h 7,h 8,h 9,h 10,h 11⟩
theorem ch13 {P:Nat->Prop} (h:∀ i,P i):P 0/\P 1/\P 2/\P 3/\P 4/\P 5/\P 6/\P 7/\P 8/\P 9/\P 10/\P 11/\P 12:=⟨h 0,h 1,h 2,h 3,h 4,h 5,h 6,h 7,h 8,h 9,h 10,h 11,h 12⟩
theorem ch14 {P:Nat->Prop} (h:∀ i,P i):P 0/\P 1/\P 2/\P 3/\P 4/\P 5/\P 6/\P 7/\P 8/\P 9/\P 10/\P 11/\P 12/\P 13:=⟨h 0,h 1,h 2,h 3,h 4,h 5,h 6,h 7,h 8,h 9,h 10,h 11,h 12,h 13⟩
theorem cb14 {P:Nat->Prop} {m:Nat} (h:∀ i,i<m->P i) (e:14<=m):P 0/\P 1/\P 2/\P 3/\P 4/\P 5/\P 6/\P 7/\P 8/\P 9/\P 10/\P 11/\P 12/\P 13:=⟨h 0 (Nat.lt_of_lt_of_le (by decide) e),h 1 (Nat.lt_of_lt_of_le (by decide) e),h 2 (Nat.lt_of_lt_of_le (by decide) e),h 3 (Nat.lt_of_lt_of_le (by decide) e),h 4 (Nat.lt_of_lt_of_le (by decide) e),h 5 (Nat.lt_of_lt_of_le (by decide) e),h 6 (Nat.lt_of_lt_of_le (by decide) e),h 7 (Nat.lt_of_lt_of_le (by decide) e),h 8 (Nat.lt_of_lt_of_le (by decide) e),h 9 (Nat.lt_of_lt_of_le (by decide) e),h 10 (Nat.lt_of_lt_of_le (by decide) e),h 11 (Nat.lt_of_lt_of_le (by decide) e),h 12 (Nat.lt_of_lt_of_le (by decide) e),h 13 (Nat.lt_of_lt_of_le (by decide) e)⟩
theorem qbr (B:Nat) (w:World):Below B w w:=Below.refl B w
end Go.Proofs.YtedbhlgjcnnknaaGreatDoor

namespace Qm
def vof (v:List Int) (n:Int):Int:=if n<0 then - v.getD (-n).toNat 0 else v.getD n.toNat 0
def vset (v:List Int) (n:Int):List Int:=if n<0 then v.set (-n).toNat (-1) else v.set n.toNat 1
def scanStep (v:List Int) (st:Int×Int) (n:Int):Int×Int:=
 if st.2<0 then st
 else if vof v n=1 then (st.1,-1)
 else if vof v n=0/\(st.2=0\/st.2=1/\st.1≠n) then (n,st.2+1)
 else st
def scan (v:List Int) (c:List Int):Int×Int:=c.foldl (scanStep v) (0,0)
def passOne (s:Option (List Int×Bool)) (c:List Int):Option (List Int×Bool):=
 match s with
 | none=>none
 | some (v,m)=>if (scan v c).2=0 then none else if (scan v c).2=1 then some (vset v (scan v c).1,true) else some (v,m)
def pass (cs:List (List Int)) (v:List Int):Option (List Int×Bool):=cs.foldl passOne (some (v,false))
def spreadN (cs:List (List Int)):Nat->List Int->Option (List Int)
 | 0,v=>some v
 | k+1,v=>match pass cs v with
  | none=>none
  | some (v',m)=>if m then spreadN cs k v' else some v'
def zeros (v:List Int):Nat:=(v.drop 1).count 0
def spread (cs:List (List Int)) (v:List Int):Option (List Int):=spreadN cs (zeros v+1) v
def IsLit (N:Nat) (n:Int):Prop:=n≠0/\n.natAbs<=N
def IsCl (N:Nat) (c:List Int):Prop:=∀ n∈c,IsLit N n
def Fine (N:Nat) (v:List Int):Prop:=v.length=N+1/\∀ x∈v,x=0\/x=1\/x = -1
theorem vof_neg (v:List Int) (n:Int) (h:n≠0):vof v (-n) = - vof v n:=by
 unfold vof
 by_cases h1:n<0
 ·rw [if_pos h1,if_neg (by omega)];simp
 rw [if_neg h1,if_pos (by omega)];simp
theorem vof_range {N:Nat} {v:List Int} (hv:Fine N v) (n:Int):vof v n=0\/vof v n=1\/vof v n = -1:=by
 have key:∀ k,v.getD k 0=0\/v.getD k 0=1\/v.getD k 0 = -1:=by
  intro k
  by_cases hk:k<v.length
  ·have:=hv.2 v[k] (List.getElem_mem hk)
   simpa [List.getD,hk] using this
  left;simp [List.getD,List.getElem?_eq_none (by omega:v.length<=k)]
 unfold vof
 split
 ·have:=key (-n).toNat;omega
 exact key n.toNat
theorem vset_len (v:List Int) (n:Int):(vset v n).length=v.length:=by
 unfold vset;split <;> simp
theorem vset_fine {N:Nat} {v:List Int} (hv:Fine N v) (n:Int):Fine N (vset v n):=by
 refine ⟨by rw [vset_len];exact hv.1,fun x hx=>?_⟩
 unfold vset at hx
 split at hx
 all_goals
  rcases List.mem_or_eq_of_mem_set hx with h | h
  ·exact hv.2 x h
  subst h;simp
theorem vof_vset {N:Nat} {v:List Int} (hv:Fine N v) {n:Int} (hn:IsLit N n) (m:Int) (hm:m≠0) :
  vof (vset v n) m=if m=n then 1 else if m = -n then -1 else vof v m:=by
 have hl:=hv.1
 obtain ⟨h0,h1⟩:=hn
 have hg:∀ (k j:Nat) (x:Int),k<v.length->(v.set k x).getD j 0=if j=k then x else v.getD j 0:=by
  intro k j x hk
  by_cases hjk:j=k
  ·subst hjk;simp [List.getD,hk]
  simp only [List.getD];rw [List.getElem?_set_ne (by omega)];simp [hjk]
 unfold vof vset
 by_cases hn0:n<0
 ·rw [if_pos hn0]
  by_cases hm0:m<0
  ·rw [if_pos hm0,if_pos hm0,hg _ _ _ (by omega)]
   by_cases e:m=n
   ·subst e;simp
   rw [if_neg (by omega),if_neg e,if_neg (by omega)]
  rw [if_neg hm0,if_neg hm0,hg _ _ _ (by omega)]
  by_cases e:m = -n
  ·subst e;rw [if_pos rfl,if_neg (by omega),if_pos rfl]
  rw [if_neg (by omega),if_neg (by omega),if_neg e]
 rw [if_neg hn0]
 by_cases hm0:m<0
 ·rw [if_pos hm0,if_pos hm0,hg _ _ _ (by omega)]
  by_cases e:m = -n
  ·subst e;rw [if_pos (by omega),if_neg (by omega),if_pos rfl]
  rw [if_neg (by omega),if_neg (by omega),if_neg e]
 rw [if_neg hm0,if_neg hm0,hg _ _ _ (by omega)]
 by_cases e:m=n
 ·subst e;simp
 rw [if_neg (by omega),if_neg e,if_neg (by omega)]
theorem scan_stuck (v:List Int) (c:List Int) (st:Int×Int) (h:st.2<0):c.foldl (scanStep v) st=st:=by
 induction c with
 | nil=>rfl
 | cons n c ih =>
   rw [List.foldl_cons];have:scanStep v st n=st:=by simp [scanStep,h]
   rw [this];exact ih
def ScanSays (v:List Int) (d:List Int) (st:Int×Int):Prop:=
 (st.2 = -1/\∃ x∈d,vof v x=1) \/
 (st.2=0/\∀ x∈d,vof v x≠1/\vof v x≠0) \/
 (st.2=1/\st.1∈d/\vof v st.1=0/\(∀ x∈d,vof v x≠1/\(vof v x=0->x=st.1))) \/
 (2<=st.2/\(∀ x∈d,vof v x≠1)/\∃ x∈d,∃ y∈d,x≠y/\vof v x=0/\vof v y=0)
theorem scan_inv (v:List Int) (c d:List Int) (st:Int×Int) (h:ScanSays v d st):ScanSays v (d++c) (c.foldl (scanStep v) st):=by
 induction c generalizing d st with
 | nil=>simpa using h
 | cons n c ih =>
  have he:d++n :: c=(d++[n])++c:=by simp
  rw [he,List.foldl_cons]
  apply ih
  rcases h with ⟨h1,x,hx,hx1⟩ | ⟨h1,h2⟩ | ⟨h1,h2,h3,h4⟩ | ⟨h1,h2,x,hx,y,hy,hxy,hx0,hy0⟩
  ·have:scanStep v st n=st:=by simp [scanStep,h1]
   rw [this]
   exact .inl ⟨h1,x,by simp [hx],hx1⟩
  ·by_cases a:vof v n=1
   ·have:scanStep v st n=(st.1,-1):=by simp [scanStep,h1,a]
    rw [this];exact .inl ⟨rfl,n,by simp,a⟩
   by_cases b:vof v n=0
   ·have:scanStep v st n=(n,1):=by simp [scanStep,h1,b]
    rw [this]
    refine .inr (.inr (.inl ⟨rfl,by simp,b,fun x hx=>?_⟩))
    rcases List.mem_append.1 hx with hx | hx
    ·exact ⟨(h2 x hx).1,fun h=>absurd h (h2 x hx).2⟩
    simp at hx;subst hx;exact ⟨a,fun _=>rfl⟩
   have:scanStep v st n=st:=by simp [scanStep,a,b]
   rw [this]
   refine .inr (.inl ⟨h1,fun x hx=>?_⟩)
   rcases List.mem_append.1 hx with hx | hx
   ·exact h2 x hx
   simp at hx;subst hx;exact ⟨a,b⟩
  ·by_cases a:vof v n=1
   ·have:scanStep v st n=(st.1,-1):=by simp [scanStep,h1,a]
    rw [this];exact .inl ⟨rfl,n,by simp,a⟩
   by_cases b:vof v n=0
   ·by_cases e1:st.1=n
    ·have:scanStep v st n=st:=by simp [scanStep,h1,b,e1]
     rw [this]
     refine .inr (.inr (.inl ⟨h1,by simp [h2],h3,fun x hx=>?_⟩))
     rcases List.mem_append.1 hx with hx | hx
     ·exact h4 x hx
     simp at hx;subst hx;exact ⟨a,fun _=>e1.symm⟩
    have:scanStep v st n=(n,2):=by simp [scanStep,h1,b,e1]
    rw [this]
    refine .inr (.inr (.inr ⟨by simp,fun x hx=>?_,st.1,by simp [h2],n,by simp,e1,h3,b⟩))
    rcases List.mem_append.1 hx with hx | hx
    ·exact (h4 x hx).1
    simp at hx;subst hx;exact a
   have:scanStep v st n=st:=by simp [scanStep,a,b]
   rw [this]
   refine .inr (.inr (.inl ⟨h1,by simp [h2],h3,fun x hx=>?_⟩))
   rcases List.mem_append.1 hx with hx | hx
   ·exact h4 x hx
   simp at hx;subst hx;exact ⟨a,fun h=>absurd h b⟩
  by_cases a:vof v n=1
  ·have:scanStep v st n=(st.1,-1):=by
    have:¬ st.2<0:=by omega
    simp [scanStep,this,a]
   rw [this];exact .inl ⟨rfl,n,by simp,a⟩
  have:scanStep v st n=st:=by
   have h3:¬ st.2<0:=by omega
   have h4:¬ (st.2=0\/st.2=1/\st.1≠n):=by omega
   simp only [scanStep,h3,a,h4,if_false,and_false]
  rw [this]
  refine .inr (.inr (.inr ⟨h1,fun z hz=>?_,x,by simp [hx],y,by simp [hy],hxy,hx0,hy0⟩))
  rcases List.mem_append.1 hz with hz | hz
  ·exact h2 z hz
  simp at hz;subst hz;exact a
theorem scan_cases (v:List Int) (c:List Int) :
  ((scan v c).2 = -1/\∃ x∈c,vof v x=1) \/
  ((scan v c).2=0/\∀ x∈c,vof v x≠1/\vof v x≠0) \/
  ((scan v c).2=1/\(scan v c).1∈c/\vof v (scan v c).1=0/\(∀ x∈c,vof v x≠1/\(vof v x=0->x=(scan v c).1))) \/
  (2<=(scan v c).2/\(∀ x∈c,vof v x≠1)/\∃ x∈c,∃ y∈c,x≠y/\vof v x=0/\vof v y=0):=by
 have:=scan_inv v c [] (0,0) (.inr (.inl ⟨rfl,by simp⟩))
 simpa [scan,ScanSays] using this
theorem scan_unit_mem {v c:List Int} (h:(scan v c).2=1):(scan v c).1∈c:=by
 rcases scan_cases v c with ⟨e,_⟩ | ⟨e,_⟩ | ⟨_,hm,_⟩ | ⟨e,_⟩
 ·omega
 ·omega
 ·exact hm
 omega
theorem passOne_none (cs:List (List Int)):cs.foldl passOne none=none:=by
 induction cs with
 | nil=>rfl
 | cons c cs ih=>rw [List.foldl_cons];exact ih
theorem foldl_take_succ {α β:Type} (f:β->α->β) (s:β) (l:List α) (k:Nat) (d:α) (h:k<l.length):(l.take (k+1)).foldl f s=f ((l.take k).foldl f s) (l.getD k d):=by
 rw [List.take_succ_eq_append_getElem h,List.foldl_append,List.getD_eq_getElem?_getD,List.getElem?_eq_getElem h];rfl
theorem foldl_take_drop {α β:Type} (f:β->α->β) (s:β) (l:List α) (k:Nat):l.foldl f s=(l.drop k).foldl f ((l.take k).foldl f s):=by
 rw [<- List.foldl_append,List.take_append_drop]
theorem flatten_take_succ {α:Type} (ls:List (List α)) (k:Nat) (h:k<ls.length):(ls.take (k+1)).flatten=(ls.take k).flatten++ls.getD k []:=by
 rw [List.take_succ_eq_append_getElem h,List.flatten_append,List.getD_eq_getElem?_getD,List.getElem?_eq_getElem h];simp
theorem scan_break {v:List Int} {c:List Int} {k:Nat} {st:Int×Int} (h:(c.take k).foldl (scanStep v) (0,0)=st) (hn:st.2<0):scan v c=st:=by
 unfold scan
 rw [foldl_take_drop _ _ _ k,h];exact scan_stuck v _ st hn
theorem passOne_fails {v1:List Int} {m:Bool} {c:List Int} (h0:(scan v1 c).2=0):passOne (some (v1,m)) c=none:=by simp only [passOne];rw [if_pos h0]
theorem passOne_unit {v1:List Int} {m:Bool} {c:List Int} (h0:(scan v1 c).2=1):passOne (some (v1,m)) c=some (vset v1 (scan v1 c).1,true):=by
 simp only [passOne];rw [if_neg (by omega),if_pos h0]
theorem passOne_other {v1:List Int} {m:Bool} {c:List Int} (h0:(scan v1 c).2≠0) (h1:(scan v1 c).2≠1):passOne (some (v1,m)) c=some (v1,m):=by
 simp only [passOne];rw [if_neg h0,if_neg h1]
theorem count_set_zero (l:List Int) (k:Nat) (x:Int) (hk:k<l.length) (h0:l[k]=0) (hx:x≠0):(l.set k x).count 0+1=l.count 0:=by
 induction l generalizing k with
 | nil=>simp at hk
 | cons a l ih =>
  cases k with
  | zero =>
   simp at h0;subst h0
   simp [List.set,List.count_cons,hx]
  | succ k =>
   have:=ih k (by simpa using hk) (by simpa using h0)
   simp only [List.set,List.count_cons];omega
theorem zeros_vset {N:Nat} {v:List Int} (hv:Fine N v) {n:Int} (hn:IsLit N n) (h:vof v n=0):zeros (vset v n)+1=zeros v:=by
 have hl:=hv.1
 obtain ⟨h0,h1⟩:=hn
 have key:∀ (k:Nat) (x:Int),1<=k->k<v.length->v.getD k 0=0->x≠0->zeros (v.set k x)+1=zeros v:=by
  intro k x hk1 hk hz hx
  unfold zeros
  obtain ⟨j,rfl⟩:∃ j,k=j+1:=⟨k - 1,by omega⟩
  have:(v.set (j+1) x).drop 1=(v.drop 1).set j x:=by
   cases v with
   | nil=>rfl
   | cons a v=>rfl
  rw [this]
  refine count_set_zero _ _ _ (by simp;omega) ?_ hx
  rw [List.getD_eq_getElem?_getD,List.getElem?_eq_getElem hk] at hz
  simpa using hz
 unfold vset
 unfold vof at h
 by_cases hn0:n<0
 ·rw [if_pos hn0] at h ⊢
  exact key _ _ (by omega) (by omega) (by omega) (by omega)
 rw [if_neg hn0] at h ⊢
 exact key _ _ (by omega) (by omega) h (by omega)
theorem passOne_ok {N:Nat} {v v':List Int} {m m':Bool} {c:List Int} (hv:Fine N v) (hc:IsCl N c) (h:passOne (some (v,m)) c=some (v',m')) :
  Fine N v'/\((v'=v/\m'=m)\/(zeros v'+1=zeros v/\m'=true)):=by
 simp only [passOne] at h
 split at h
 ·cases h
 split at h
 ·rename_i h0 h1
  injection h with h;injection h with ha hb
  subst ha hb
  rcases scan_cases v c with ⟨e,_⟩ | ⟨e,_⟩ | ⟨_,hm,hz,_⟩ | ⟨e,_⟩
  ·omega
  ·omega
  ·exact ⟨vset_fine hv _,.inr ⟨zeros_vset hv (hc _ hm) hz,rfl⟩⟩
  omega
 injection h with h;injection h with ha hb
 subst ha hb
 exact ⟨hv,.inl ⟨rfl,rfl⟩⟩
theorem pass_ok {N:Nat} {cs:List (List Int)} (hcs:∀ c∈cs,IsCl N c):∀ {v v':List Int} {m m':Bool},Fine N v->cs.foldl passOne (some (v,m))=some (v',m') ->
  Fine N v'/\((v'=v/\m'=m)\/(zeros v'<zeros v/\m'=true)):=by
 induction cs with
 | nil=>intro v v' m m' hv h;simp at h;obtain ⟨rfl,rfl⟩:=h;exact ⟨hv,.inl ⟨rfl,rfl⟩⟩
 | cons c cs ih =>
  intro v v' m m' hv h
  rw [List.foldl_cons] at h
  cases hp:passOne (some (v,m)) c with
  | none=>rw [hp,passOne_none] at h;cases h
  | some x =>
   obtain ⟨v1,m1⟩:=x
   rw [hp] at h
   obtain ⟨hf,h1⟩:=passOne_ok hv (hcs c (by simp)) hp
   obtain ⟨hf',h2⟩:=ih (fun d hd=>hcs d (by simp [hd])) hf h
   refine ⟨hf', ?_⟩
   rcases h1 with ⟨rfl,rfl⟩ | ⟨ha,rfl⟩
   ·exact h2
   rcases h2 with ⟨rfl,rfl⟩ | ⟨hb,rfl⟩
   ·exact .inr ⟨by omega,rfl⟩
   exact .inr ⟨by omega,rfl⟩
theorem spreadN_fuel {N:Nat} {cs:List (List Int)} (hcs:∀ c∈cs,IsCl N c):∀ (k j:Nat) (v:List Int),Fine N v->zeros v<k->zeros v<j->spreadN cs k v=spreadN cs j v:=by
 intro k
 induction k with
 | zero=>intro j v _ h;omega
 | succ k ih =>
  intro j v hv hk hj
  obtain ⟨j,rfl⟩:∃ i,j=i+1:=⟨j - 1,by omega⟩
  simp only [spreadN]
  cases hp:pass cs v with
  | none=>rfl
  | some x =>
   obtain ⟨v',m⟩:=x
   simp only
   cases m with
   | false=>rfl
   | true =>
    obtain ⟨hf,h⟩:=pass_ok hcs hv hp
    rcases h with ⟨_,h⟩ | ⟨h,_⟩
    ·cases h
    exact ih j v' hf (by omega) (by omega)
theorem spread_step {N:Nat} {cs:List (List Int)} (hcs:∀ c∈cs,IsCl N c) {v:List Int} (hv:Fine N v) :
  spread cs v=match pass cs v with | none=>none | some (v',m)=>if m then spread cs v' else some v':=by
 show spreadN cs (zeros v+1) v=_
 simp only [spreadN]
 cases hp:pass cs v with
 | none=>rfl
 | some x =>
  obtain ⟨v',m⟩:=x
  simp only
  cases m with
  | false=>rfl
  | true =>
   obtain ⟨hf,h⟩:=pass_ok hcs hv hp
   rcases h with ⟨_,h⟩ | ⟨h,_⟩
   ·cases h
   exact spreadN_fuel hcs _ _ v' hf (by omega) (by omega)
theorem spread_none {N:Nat} {cs:List (List Int)} (hcs:∀ c∈cs,IsCl N c) {v:List Int} (hv:Fine N v) (h:pass cs v=none):spread cs v=none:=by
 rw [spread_step hcs hv,h]
theorem spread_more {N:Nat} {cs:List (List Int)} (hcs:∀ c∈cs,IsCl N c) {v v':List Int} (hv:Fine N v) (h:pass cs v=some (v',true)):spread cs v=spread cs v':=by
 rw [spread_step hcs hv,h];rfl
theorem spread_done {N:Nat} {cs:List (List Int)} (hcs:∀ c∈cs,IsCl N c) {v v':List Int} (hv:Fine N v) (h:pass cs v=some (v',false)):spread cs v=some v':=by
 rw [spread_step hcs hv,h];rfl
def assume1 (s:Option (List Int)) (n:Int):Option (List Int):=match s with | none=>none | some v=>if vof v n = -1 then none else some (vset v n)
def assume (ls:List Int) (v:List Int):Option (List Int):=ls.foldl assume1 (some v)
theorem assume1_none (ls:List Int):ls.foldl assume1 none=none:=by
 induction ls with
 | nil=>rfl
 | cons n ls ih=>rw [List.foldl_cons];exact ih
def zeroVals (N:Nat):List Int:=List.replicate (N+1) 0
theorem zeroVals_fine (N:Nat):Fine N (zeroVals N):=⟨by simp [zeroVals],fun x hx=>by simp [zeroVals] at hx;exact .inl hx⟩
theorem zeros_zeroVals (N:Nat):zeros (zeroVals N)=N:=by unfold zeros zeroVals;simp
def rupStep (N:Nat) (cs:List (List Int)) (c:List Int):Bool:=match assume (c.map Neg.neg) (zeroVals N) with | none=>true | some v=>(spread cs v).isNone
end Qm

namespace Go.Proofs.YtedbhlgjcnnknaaGreatDoor
section
open Go.RowKit
theorem vof_bd {v:List Int} (hv:∀ y∈v,-1<=y/\y<=1) (k:Nat) : -1<=v.getD k 0/\v.getD k 0<=1:=by
 rw [qgd]
 by_cases h:k<v.length
 ·rw [qge h];exact hv _ (List.getElem_mem h)
 rw [List.getElem?_eq_none (by omega)];simp
theorem of_any (A:Option Addr) (n cap:Nat) (v:List Int) (x:Int) (w:World) (S:Nat->Prop) (hr:RInts w S A n v) (hn:n<=401) (hx : -(n:Int)<x/\x<n) (hv:∀ y∈v,-1<=y/\y<=1) :
  Calls Tryz.prog 59 #[.slice A n cap,.int .i64 x] w fun e w'=>e=.returned (.int .i64 (Qm.vof v x))/\w=w':=by
 by_cases h0:x<0
 ·obtain ⟨k,rfl⟩:∃ k:Nat,x = -(k:Int):=⟨(-x).toNat,by omega⟩
  have Hr:Hid (Qm.vof v (-(k:Int)) = - v.getD k 0):=by show _=_;unfold Qm.vof;rw [if_pos h0];congr 2;omega
  obtain ⟨b,o,rfl,hb,hc⟩:=hr.at_ (k:=k) (by omega)
  have hbd:=vof_bd hv k
  clear hv hr
  generalize v.getD k 0=u at hc hbd Hr
  have hk:(k:Int)<n:=by omega
  clear hx
  go_enter Tryz.func59,Tryz.ntmps59
  go_wp2
  go_ret
  exact ⟨ret_int Hr.out.symm,rfl⟩
 obtain ⟨k,rfl⟩:∃ k:Nat,x=(k:Int):=⟨x.toNat,by omega⟩
 have Hr:Hid (Qm.vof v (k:Int)=v.getD k 0):=by show _=_;unfold Qm.vof;rw [if_neg h0];congr 1
 obtain ⟨b,o,rfl,hb,hc⟩:=hr.at_ (k:=k) (by omega)
 have hbd:=vof_bd hv k
 clear hv hr
 generalize v.getD k 0=u at hc hbd Hr
 have hk:(k:Int)<n:=by omega
 clear hx
 go_enter Tryz.func59,Tryz.ntmps59
 go_wp2
 go_ret
 exact ⟨ret_int Hr.out.symm,rfl⟩
theorem map_set_int (v:List Int) (k:Nat) (x:Int):(v.map (Value.int .i64)).set k (.int .i64 x)=(v.set k x).map (Value.int .i64):=by rw [List.map_set]
end
section
open Go.RowKit
theorem fine_bd {N:Nat} {v:List Int} (h:Qm.Fine N v):∀ y∈v,-1<=y/\y<=1:=fun y hy=>by have:=h.2 y hy;omega
def Lits (N:Nat) (ls:List (List (List Int))):Prop:=∀ l∈ls,∀ c∈l,Qm.IsCl N c
theorem Lits.flat {N:Nat} {ls:List (List (List Int))} (h:Lits N ls):∀ c∈ls.flatten,Qm.IsCl N c:=by
 intro c hc
 obtain ⟨l,hl,hc⟩:=List.mem_flatten.1 hc
 exact h l hl c hc
def Head (cs:List (List Int)) (v vc:List Int) (k:Nat) (m:Bool):Prop:=if m then Qm.zeros vc<k/\Qm.spread cs vc=Qm.spread cs v else Qm.spread cs v=some vc
def InLists (ls:List (List (List Int))) (v1 vc:List Int) (m:Bool) (j:Nat):Prop:=(ls.take j).flatten.foldl Qm.passOne (some (v1,false))=some (vc,m)
def InList (s:Option (List Int×Bool)) (l:List (List Int)) (vc:List Int) (m:Bool) (j:Nat):Prop:=(l.take j).foldl Qm.passOne s=some (vc,m)
def InScan (v c:List Int) (k:Nat) (l o:Int):Prop:=(c.take k).foldl (Qm.scanStep v) (0,0)=(l,o)/\0<=o/\o<=k
theorem InScan.next {v c:List Int} {q:Nat} {l o x:Int} (h:InScan v c q l o) (hq:q<c.length) (hx:c.getD q 0=x):(c.take (q+1)).foldl (Qm.scanStep v) (0,0)=Qm.scanStep v (l,o) x:=by
 rw [Qm.foldl_take_succ _ _ _ _ 0 hq,h.1,hx]
theorem scanStep_hold {v:List Int} {l o x:Int} (ho:0<=o) (h:Qm.vof v x=1):Qm.scanStep v (l,o) x=(l,-1):=by
 unfold Qm.scanStep;rw [if_neg (by simp;omega),if_pos h]
theorem scanStep_new {v:List Int} {l o x:Int} (ho:0<=o) (h:Qm.vof v x=0) (h1:o=0\/o=1/\l≠x):Qm.scanStep v (l,o) x=(x,o+1):=by
 unfold Qm.scanStep;rw [if_neg (by simp;omega),if_neg (by omega),if_pos ⟨h,h1⟩]
theorem scanStep_old {v:List Int} {l o x:Int} (ho:0<=o) (h:Qm.vof v x=0) (h1:¬ (o=0\/o=1/\l≠x)):Qm.scanStep v (l,o) x=(l,o):=by
 unfold Qm.scanStep;rw [if_neg (by simp;omega),if_neg (by omega),if_neg (fun h=>h1 h.2)]
theorem scanStep_fail {v:List Int} {l o x:Int} (ho:0<=o) (h:Qm.vof v x = -1):Qm.scanStep v (l,o) x=(l,o):=by
 unfold Qm.scanStep;rw [if_neg (by simp;omega),if_neg (by omega),if_neg (fun h=>by omega)]
theorem InScan.done {v c:List Int} {q:Nat} {l o:Int} (h:InScan v c q l o) (hq:q=c.length):Qm.scan v c=(l,o):=by
 unfold Qm.scan;rw [<- h.1,hq,List.take_length]
theorem InList.next_other {s:Option (List Int×Bool)} {l:List (List Int)} {vc:List Int} {m:Bool} {q:Nat} {c:List Int} (h:InList s l vc m q) (hq:q<l.length) (hc:l.getD q []=c) (h0:(Qm.scan vc c).2≠0) (h1:(Qm.scan vc c).2≠1) :
  InList s l vc m (q+1):=by
 unfold InList at h ⊢
 rw [Qm.foldl_take_succ _ _ _ _ [] hq,h,hc,Qm.passOne_other h0 h1]
theorem InList.next_unit {s:Option (List Int×Bool)} {l:List (List Int)} {vc:List Int} {m:Bool} {q:Nat} {c:List Int} {x:Int} (h:InList s l vc m q) (hq:q<l.length) (hc:l.getD q []=c) (h0:Qm.scan vc c=(x,1)) :
  InList s l (Qm.vset vc x) true (q+1):=by
 unfold InList at h ⊢
 rw [Qm.foldl_take_succ _ _ _ _ [] hq,h,hc,Qm.passOne_unit (by rw [h0]),h0]
theorem InLists.next {ls:List (List (List Int))} {v1 vc v3:List Int} {m m3:Bool} {j q:Nat} (h:InLists ls v1 vc m j) (hj:j<ls.length) (h6:InList (some (vc,m)) (ls.getD j []) v3 m3 q) (hq:q=(ls.getD j []).length) :
  InLists ls v1 v3 m3 (j+1):=by
 unfold InLists at h ⊢
 unfold InList at h6
 rw [hq,List.take_length] at h6
 rw [Qm.flatten_take_succ _ _ hj,List.foldl_append,h,h6]
theorem InLists.fails {ls:List (List (List Int))} {v1 vc v3:List Int} {m m3:Bool} {j q:Nat} {c:List Int} (h:InLists ls v1 vc m j) (hj:j<ls.length) (h6:InList (some (vc,m)) (ls.getD j []) v3 m3 q) (hq:q<(ls.getD j []).length)
  (hc:(ls.getD j []).getD q []=c) (h0:(Qm.scan v3 c).2=0):Qm.pass ls.flatten v1=none:=by
 have e:ls.flatten=(ls.take (j+1)).flatten++(ls.drop (j+1)).flatten:=by rw [<- List.flatten_append,List.take_append_drop]
 unfold InLists at h
 unfold InList at h6
 unfold Qm.pass
 rw [e,List.foldl_append,Qm.flatten_take_succ _ _ hj,List.foldl_append,h,Qm.foldl_take_drop _ _ (ls.getD j []) (q+1),Qm.foldl_take_succ _ _ _ _ [] hq,h6,hc,Qm.passOne_fails h0,Qm.passOne_none,Qm.passOne_none]
theorem InLists.all {ls:List (List (List Int))} {v1 vc:List Int} {m:Bool} {j:Nat} (h:InLists ls v1 vc m j) (hj:j=ls.length):Qm.pass ls.flatten v1=some (vc,m):=by
 unfold InLists at h
 rw [hj,List.take_length] at h
 exact h
theorem Head.next {N:Nat} {cs:List (List Int)} {v v1 v2:List Int} {m:Bool} (hcs:∀ c∈cs,Qm.IsCl N c) (hf:Qm.Fine N v1) (h:Qm.spread cs v1=Qm.spread cs v) (hp:Qm.pass cs v1=some (v2,m)):Head cs v v2 (Qm.zeros v1) m:=by
 cases m with
 | true =>
  refine ⟨?_,by rw [<- h];exact (Qm.spread_more hcs hf hp).symm⟩
  rcases (Qm.pass_ok hcs hf hp).2 with ⟨_,h⟩ | ⟨h,_⟩
  ·cases h
  exact h
 | false=>exact (h.symm.trans (Qm.spread_done hcs hf hp):Qm.spread cs v=some v2)
theorem getD_mem {α:Type} {l:List α} {k:Nat} {d:α} (h:k<l.length):l.getD k d∈l:=by
 rw [qgd,qge h];exact List.getElem_mem h
end
section
open Go.RowKit
def zeroObj (N:Nat):Obj:=.cells ((Qm.zeroVals N).map (Value.int .i64)).toArray 3
theorem int_info:(Tryz.prog.info? 3).map (fun i=>(i.zero,i.size,i.bytes))=some (some (.int .i64 0),1,8):=by kernel_rfl
theorem run_make_zeros (N:Nat) (hN:N<=400) (w:World):(Instr.makeSlice 113 (.int .i64 ((N:Int)+1)) (.int .i64 ((N:Int)+1))).run Tryz.prog w=.ok (.slice (some ⟨w.heap.size,0,none⟩) (N+1) (N+1)) (w.alloc (zeroObj N)):=by
 obtain ⟨i,hi,hz,h1,h8⟩:=info_parts int_info
 have hr:=run_make (P:=Tryz.prog) w 113 3 i (.int .i64 0) Tryz.underlying113 hi hz .i64 .i64 ((N:Int)+1) ((N:Int)+1) (by omega) (by omega) (by rw [h8];omega) (by omega)
 rw [hr]
 have e:((N:Int)+1).toNat=N+1:=by omega
 rw [e,h1,Nat.mul_one]
 have:madeCells (Value.int .i64 0).cells (N+1)=((Qm.zeroVals N).map (Value.int .i64)).toArray:=by
  apply Array.ext'
  have:=toList_madeCells_one (Value.int .i64 0) (N+1)
  show (madeCells #[Value.int .i64 0] (N+1)).toList=_
  rw [this];simp [Qm.zeroVals]
 rw [this];rfl
theorem whole_zeros (w:World) (N b:Nat) (hb:b=w.heap.size):Whole (w.alloc (zeroObj N)) b 3 ((Qm.zeroVals N).map (Value.int .i64)):=Whole.new w b 3 _ hb
theorem rlists1 {w:World} {S:Nat->Prop} {b:Nat} {t:TypeId} {A1:Option Addr} {n1 c1:Nat} {cs1:List (List Int)} (hw:Whole w b t [.slice A1 n1 c1]) (hB:S b) (h1:RClauses w S A1 n1 cs1)
  (hc1:n1<=c1/\c1<=maxLen):RLists w S (some ⟨b,0,none⟩) 1 [cs1]:=by
 refine ⟨[(A1,n1,c1)],hw.row hB rfl,rfl,fun j h c hh hc=>?_⟩
 match j with
 | 0=>simp at hh hc;subst hh hc;exact ⟨h1,hc1⟩
 | j+1=>simp at hh
end
section
open Go.RowKit
def badLit (vars n:Int):Bool:=decide (vars<0) || n == 0 || decide (n < -vars) || decide (n > vars)
def ckClause (c:List Int) (vars:Int):Int:=if 60<c.length then 2 else if c.any (badLit vars) then 5 else 0
theorem any_take_succ (p:Int->Bool) (c:List Int) (k:Nat) (h:k<c.length):(c.take (k+1)).any p=((c.take k).any p || p (c.getD k 0)):=by
 rw [List.take_succ_eq_append_getElem h];rw [List.any_append];simp [List.getD,h]
theorem any_of_take (p:Int->Bool) (c:List Int) (k:Nat) (h:(c.take k).any p=true):c.any p=true:=by
 rw [List.any_eq_true] at h ⊢
 obtain ⟨x,hx,hp⟩:=h
 exact ⟨x,List.mem_of_mem_take hx,hp⟩
theorem ckClause_bad {c:List Int} {vars x:Int} {n k:Nat} (hn:c.length=n) (h60:¬ 60<n) (hk:k<n) (hx:c.getD k 0=x) (h:badLit vars x=true):ckClause c vars=5:=by
 subst hn hx
 unfold ckClause
 rw [if_neg h60,if_pos]
 exact any_of_take _ _ (k+1) (by rw [any_take_succ _ _ _ hk,h];simp)
theorem ckClause_end {c:List Int} {vars:Int} {n k:Nat} (hn:c.length=n) (h60:¬ 60<n) (hk:¬ k<n) (h:(c.take k).any (badLit vars)=false):ckClause c vars=0:=by
 subst hn
 unfold ckClause
 rw [List.take_of_length_le (by omega)] at h
 rw [if_neg h60,if_neg]
 rw [h];simp
theorem anyBad_step {c:List Int} {p:Int->Bool} {x:Int} {n k:Nat} (hn:c.length=n) (hk:k<n) (hx:c.getD k 0=x) (h:(c.take k).any p=false) (h1:p x=false):(c.take (k+1)).any p=false:=by
 subst hn hx
 rw [any_take_succ _ _ _ hk,h,h1];rfl
theorem badLit_yes {vars x:Int} (h:vars<0\/x=0\/x < -vars\/vars<x):badLit vars x=true:=by
 simp only [badLit,Bool.or_eq_true,decide_eq_true_eq,beq_iff_eq];omega
theorem badLit_no {vars x:Int} (h:¬ (vars<0\/x=0\/x < -vars\/vars<x)):badLit vars x=false:=by
 rw [Bool.eq_false_iff];intro h';simp only [badLit,Bool.or_eq_true,decide_eq_true_eq,beq_iff_eq] at h';omega
theorem checkClause_any (A:Option Addr) (n cap:Nat) (c:List Int) (vars:Int) (w:World) (S:Nat->Prop) (hr:RInts w S A n c) (hn:n<=maxLen) (hv : -9223372036854775808<=vars) (hv':vars<=9223372036854775807) :
  Calls Tryz.prog 69 #[.slice A n cap,.int .i64 vars] w fun e w'=>e=.returned (.int .i64 (ckClause c vars))/\w=w':=by
 unfold maxLen at hn
 have Hlen:=qh hr.len
 by_cases h60:60<n
 ·have h60':(60:Int)<(n:Int):=by omega
  go_enter Tryz.func69,Tryz.ntmps69
  go_wp2
  go_ret
  exact ⟨ret_int (by unfold ckClause;rw [if_pos (by have:=Hlen.out;omega)]),rfl⟩
 have hd60:decide ((60:Int)<(n:Int))=false:=by simp;omega
 go_enter Tryz.func69,Tryz.ntmps69
 go_wp2
 go_loop [12] (fun i=>∃ k:Nat,k<=n/\i=.int .i64 k/\(c.take k).any (badLit vars)=false) (fun i=>n - (intOf i).toNat)
 case atStart=>exact ⟨0,Nat.zero_le _,rfl,rfl⟩
 case round =>
  obtain ⟨k,hk,rfl,hany⟩:=hrel
  have Hany:=qh hany;clear hany
  by_cases hlt:k<n
  ·obtain ⟨b,o,rfl,hb,hc⟩:=hr.at_ hlt
   generalize hx:c.getD k 0=x at hc
   have Hx:=qh hx;clear hx
   rcases Decidable.em (x=0) with h0 | h0
   ·have h1:(x == 0)=true:=by simpa using h0
    have h2:=qh h0;clear h0
    go_wp2
    all_goals (go_ret;exact ⟨ret_int (ckClause_bad Hlen.out h60 hlt Hx.out (badLit_yes (.inr (.inl h2.out)))).symm,rfl⟩)
   have h1:(x == 0)=false:=by simpa using h0
   go_wp2
   all_goals first
    | (go_ret;refine ⟨ret_int ?_,rfl⟩;exact (ckClause_bad Hlen.out h60 hlt Hx.out (badLit_yes (by omega))).symm)
    | (
     go_round
     case rel=>refine ⟨k+1,by omega,by go_num,anyBad_step Hlen.out hlt Hx.out Hany.out (badLit_no (by omega))⟩
     case measure=>simp [intOf];omega)
  go_wp2
  go_ret
  exact ⟨ret_int (ckClause_end Hlen.out h60 hlt Hany.out).symm,rfl⟩
end
section
open Go.RowKit
def ckClauses (cs:List (List Int)) (vars:Int):Int:=match cs.find? (fun c=>ckClause c vars != 0) with | some c=>ckClause c vars | none=>0
def ckFormula (vars:Int) (cs:List (List Int)):Int:=if vars<0\/400<vars then 3 else if 4000<cs.length then 2 else ckClauses cs vars
def ckProof (cs:List (List Int)) (vars:Int):Int:=if vars<0\/400<vars then 3 else if 40000<cs.length then 2 else ckClauses cs vars
def NoneBad (cs:List (List Int)) (vars:Int) (k:Nat):Prop:=∀ c∈cs.take k,ckClause c vars=0
theorem ckClauses_bad {cs:List (List Int)} {vars:Int} {k:Nat} {c:List Int} (h:NoneBad cs vars k) (hk:k<cs.length) (hc:cs.getD k []=c) (hb:(ckClause c vars != 0)=true):ckClauses cs vars=ckClause c vars:=by
 have e:cs=cs.take k++c :: cs.drop (k+1):=by
  rw [qgd,qge hk,Option.getD_some] at hc
  rw [<- hc,List.getElem_cons_drop,List.take_append_drop]
 unfold ckClauses
 rw [e,List.find?_append]
 have:(cs.take k).find? (fun c=>ckClause c vars != 0)=none:=by
  rw [List.find?_eq_none];intro x hx;rw [h x hx];simp
 rw [this,Option.none_or];simp only [List.find?_cons,hb]
theorem NoneBad.next {cs:List (List Int)} {vars:Int} {k:Nat} {c:List Int} (h:NoneBad cs vars k) (hk:k<cs.length) (hc:cs.getD k []=c) (hb:(ckClause c vars != 0)=false):NoneBad cs vars (k+1):=by
 intro x hx
 rw [List.take_succ_eq_append_getElem hk] at hx
 rcases List.mem_append.1 hx with hx | hx
 ·exact h x hx
 rw [qgd,qge hk,Option.getD_some] at hc
 simp at hx;subst hx;rw [hc];simpa using hb
theorem ckClauses_good {cs:List (List Int)} {vars:Int} {k:Nat} (h:NoneBad cs vars k) (hk:k=cs.length):ckClauses cs vars=0:=by
 unfold ckClauses
 have:cs.find? (fun c=>ckClause c vars != 0)=none:=by
  rw [List.find?_eq_none];intro x hx;rw [h x (by rw [hk,List.take_length];exact hx)];simp
 rw [this]
theorem checkFormula_any (A:Option Addr) (n cap:Nat) (cs:List (List Int)) (vars:Int) (w:World) (S:Nat->Prop) (hr:RClauses w S A n cs) (hS:∀ k,S k->k<w.heap.size) (hn:n<=maxLen) (hv : -9223372036854775808<=vars) (hv':vars<=9223372036854775807) :
  Calls Tryz.prog 23 #[.agg #[.int .i64 vars,.slice A n cap]] w fun e w'=>e=.returned (.int .i64 (ckFormula vars cs))/\Below w.heap.size w w':=by
 unfold maxLen at hn
 have Hlen:=qh hr.len
 have Hr:=qh hr;clear hr
 have Hw:Hid (∀ o,Below w.heap.size w (w.alloc o)):=fun o=>(qbr _ _).alloc (qr _) o
 by_cases h0:vars<0
 ·go_enter Tryz.func23,Tryz.ntmps23
  go_wp2_with fail
  go_ret
  exact ⟨ret_int (by unfold ckFormula;rw [if_pos (.inl h0)]),Hw.out _⟩
 have h0':decide (vars<0)=false:=by simpa using h0
 by_cases h4:400<vars
 ·go_enter Tryz.func23,Tryz.ntmps23
  go_wp2_with fail
  go_ret
  exact ⟨ret_int (by unfold ckFormula;rw [if_pos (.inr h4)]),Hw.out _⟩
 have h4':decide (400<vars)=false:=by simpa using h4
 have H3:Hid (¬ (vars<0\/400<vars)):=by show ¬ _;omega
 by_cases hm:4000<n
 ·have hm':decide ((4000:Int)<(n:Int))=true:=by simp;omega
  go_enter Tryz.func23,Tryz.ntmps23
  go_wp2_with fail
  go_ret
  exact ⟨ret_int (by unfold ckFormula;rw [if_neg H3.out,if_pos (by rw [Hlen.out];exact hm)]),Hw.out _⟩
 have hm':decide ((4000:Int)<(n:Int))=false:=by simp;omega
 have H5:Hid (ckFormula vars cs=ckClauses cs vars):=by show _=_;unfold ckFormula;rw [if_neg H3.out,if_neg (by rw [Hlen.out];exact hm)]
 go_enter Tryz.func23,Tryz.ntmps23
 go_wp2_with fail
 go_loopg [21] n (fun g i wr=>∃ k:Nat,Hid (k+g=n)/\i=.int .i64 k/\NoneBad cs vars k/\Hid (w.alloc (.cells #[.int .i64 vars,.slice A n cap] 33)=wr))
 case atStart=>exact ⟨0,Nat.zero_add _,rfl,fun c hc=>by simp at hc,rfl⟩
 case round =>
  obtain ⟨k,Hk,rfl,hbad,Hwr⟩:=hrel
  obtain rfl:=Hwr.out
  clear Hwr
  have Hbad:=qh hbad;clear hbad
  by_cases hk:k<n
  ·obtain ⟨b,o,A',n',c',rfl,hb,hcell,hc,hnc,hcm⟩:=(Hr.out.below (Hw.out (.cells #[.int .i64 vars,.slice A n cap] 33)) hS).at_ hk
   unfold maxLen at hcm
   have hcall:=checkClause_any A' n' c' _ vars _ _ hc (by unfold maxLen;omega) hv hv'
   generalize hcc:cs.getD k []=c at hcall
   have Hcc:=qh hcc;clear hcc hc
   generalize hx:ckClause c vars=x at hcall
   have Hx:=qh hx;clear hx
   have Hcall:=qh hcall;clear hcall
   by_cases hx0:(x != 0)=true
   ·go_wp2_with fail
    refine Hcall.out.mono ?_
    rintro e w' ⟨rfl,rfl⟩
    go_wp2_with fail
    go_ret
    exact ⟨ret_int (by rw [H5.out,ckClauses_bad Hbad.out (by rw [Hlen.out];exact hk) Hcc.out (by rw [Hx.out];exact hx0),Hx.out]),Hw.out _⟩
   have hx1:(x != 0)=false:=by simpa using hx0
   clear hx0
   go_wp2_with fail
   refine Hcall.out.mono ?_
   rintro e w' ⟨rfl,rfl⟩
   go_wp2_with fail
   go_roundg (gk - 1)
   case measure=>have:=Hk.out;omega
   case rel=>exact ⟨k+1,by have:=Hk.out;show _=_;omega,by go_num,Hbad.out.next (by rw [Hlen.out];exact hk) Hcc.out (by rw [Hx.out];exact hx1),rfl⟩
  go_wp2_with fail
  go_ret
  exact ⟨ret_int (by rw [H5.out,ckClauses_good Hbad.out (by rw [Hlen.out];have:=Hk.out;omega)]),Hw.out _⟩
end
section
open Go.RowKit
end
section
open Go.RowKit
def badFrom (N:Nat) (cs:List (List Int)) (pf:List (List Int)):Nat->Nat->Int
 | _,0=>-1
 | k,g+1=>if Qm.rupStep N (cs++pf.take k) (pf.getD k []) then badFrom N cs pf (k+1) g else k
def badOf (N:Nat) (cs pf:List (List Int)):Int:=badFrom N cs pf 0 pf.length
def badErr (vars:Int) (cs pf:List (List Int)):Int:=if ckFormula vars cs≠0 then ckFormula vars cs else ckProof pf vars
def badK (vars:Int) (cs pf:List (List Int)):Int:=if badErr vars cs pf≠0 then 0 else badOf vars.toNat cs pf
def refOk (vars:Int) (cs pf:List (List Int)):Bool:=decide (badErr vars cs pf=0) && decide (badK vars cs pf<0) && decide (0<pf.length) && decide ((pf.getD (pf.length - 1) []).length=0)
theorem ck_lits {vars:Int} {cs:List (List Int)} (h:ckClauses cs vars=0):∀ c∈cs,ckClause c vars=0:=by
 intro c hc
 unfold ckClauses at h
 split at h
 ·rename_i d hd
  have:=List.find?_some hd
  simp at this;exact absurd h this
 rename_i hn
 have:=List.find?_eq_none.1 hn c hc
 simpa using this
theorem ckClause_lit {N:Nat} {c:List Int} (h:ckClause c (N:Int)=0):Qm.IsCl N c/\c.length<=60:=by
 unfold ckClause at h
 split at h
 ·omega
 split at h
 ·omega
 rename_i h1 h2
 refine ⟨fun x hx=>?_,by omega⟩
 have h3:badLit (N:Int) x=false:=by
  cases hb:badLit (N:Int) x
  ·rfl
  exact absurd (List.any_eq_true.2 ⟨x,hx,hb⟩) h2
 have h4:¬ ((N:Int)<0\/x=0\/x < -(N:Int)\/(N:Int)<x):=by
  intro h5
  rw [badLit_yes h5] at h3;cases h3
 exact ⟨by omega,by omega⟩
theorem ckFormula_ok {vars:Int} {cs:List (List Int)} (h:ckFormula vars cs=0):∃ N:Nat,vars=N/\N<=400/\cs.length<=4000/\∀ c∈cs,Qm.IsCl N c/\c.length<=60:=by
 unfold ckFormula at h
 split at h
 ·omega
 split at h
 ·omega
 obtain ⟨N,rfl⟩:∃ N:Nat,vars=N:=⟨vars.toNat,by omega⟩
 exact ⟨N,rfl,by omega,by omega,fun c hc=>ckClause_lit (ck_lits h c hc)⟩
end
section
open Go.RowKit
def idxOf (p:Int->Bool) (xs:List Int):Int:=match xs.findIdx? p with | some i=>(i:Int) | none=>-1
theorem idxOf_hit {p:Int->Bool} {xs:List Int} {k:Nat} {x:Int} (hk:k<xs.length) (hx:xs.getD k 0=x) (hp:p x=true) (hn:(xs.take k).any p=false):idxOf p xs=k:=by
 have e:xs=xs.take k++x :: xs.drop (k+1):=by
  rw [qgd,qge hk,Option.getD_some] at hx
  rw [<- hx,List.getElem_cons_drop,List.take_append_drop]
 have h1:(xs.take k).findIdx? p=none:=by
  rw [List.findIdx?_eq_none_iff];intro y hy;exact by simpa using List.any_eq_false.1 hn y hy
 unfold idxOf
 rw [e,List.findIdx?_append,h1]
 simp [List.findIdx?_cons,hp];omega
theorem idxOf_none {p:Int->Bool} {xs:List Int} (h:xs.any p=false):idxOf p xs = -1:=by
 have h1:xs.findIdx? p=none:=by
  rw [List.findIdx?_eq_none_iff];intro y hy;exact by simpa using List.any_eq_false.1 h y hy
 unfold idxOf;rw [h1]
theorem take_any_succ {p:Int->Bool} {xs:List Int} {k:Nat} {x:Int} (hk:k<xs.length) (hx:xs.getD k 0=x) (hp:p x=false) (hn:(xs.take k).any p=false):(xs.take (k+1)).any p=false:=by
 rw [qgd,qge hk,Option.getD_some] at hx
 rw [List.take_succ_eq_append_getElem hk,List.any_append,hn,hx];simp [hp]
end
section
open Go.RowKit
end
end Go.Proofs.YtedbhlgjcnnknaaGreatDoor

namespace Qm
def litHolds (m:List Bool) (n:Int):Bool:=m.getD (n.natAbs - 1) false == decide (0<n)
def holdsF (m:List Bool) (cs:List (List Int)):Bool:=cs.all fun c=>c.any (litHolds m)
theorem litHolds_neg (m:List Bool) {n:Int} (h:n≠0):litHolds m (-n) = !litHolds m n:=by
 unfold litHolds
 rw [Int.natAbs_neg]
 have:decide (0 < -n) = !decide (0<n):=by
  rw [Bool.eq_iff_iff];simp;omega
 rw [this]
 cases m.getD (n.natAbs - 1) false <;> cases decide (0<n) <;> rfl
def Agrees (N:Nat) (m:List Bool) (v:List Int):Prop:=∀ n,IsLit N n->vof v n=1->litHolds m n=true
theorem Agrees.fails {N:Nat} {m:List Bool} {v:List Int} (h:Agrees N m v) {n:Int} (hn:IsLit N n) (hv:vof v n = -1):litHolds m n=false:=by
 have h1:vof v (-n)=1:=by rw [vof_neg v n hn.1,hv];rfl
 have h2:=h (-n) ⟨by have:=hn.1;omega,by rw [Int.natAbs_neg];exact hn.2⟩ h1
 rw [litHolds_neg m hn.1] at h2;simpa using h2
theorem Agrees.zero (N:Nat) (m:List Bool):Agrees N m (zeroVals N):=by
 intro n _ h
 have hz:∀ k,(zeroVals N).getD k 0=0:=by
  intro k;rw [List.getD_eq_getElem?_getD,zeroVals,List.getElem?_replicate];split <;> rfl
 unfold vof at h
 rw [hz,hz] at h
 split at h <;> omega
theorem Agrees.set {N:Nat} {m:List Bool} {v:List Int} (hf:Fine N v) (h:Agrees N m v) {n:Int} (hn:IsLit N n) (hm:litHolds m n=true):Agrees N m (vset v n):=by
 intro k hk h1
 rw [vof_vset hf hn k hk.1] at h1
 split at h1
 ·rename_i e;rw [e];exact hm
 split at h1
 ·omega
 exact h k hk h1
theorem scan_sound {N:Nat} {m:List Bool} {v c:List Int} (hf:Fine N v) (h:Agrees N m v) (hc:IsCl N c) (hh:c.any (litHolds m)=true) :
  (scan v c).2≠0/\((scan v c).2=1->litHolds m (scan v c).1=true):=by
 obtain ⟨x,hx,hxm⟩:=List.any_eq_true.1 hh
 rcases scan_cases v c with ⟨e,_⟩ | ⟨e,h2⟩ | ⟨e,h2,h3,h4⟩ | ⟨e,_⟩
 ·exact ⟨by omega,by omega⟩
 ·have:=h2 x hx
  have hv:vof v x = -1:=by rcases vof_range hf x with a | a | a <;> omega
  rw [h.fails (hc x hx) hv] at hxm;cases hxm
 ·refine ⟨by omega,fun _=>?_⟩
  have:=h4 x hx
  rcases vof_range hf x with a | a | a
  ·rw [<- this.2 a];exact hxm
  ·exact absurd a this.1
  rw [h.fails (hc x hx) a] at hxm;cases hxm
 exact ⟨by omega,by omega⟩
theorem passOne_sound {N:Nat} {m:List Bool} {v c:List Int} {b:Bool} (hf:Fine N v) (h:Agrees N m v) (hc:IsCl N c) (hh:c.any (litHolds m)=true) :
  ∃ v' b',passOne (some (v,b)) c=some (v',b')/\Fine N v'/\Agrees N m v':=by
 obtain ⟨h0,h1⟩:=scan_sound hf h hc hh
 by_cases e:(scan v c).2=1
 ·exact ⟨_,_,passOne_unit e,vset_fine hf _,h.set hf (hc _ (scan_unit_mem e)) (h1 e)⟩
 exact ⟨_,_,passOne_other h0 e,hf,h⟩
theorem pass_sound {N:Nat} {m:List Bool} {cs:List (List Int)} (hc:∀ c∈cs,IsCl N c) (hh:holdsF m cs=true):∀ {v:List Int} {b:Bool},Fine N v->Agrees N m v ->
  ∃ v' b',cs.foldl passOne (some (v,b))=some (v',b')/\Fine N v'/\Agrees N m v':=by
 induction cs with
 | nil=>intro v b hf h;exact ⟨v,b,rfl,hf,h⟩
 | cons c cs ih =>
  intro v b hf h
  have hh':=List.all_eq_true.1 hh
  obtain ⟨v1,b1,e1,hf1,h1⟩:=passOne_sound (b:=b) hf h (hc c (by simp)) (hh' c (by simp))
  rw [List.foldl_cons,e1]
  exact ih (fun d hd=>hc d (by simp [hd])) (List.all_eq_true.2 fun d hd=>hh' d (by simp [hd])) hf1 h1
theorem spreadN_sound {N:Nat} {m:List Bool} {cs:List (List Int)} (hc:∀ c∈cs,IsCl N c) (hh:holdsF m cs=true):∀ (k:Nat) {v:List Int},Fine N v->Agrees N m v ->
  ∃ v',spreadN cs k v=some v'/\Fine N v'/\Agrees N m v':=by
 intro k
 induction k with
 | zero=>intro v hf h;exact ⟨v,rfl,hf,h⟩
 | succ k ih =>
  intro v hf h
  obtain ⟨v1,b1,e1,hf1,h1⟩:=pass_sound hc hh (b:=false) hf h
  have e1':pass cs v=some (v1,b1):=e1
  simp only [spreadN,e1']
  cases b1 with
  | true=>exact ih hf1 h1
  | false=>exact ⟨v1,rfl,hf1,h1⟩
theorem spread_sound {N:Nat} {m:List Bool} {cs:List (List Int)} (hc:∀ c∈cs,IsCl N c) (hh:holdsF m cs=true) {v:List Int} (hf:Fine N v) (h:Agrees N m v):∃ v',spread cs v=some v'/\Fine N v'/\Agrees N m v':=
 spreadN_sound hc hh _ hf h
theorem assume_sound {N:Nat} {m:List Bool} {ls:List Int} (hl:∀ n∈ls,IsLit N n/\litHolds m n=true):∀ {v:List Int},Fine N v->Agrees N m v->∃ v',ls.foldl assume1 (some v)=some v'/\Fine N v'/\Agrees N m v':=by
 induction ls with
 | nil=>intro v hf h;exact ⟨v,rfl,hf,h⟩
 | cons n ls ih =>
  intro v hf h
  obtain ⟨hn,hm⟩:=hl n (by simp)
  have hv:vof v n ≠ -1:=by intro e;rw [h.fails hn e] at hm;cases hm
  rw [List.foldl_cons]
  have:assume1 (some v) n=some (vset v n):=by simp only [assume1];rw [if_neg hv]
  rw [this]
  exact ih (fun k hk=>hl k (by simp [hk])) (vset_fine hf _) (h.set hf hn hm)
end Qm

namespace Go.Proofs.YtedbhlgjcnnknaaGreatDoor
open Go.RowKit
end Go.Proofs.YtedbhlgjcnnknaaGreatDoor
