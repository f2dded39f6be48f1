/- Parts. -/
import Derived.Test.YtedbhlgjcnnknaaGreatDoorQ3
import Init.Data.List
set_option linter.unusedVariables false
set_option linter.unusedSimpArgs false
set_option linter.unusedSectionVars false
set_option maxRecDepth 100000
set_option maxHeartbeats 12800000
namespace Qm
def gate (v:Int) (l:List Int):List (List Int):=l.map (fun n=>[-v,n])++[v :: l.map Neg.neg]
theorem holdsF_iff {m:List Bool} {cs:List (List Int)}:holdsF m cs=true↔∀ c∈cs,c.any (litHolds m)=true:=by
 unfold holdsF;rw [List.all_eq_true]
theorem gate_means {m:List Bool} {v:Int} {l:List Int} (hv:v≠0) (hl:∀ n∈l,n≠0):holdsF m (gate v l)=true↔litHolds m v=l.all (litHolds m):=by
 rw [holdsF_iff]
 unfold gate
 constructor
 ·intro h
  rw [Bool.eq_iff_iff,List.all_eq_true]
  constructor
  ·intro hv1 n hn
   have:=h [-v,n] (List.mem_append_left _ (List.mem_map.2 ⟨n,hn,rfl⟩))
   simp only [List.any_cons,List.any_nil,Bool.or_false,litHolds_neg m hv,hv1,Bool.not_true,Bool.false_or] at this
   exact this
  intro ha
  have:=h (v :: l.map Neg.neg) (List.mem_append_right _ (List.mem_singleton.2 rfl))
  rw [List.any_cons,Bool.or_eq_true] at this
  rcases this with h1 | h1
  ·exact h1
  obtain ⟨x,hx,hx1⟩:=List.any_eq_true.1 h1
  obtain ⟨n,hn,rfl⟩:=List.mem_map.1 hx
  rw [litHolds_neg m (hl n hn),ha n hn] at hx1
  cases hx1
 intro h c hc
 rcases List.mem_append.1 hc with hc | hc
 ·obtain ⟨n,hn,rfl⟩:=List.mem_map.1 hc
  simp only [List.any_cons,List.any_nil,Bool.or_false,litHolds_neg m hv]
  cases hvv:litHolds m v
  ·rfl
  rw [hvv] at h
  rw [List.all_eq_true.1 h.symm n hn];rfl
 rw [List.mem_singleton.1 hc,List.any_cons]
 cases hvv:litHolds m v
 ·rw [hvv] at h
  rw [Bool.false_or,List.any_eq_true]
  obtain ⟨n,hn,hn1⟩:=List.all_eq_false.1 h.symm
  exact ⟨-n,List.mem_map.2 ⟨n,hn,rfl⟩,by rw [litHolds_neg m (hl n hn)];simpa using hn1⟩
 rfl
inductive Built (M:Nat):Nat->List (List Int)->List (List Int)->List (List Int)->Prop
 | nil:Built M M [] [] []
 | gate {v:Nat} {cs gs hs:List (List Int)} {l:List Int}:Built M v cs gs hs->(∀ n∈l,IsLit v n)->Built M (v+1) (cs++gate ((v:Int)+1) l) (gs++gate ((v:Int)+1) l) hs
 | hard {v:Nat} {cs gs hs:List (List Int)} {c:List Int}:Built M v cs gs hs->IsCl v c->Built M v (cs++[c]) gs (hs++[c])
theorem IsLit.up {N N':Nat} {n:Int} (h:IsLit N n) (hN:N<=N'):IsLit N' n:=⟨h.1,by have:=h.2;omega⟩
section
variable {M v : Nat} {cs gs hs : List (List Int)}
theorem Built.le (h:Built M v cs gs hs):M<=v:=by
 induction h with
 | nil=>exact Nat.le_refl _
 | gate _ _ ih=>omega
 | hard _ _ ih=>exact ih
theorem gate_cl {v:Nat} {l:List Int} (hl:∀ n∈l,IsLit v n):∀ c∈gate ((v:Int)+1) l,IsCl (v+1) c:=by
 intro c hc n hn
 have hv:IsLit (v+1) ((v:Int)+1):=⟨by omega,by omega⟩
 rcases List.mem_append.1 hc with hc | hc
 ·obtain ⟨x,hx,rfl⟩:=List.mem_map.1 hc
  rcases List.mem_cons.1 hn with rfl | hn
  ·exact hv.neg
  rw [List.mem_singleton.1 hn];exact (hl x hx).up (by omega)
 rw [List.mem_singleton.1 hc] at hn
 rcases List.mem_cons.1 hn with rfl | hn
 ·exact hv
 obtain ⟨x,hx,rfl⟩:=List.mem_map.1 hn
 exact ((hl x hx).neg).up (by omega)
theorem Built.cl (h:Built M v cs gs hs):∀ c∈cs,IsCl v c:=by
 induction h with
 | nil=>intro c hc;cases hc
 | gate _ hl ih =>
  intro c hc
  rcases List.mem_append.1 hc with hc | hc
  ·exact fun n hn=>(ih c hc n hn).up (by omega)
  exact gate_cl hl c hc
 | hard _ hcl ih =>
  intro c hc
  rcases List.mem_append.1 hc with hc | hc
  ·exact ih c hc
  rw [List.mem_singleton.1 hc];exact hcl
theorem Built.mem (h:Built M v cs gs hs):∀ c,c∈cs↔c∈gs\/c∈hs:=by
 induction h with
 | nil=>intro c;simp
 | gate _ _ ih=>intro c;rw [List.mem_append,List.mem_append,ih c];exact ⟨fun h=>h.elim (fun h=>h.elim (fun h=>.inl (.inl h)) .inr) (fun h=>.inl (.inr h)),fun h=>h.elim (fun h=>h.elim (fun h=>.inl (.inl h)) .inr) (fun h=>.inl (.inr h))⟩
 | hard _ _ ih=>intro c;rw [List.mem_append,List.mem_append,ih c];exact ⟨fun h=>h.elim (fun h=>h.elim .inl (fun h=>.inr (.inl h))) (fun h=>.inr (.inr h)),fun h=>h.elim (fun h=>.inl (.inl h)) (fun h=>h.elim (fun h=>.inl (.inr h)) .inr)⟩
theorem Built.holds (h:Built M v cs gs hs) {m:List Bool}:holdsF m cs=true↔holdsF m gs=true/\holdsF m hs=true:=by
 rw [holdsF_iff,holdsF_iff,holdsF_iff]
 constructor
 ·intro g;exact ⟨fun c hc=>g c ((h.mem c).2 (.inl hc)),fun c hc=>g c ((h.mem c).2 (.inr hc))⟩
 rintro ⟨g1,g2⟩ c hc
 rcases (h.mem c).1 hc with hc | hc
 ·exact g1 c hc
 exact g2 c hc
theorem litHolds_take {m m':List Bool} {k:Nat} (he:∀ j,j<k->m.getD j false=m'.getD j false) {n:Int} (hn:IsLit k n):litHolds m n=litHolds m' n:=by
 unfold litHolds
 rw [he _ (by have:=hn.1;have:=hn.2;omega)]
theorem holdsF_take_eq {m m':List Bool} {k:Nat} (he:∀ j,j<k->m.getD j false=m'.getD j false) {cs:List (List Int)} (hc:∀ c∈cs,IsCl k c):holdsF m cs=holdsF m' cs:=by
 rw [Bool.eq_iff_iff,holdsF_iff,holdsF_iff]
 have key:∀ c∈cs,c.any (litHolds m)=c.any (litHolds m'):=by
  intro c hcc
  rw [Bool.eq_iff_iff,List.any_eq_true,List.any_eq_true]
  constructor
  ·rintro ⟨n,hn,h⟩;exact ⟨n,hn,by rw [<- litHolds_take he (hc c hcc n hn)];exact h⟩
  rintro ⟨n,hn,h⟩;exact ⟨n,hn,by rw [litHolds_take he (hc c hcc n hn)];exact h⟩
 constructor
 ·intro h c hcc;rw [<- key c hcc];exact h c hcc
 intro h c hcc;rw [key c hcc];exact h c hcc
theorem Built.gcl (h:Built M v cs gs hs):∀ c∈gs,IsCl v c:=fun c hc=>h.cl c ((h.mem c).2 (.inl hc))
theorem getD_app_left {α:Type} {d:α} {l r:List α} {j:Nat} (hj:j<l.length):(l++r).getD j d=l.getD j d:=by
 rw [List.getD_eq_getElem?_getD,List.getD_eq_getElem?_getD,List.getElem?_append_left hj]
theorem Built.ext (h:Built M v cs gs hs) (m0:List Bool) (h0:m0.length=M):∃ m:List Bool,m.length=v/\(∀ j,j<M->m.getD j false=m0.getD j false)/\holdsF m gs=true:=by
 induction h with
 | nil=>exact ⟨m0,h0,fun _ _=>rfl,rfl⟩
 | @gate v cs gs hs l hb hl ih =>
  obtain ⟨m,h1,h2,h3⟩:=ih
  have hagree:∀ j,j<v->(m++[l.all (litHolds m)]).getD j false=m.getD j false:=fun j hj=>getD_app_left (by omega)
  refine ⟨m++[l.all (litHolds m)],by simp [h1],fun j hj=>?_, ?_⟩
  ·rw [hagree j (Nat.lt_of_lt_of_le hj hb.le),h2 j hj]
  have e1:holdsF (m++[l.all (litHolds m)]) gs=true:=by rw [holdsF_take_eq hagree hb.gcl];exact h3
  have e2:holdsF (m++[l.all (litHolds m)]) (Qm.gate ((v:Int)+1) l)=true:=by
   rw [gate_means (by omega) (fun n hn=>(hl n hn).1)]
   have:l.all (litHolds (m++[l.all (litHolds m)]))=l.all (litHolds m):=by
    rw [Bool.eq_iff_iff,List.all_eq_true,List.all_eq_true]
    constructor
    ·intro g n hn;rw [<- litHolds_take hagree (hl n hn)];exact g n hn
    intro g n hn;rw [litHolds_take hagree (hl n hn)];exact g n hn
   rw [this]
   generalize l.all (litHolds m)=b
   unfold litHolds
   have hi:((v:Int)+1).natAbs - 1=v:=by omega
   rw [hi,List.getD_eq_getElem?_getD,List.getElem?_append_right (by omega),h1,Nat.sub_self]
   have hp:(0:Int)<(v:Int)+1:=by omega
   rw [decide_eq_true hp]
   cases b <;> rfl
  rw [holdsF_iff] at e1 e2 ⊢
  intro c hc
  rcases List.mem_append.1 hc with hc | hc
  ·exact e1 c hc
  exact e2 c hc
 | hard _ _ ih=>exact ih
theorem Built.one_ (h:Built M v cs gs hs) {m m':List Bool} (he:∀ j,j<M->m.getD j false=m'.getD j false) (h1:holdsF m gs=true) (h2:holdsF m' gs=true):∀ j,j<v->m.getD j false=m'.getD j false:=by
 induction h with
 | nil=>exact he
 | @gate v cs gs hs l hb hl ih =>
  have s1:=holdsF_iff.1 h1
  have s2:=holdsF_iff.1 h2
  have ih:=ih (holdsF_iff.2 fun c hc=>s1 c (List.mem_append_left _ hc)) (holdsF_iff.2 fun c hc=>s2 c (List.mem_append_left _ hc))
  intro j hj
  by_cases e:j=v
  ·have g1:=(gate_means (m:=m) (v:=(v:Int)+1) (l:=l) (by omega) (fun n hn=>(hl n hn).1)).1 (holdsF_iff.2 fun c hc=>s1 c (List.mem_append_right _ hc))
   have g2:=(gate_means (m:=m') (v:=(v:Int)+1) (l:=l) (by omega) (fun n hn=>(hl n hn).1)).1 (holdsF_iff.2 fun c hc=>s2 c (List.mem_append_right _ hc))
   have:l.all (litHolds m)=l.all (litHolds m'):=by
    rw [Bool.eq_iff_iff,List.all_eq_true,List.all_eq_true]
    constructor
    ·intro g n hn;rw [<- litHolds_take ih (hl n hn)];exact g n hn
    intro g n hn;rw [litHolds_take ih (hl n hn)];exact g n hn
   rw [this,<- g2] at g1
   unfold litHolds at g1
   have hi:((v:Int)+1).natAbs - 1=v:=by omega
   have hp:(0:Int)<(v:Int)+1:=by omega
   rw [hi,decide_eq_true hp] at g1
   subst e
   cases h5:m.getD j false <;> cases h6:m'.getD j false <;> rw [h5,h6] at g1 <;> first | rfl | (exact absurd g1 (by decide))
  exact ih j (by omega)
 | hard _ _ ih=>exact ih h1 h2
theorem scan_inv0 (w c:List Int):ScanSays w c (scan w c):=by
 have:=scan_inv w c [] (0,0) (.inr (.inl ⟨rfl,fun x hx=>by cases hx⟩))
 simpa [scan] using this
theorem Built.total {N:Nat} {w:List Int} (hw:Fine N w) (h:Built M v cs gs hs) (hv:v<=N) (hcl:Closed cs w) (h0:∀ j,j<M->w.getD (j+1) 0≠0):∀ j,j<v->w.getD (j+1) 0≠0:=by
 induction h with
 | nil=>exact h0
 | @gate v cs gs hs l hb hl ih =>
  have ih:=ih (by omega) (fun c hc=>hcl c (List.mem_append_left _ hc))
  intro j hj
  by_cases e:j=v
  ·subst e
   have hlit:∀ n∈l,vof w n=1\/vof w n = -1:=by
    intro n hn
    have hn1:=hl n hn
    have:vof w n≠0:=by
     unfold vof
     by_cases hneg:n<0
     ·rw [if_pos hneg]
      have:=ih ((-n).toNat - 1) (by have:=hn1.2;omega)
      have e1:(-n).toNat - 1+1=(-n).toNat:=by omega
      rw [e1] at this;omega
     rw [if_neg hneg]
     have:=ih (n.toNat - 1) (by have:=hn1.1;have:=hn1.2;omega)
     have e1:n.toNat - 1+1=n.toNat:=by have:=hn1.1;omega
     rw [e1] at this;exact this
    rcases vof_range hw n with h | h | h
    ·exact absurd h this
    ·exact .inl h
    exact .inr h
   intro hz
   have hvz:vof w ((j:Int)+1)=0:=by rw [vof_pos];exact hz
   have hvn:vof w (-((j:Int)+1))=0:=by rw [vof_neg w _ (by omega),hvz];rfl
   by_cases ha:∃ n∈l,vof w n = -1
   ·obtain ⟨n,hn,hn1⟩:=ha
    have hc:=hcl [-((j:Int)+1),n] (List.mem_append_right _ (List.mem_append_left _ (List.mem_map.2 ⟨n,hn,rfl⟩)))
    rcases scan_inv0 w [-((j:Int)+1),n] with ⟨_,x,hx,hx1⟩ | ⟨h2,_⟩ | ⟨h2,_⟩ | ⟨_,_,x,hx,y,hy,hxy,hx0,hy0⟩
    ·rcases List.mem_cons.1 hx with rfl | hx
     ·rw [hvn] at hx1;cases hx1
     rw [List.mem_singleton.1 hx,hn1] at hx1;cases hx1
    ·exact hc.1 h2
    ·exact hc.2 h2
    have g:∀ z∈[-((j:Int)+1),n],vof w z=0->z = -((j:Int)+1):=by
     intro z hz hz0
     rcases List.mem_cons.1 hz with rfl | hz
     ·rfl
     rw [List.mem_singleton.1 hz,hn1] at hz0;cases hz0
    exact hxy ((g x hx hx0).trans (g y hy hy0).symm)
   have hall:∀ n∈l,vof w (-n) = -1:=by
    intro n hn
    rw [vof_neg w n (hl n hn).1]
    rcases hlit n hn with h | h
    ·rw [h]
    exact absurd ⟨n,hn,h⟩ ha
   have hc:=hcl (((j:Int)+1) :: l.map Neg.neg) (List.mem_append_right _ (List.mem_append_right _ (List.mem_singleton.2 rfl)))
   have g:∀ z∈((j:Int)+1) :: l.map Neg.neg,z=(j:Int)+1\/vof w z = -1:=by
    intro z hz
    rcases List.mem_cons.1 hz with rfl | hz
    ·exact .inl rfl
    obtain ⟨n,hn,rfl⟩:=List.mem_map.1 hz
    exact .inr (hall n hn)
   rcases scan_inv0 w (((j:Int)+1) :: l.map Neg.neg) with ⟨_,x,hx,hx1⟩ | ⟨h2,_⟩ | ⟨h2,_⟩ | ⟨_,_,x,hx,y,hy,hxy,hx0,hy0⟩
   ·rcases g x hx with rfl | h
    ·rw [hvz] at hx1;cases hx1
    rw [h] at hx1;cases hx1
   ·exact hc.1 h2
   ·exact hc.2 h2
   have g2:∀ z∈((j:Int)+1) :: l.map Neg.neg,vof w z=0->z=(j:Int)+1:=by
    intro z hz hz0
    rcases g z hz with h | h
    ·exact h
    rw [h] at hz0;cases hz0
   exact hxy ((g2 x hx hx0).trans (g2 y hy hy0).symm)
  exact ih j (by omega)
 | hard _ _ ih=>exact ih hv (fun c hc=>hcl c (List.mem_append_left _ hc))
end
end Qm

namespace Qm
inductive Comes (e:Nat->Nat->Bool):Nat->Nat->Prop
 | one {i j:Nat}:e i j=true->Comes e i j
 | more {i j k:Nat}:e i j=true->Comes e j k->Comes e i k
structure PSt where
 done:Nat->Bool
 num:Nat->Nat
 cyc:Nat
theorem length_filter_lt {α:Type} {p q:α->Bool} (hpq:∀ k,p k=true->q k=true) {x:α} (hx:p x=false) (hy:q x=true):∀ {l:List α},x∈l->(l.filter p).length<(l.filter q).length
 | y :: l,hm=>by
  have hle:∀ l:List α,(l.filter p).length<=(l.filter q).length:=by
   intro l
   induction l with
   | nil=>exact Nat.le_refl _
   | cons z l ih =>
    simp only [List.filter_cons]
    cases hp:p z
    ·cases q z <;> simp <;> omega
    rw [hpq z hp];simp;omega
  simp only [List.filter_cons]
  rcases List.mem_cons.1 hm with rfl | hm
  ·rw [hx,hy]
   have:=hle l
   simp;omega
  have ih:=length_filter_lt hpq hx hy hm
  cases hp:p y
  ·cases q y <;> simp <;> omega
  rw [hpq y hp];simp;omega
end Qm

namespace Go.Proofs.YtedbhlgjcnnknaaGreatDoor
section
open Go.RowKit Qm
structure Dk where
 vars:Nat
 cls:List (List Int)
 pair:Int->Int->Int
structure Chs where
 pick:Nat->Int
 on:Nat->Nat->Int
def addD (d:Dk) (c:List Int):Dk:={ d with cls:=d.cls++[c] }
def bothD (d:Dk) (l:List Int):Dk×Int:=
 match l with
 | [x]=>(d,x)
 | l=>({ d with vars:=d.vars+1,cls:=d.cls++gate ((d.vars:Int)+1) l },(d.vars:Int)+1)
def oneD (d:Dk) (l:List Int):Dk×Int:=((bothD d (l.map Neg.neg)).1,-(bothD d (l.map Neg.neg)).2)
def setPair (d:Dk) (n f v:Int):Dk:={ d with pair:=fun a b=>if a=n/\b=f then v else d.pair a b }
def askD (X:Chs) (a:At) (i k:Nat):Int:=if a.on=true then X.on i k else -X.on i k
def meanStep (X:Chs) (ps:List Pk) (a:At) (but:Int) (s:Dk×List Int) (i:Nat):Dk×List Int:=
 if (i:Int)=but\/(pkOf ps i).nm≠a.nm\/fitsP a (pkOf ps i).ver (pkOf ps i).slot=false then s
 else if a.fl=[] then (s.1,s.2++[X.pick i])
 else match ixOf a.fl (pkOf ps i).fs with
  | none=>s
  | some k =>
   if s.1.pair (X.pick i) (askD X a i k)=0 then
    (setPair (bothD s.1 [X.pick i,askD X a i k]).1 (X.pick i) (askD X a i k) (bothD s.1 [X.pick i,askD X a i k]).2,s.2++[(bothD s.1 [X.pick i,askD X a i k]).2])
   else (s.1,s.2++[s.1.pair (X.pick i) (askD X a i k)])
def meansTo (X:Chs) (ps:List Pk) (a:At) (but:Int) (d:Dk):Nat->Dk×List Int
 | 0=>(d,[])
 | j+1=>meanStep X ps a but (meansTo X ps a but d j) j
def meansD (X:Chs) (ps:List Pk) (a:At) (but:Int) (d:Dk):Dk×List Int:=meansTo X ps a but d ps.length
def ifLit (X:Chs) (ps:List Pk) (i:Nat) (f:Qm.W) (no:Bool):Int:=
 match ixOf f (pkOf ps i).fs with
 | none=>0
 | some j=>if no=true then -X.on i j else X.on i j
mutual
def needD (X:Chs) (ps:List Pk) (i:Nat):Nd->Dk->Dk×Int
 | .mk kd a f no ks,d =>
  if kd=1 then oneD (meansD X ps a (-1) d).1 (meansD X ps a (-1) d).2
  else if kd=2 then ((oneD (meansD X ps a i d).1 (meansD X ps a i d).2).1,-(oneD (meansD X ps a i d).1 (meansD X ps a i d).2).2)
  else if kd=4 then oneD (kidsD X ps i ks d).1 (kidsD X ps i ks d).2
  else if kd=5 then oneD (bothD (kidsD X ps i ks d).1 (kidsD X ps i ks d).2).1 [-ifLit X ps i f no,(bothD (kidsD X ps i ks d).1 (kidsD X ps i ks d).2).2]
  else bothD (kidsD X ps i ks d).1 (kidsD X ps i ks d).2
def kidsD (X:Chs) (ps:List Pk) (i:Nat):List Nd->Dk->Dk×List Int
 | [],d=>(d,[])
 | x :: r,d=>((kidsD X ps i r (needD X ps i x d).1).1,(needD X ps i x d).2 :: (kidsD X ps i r (needD X ps i x d).1).2)
end
structure DkOk (M:Nat) (d:Dk) (gs hs:List (List Int)):Prop where
 b:Built M d.vars d.cls gs hs
 p:∀ n f,d.pair n f≠0->IsLit d.vars (d.pair n f)/\∀ m,holdsF m gs=true->litHolds m (d.pair n f)=(litHolds m n && litHolds m f)
def npD (K:List (Int×Int)) (d:Dk):Nat:=(K.filter fun q=>decide (d.pair q.1 q.2≠0)).length
structure Step (K:List (Int×Int)) (d:Dk) (gs:List (List Int)) (d':Dk) (gs':List (List Int)) (cv cc:Nat):Prop where
 v:d.vars<=d'.vars
 g:∀ c∈gs,c∈gs'
 nv:d'.vars+npD K d<=d.vars+npD K d'+cv
 nc:d'.cls.length+3 * npD K d<=d.cls.length+3 * npD K d'+cc
 len:(∀ c∈d.cls,c.length<=60)->∀ c∈d'.cls,c.length<=60
section
variable {K : List (Int × Int)} {M : Nat} {d d' d'' : Dk} {gs gs' gs'' hs : List (List Int)} {cv cc cv' cc' : Nat}
theorem Step.refl:Step K d gs d gs 0 0:=⟨Nat.le_refl _,fun _ h=>h,Nat.le_refl _,Nat.le_refl _,fun h=>h⟩
theorem Step.trans (h:Step K d gs d' gs' cv cc) (h2:Step K d' gs' d'' gs'' cv' cc'):Step K d gs d'' gs'' (cv+cv') (cc+cc'):=
 ⟨Nat.le_trans h.v h2.v,fun c hc=>h2.g c (h.g c hc),by have:=h.nv;have:=h2.nv;omega,by have:=h.nc;have:=h2.nc;omega,fun g=>h2.len (h.len g)⟩
theorem Step.mono (h:Step K d gs d' gs' cv cc) (h1:cv<=cv') (h2:cc<=cc'):Step K d gs d' gs' cv' cc':=
 ⟨h.v,h.g,by have:=h.nv;omega,by have:=h.nc;omega,h.len⟩
theorem Step.hold (h:Step K d gs d' gs' cv cc) {m:List Bool} (hm:holdsF m gs'=true):holdsF m gs=true:=
 holdsF_iff.2 fun c hc=>holdsF_iff.1 hm c (h.g c hc)
def Says (d:Dk) (gs:List (List Int)) (x:Int) (P:List Bool->Bool):Prop:=IsLit d.vars x/\∀ m,holdsF m gs=true->litHolds m x=P m
theorem Says.neg {x:Int} {P:List Bool->Bool} (h:Says d gs x P):Says d gs (-x) (fun m=>!P m):=⟨h.1.neg,fun m hm=>by rw [litHolds_neg m h.1.1,h.2 m hm]⟩
theorem Says.congr {x:Int} {P Q:List Bool->Bool} (h:Says d gs x P) (e:∀ m,P m=Q m):Says d gs x Q:=⟨h.1,fun m hm=>(h.2 m hm).trans (e m)⟩
theorem gate_len {v:Int} {l:List Int}:(gate v l).length=l.length+1:=by unfold gate;simp
theorem gate_short {v:Int} {l:List Int} (hl:l.length<=59):∀ c∈gate v l,c.length<=60:=by
 intro c hc
 rcases List.mem_append.1 hc with hc | hc
 ·obtain ⟨x,_,rfl⟩:=List.mem_map.1 hc;simp
 rw [List.mem_singleton.1 hc];simp;omega
theorem bothD_ok (h:DkOk M d gs hs) {l:List Int} (hl:∀ n∈l,IsLit d.vars n) (h59:l.length<=59) :
  ∃ gs',DkOk M (bothD d l).1 gs' hs/\Step K d gs (bothD d l).1 gs' 1 (l.length+1)/\(bothD d l).1.pair=d.pair/\Says (bothD d l).1 gs' (bothD d l).2 fun m=>l.all (litHolds m):=by
 have key:∀ d2 x,d2=({ d with vars:=d.vars+1,cls:=d.cls++gate ((d.vars:Int)+1) l }:Dk)->x=(d.vars:Int)+1 ->
   ∃ gs',DkOk M d2 gs' hs/\Step K d gs d2 gs' 1 (l.length+1)/\d2.pair=d.pair/\Says d2 gs' x fun m=>l.all (litHolds m):=by
  rintro d2 x rfl rfl
  have hg:∀ c∈gs,c∈gs++gate ((d.vars:Int)+1) l:=fun c hc=>List.mem_append_left _ hc
  refine ⟨gs++gate ((d.vars:Int)+1) l,⟨.gate h.b hl,fun n f hp=>?_⟩,⟨Nat.le_succ _,hg, ?_, ?_,fun g c hc=>?_⟩,rfl,⟨⟨by omega,by show _<=d.vars+1;omega⟩,fun m hm=>?_⟩⟩
  ·obtain ⟨p1,p2⟩:=h.p n f hp
   exact ⟨p1.up (Nat.le_succ _),fun m hm=>p2 m (holdsF_iff.2 fun c hc=>holdsF_iff.1 hm c (hg c hc))⟩
  ·show d.vars+1+npD K d<=d.vars+npD K d+1;omega
  ·show (d.cls++gate ((d.vars:Int)+1) l).length+3 * npD K d<=d.cls.length+3 * npD K d+(l.length+1)
   rw [List.length_append,gate_len];omega
  ·rcases List.mem_append.1 hc with hc | hc
   ·exact g c hc
   exact gate_short h59 c hc
  exact (gate_means (by omega) fun n hn=>(hl n hn).1).1 (holdsF_iff.2 fun c hc=>holdsF_iff.1 hm c (List.mem_append_right _ hc))
 match l,hl,h59,key with
 | [x],hl,_,_=>exact ⟨gs,h,Step.refl.mono (Nat.zero_le _) (Nat.zero_le _),rfl,hl x (List.mem_singleton.2 rfl),fun m _=>by simp [bothD]⟩
 | [],_,_,key=>exact key _ _ rfl rfl
 | x :: y :: r,_,_,key=>exact key _ _ rfl rfl
theorem oneD_ok (h:DkOk M d gs hs) {l:List Int} (hl:∀ n∈l,IsLit d.vars n) (h59:l.length<=59) :
  ∃ gs',DkOk M (oneD d l).1 gs' hs/\Step K d gs (oneD d l).1 gs' 1 (l.length+1)/\(oneD d l).1.pair=d.pair/\Says (oneD d l).1 gs' (oneD d l).2 fun m=>l.any (litHolds m):=by
 obtain ⟨gs',h1,h2,h3,h4⟩:=bothD_ok (K:=K) h (l:=l.map Neg.neg) (fun n hn=>by obtain ⟨x,hx,rfl⟩:=List.mem_map.1 hn;exact (hl x hx).neg) (by simpa using h59)
 refine ⟨gs',h1,by rw [List.length_map] at h2;exact h2,h3,h4.neg.congr fun m=>?_⟩
 rw [List.all_map]
 have:∀ l:List Int,(∀ n∈l,IsLit d.vars n)->(!l.all (litHolds m ∘ Neg.neg))=l.any (litHolds m):=by
  intro l hl
  induction l with
  | nil=>rfl
  | cons x r ih =>
   rw [List.all_cons,List.any_cons,Bool.not_and,ih fun n hn=>hl n (List.mem_cons_of_mem _ hn)]
   show (!litHolds m (-x) || _)=_
   rw [litHolds_neg m (hl x (List.mem_cons_self ..)).1,Bool.not_not]
 exact this l hl
end
structure ChsOk (ps:List Pk) (M:Nat) (X:Chs) (K:List (Int×Int)):Prop where
 pick:∀ i,i<ps.length->IsLit M (X.pick i)
 on:∀ i,i<ps.length->∀ k,k<(pkOf ps i).fs.length->IsLit M (X.on i k)
 keys:∀ i,i<ps.length->∀ k,k<(pkOf ps i).fs.length->(X.pick i,X.on i k)∈K/\(X.pick i,-X.on i k)∈K
def asksB (X:Chs) (ps:List Pk) (a:At) (but:Int) (m:List Bool) (i:Nat):Bool:=
 if (i:Int)=but\/(pkOf ps i).nm≠a.nm\/fitsP a (pkOf ps i).ver (pkOf ps i).slot=false then false
 else if a.fl=[] then litHolds m (X.pick i)
 else match ixOf a.fl (pkOf ps i).fs with
  | none=>false
  | some k=>litHolds m (X.pick i) && (litHolds m (X.on i k) == a.on)
theorem npD_set {K:List (Int×Int)} {d:Dk} {n f v:Int} (hk:(n,f)∈K) (h0:d.pair n f=0) (hv:v≠0):npD K d+1<=npD K (setPair d n f v):=by
 unfold npD
 refine length_filter_lt (x:=(n,f)) (fun q hq=>?_) (decide_eq_false (by simp [h0])) (decide_eq_true ?_) hk
 ·have hq:=of_decide_eq_true hq
  refine decide_eq_true ?_
  show (if q.1=n/\q.2=f then v else d.pair q.1 q.2)≠0
  split
  ·exact hv
  exact hq
 show (if n=n/\f=f then v else d.pair n f)≠0
 rw [if_pos ⟨rfl,rfl⟩];exact hv
section
variable {ps : List Pk} {K : List (Int × Int)} {M : Nat} {X : Chs} {d : Dk} {gs hs : List (List Int)}
theorem askD_lit (hX:ChsOk ps M X K) {a:At} {i k:Nat} (hi:i<ps.length) (hk:k<(pkOf ps i).fs.length):IsLit M (askD X a i k)/\(X.pick i,askD X a i k)∈K/\∀ m,litHolds m (askD X a i k)=(litHolds m (X.on i k) == a.on):=by
 unfold askD
 have h1:=hX.on i hi k hk
 have h2:=hX.keys i hi k hk
 cases a.on
 ·rw [if_neg (by simp)]
  exact ⟨h1.neg,h2.2,fun m=>by rw [litHolds_neg m h1.1];cases litHolds m (X.on i k) <;> rfl⟩
 rw [if_pos rfl]
 exact ⟨h1,h2.1,fun m=>by cases litHolds m (X.on i k) <;> rfl⟩
theorem meansTo_ok (hX:ChsOk ps M X K) (h:DkOk M d gs hs) (a:At) (but:Int):∀ j,j<=ps.length ->
  ∃ gs',DkOk M (meansTo X ps a but d j).1 gs' hs/\Step K d gs (meansTo X ps a but d j).1 gs' 0 0/\(∀ n∈(meansTo X ps a but d j).2,IsLit (meansTo X ps a but d j).1.vars n)/\(meansTo X ps a but d j).2.length<=j /\
   ∀ m,holdsF m gs'=true->(meansTo X ps a but d j).2.any (litHolds m)=(List.range j).any (asksB X ps a but m)
 | 0,_=>⟨gs,h,Step.refl,fun n hn=>(by cases hn),Nat.le_refl _,fun _ _=>rfl⟩
 | j+1,hj=>by
  obtain ⟨gs1,h1,h2,h3,h4,h5⟩:=meansTo_ok hX h a but j (by omega)
  have hM:=h1.b.le
  have hrange:∀ m,(List.range (j+1)).any (asksB X ps a but m)=((List.range j).any (asksB X ps a but m) || asksB X ps a but m j):=fun m=>by
   rw [List.range_succ,List.any_append];simp
  rw [meansTo]
  generalize meansTo X ps a but d j=s at h1 h2 h3 h4 h5 hM
  unfold meanStep
  by_cases c1:(j:Int)=but\/(pkOf ps j).nm≠a.nm\/fitsP a (pkOf ps j).ver (pkOf ps j).slot=false
  ·rw [if_pos c1]
   refine ⟨gs1,h1,h2,h3,by omega,fun m hm=>?_⟩
   rw [hrange,h5 m hm]
   unfold asksB
   rw [if_pos c1,Bool.or_false]
  rw [if_neg c1]
  by_cases c2:a.fl=[]
  ·rw [if_pos c2]
   refine ⟨gs1,h1,h2,fun n hn=>?_,by rw [List.length_append];exact Nat.succ_le_succ h4,fun m hm=>?_⟩
   ·rcases List.mem_append.1 hn with hn | hn
    ·exact h3 n hn
    rw [List.mem_singleton.1 hn];exact (hX.pick j (by omega)).up hM
   rw [hrange,List.any_append,h5 m hm]
   unfold asksB
   rw [if_neg c1,if_pos c2];simp
  rw [if_neg c2]
  cases hix:ixOf a.fl (pkOf ps j).fs with
  | none =>
   dsimp only
   refine ⟨gs1,h1,h2,h3,by omega,fun m hm=>?_⟩
   rw [hrange,h5 m hm]
   unfold asksB
   rw [if_neg c1,if_neg c2,hix,Bool.or_false]
  | some k =>
   obtain ⟨l1,l2,l3⟩:=askD_lit (a:=a) hX (by omega) (ixOf_lt hix)
   have hpj:=hX.pick j (by omega)
   have hask:∀ m,asksB X ps a but m j=(litHolds m (X.pick j) && litHolds m (askD X a j k)):=fun m=>by
    unfold asksB
    rw [if_neg c1,if_neg c2,hix,l3 m]
   dsimp only
   by_cases c3:s.1.pair (X.pick j) (askD X a j k)=0
   ·rw [if_pos c3]
    obtain ⟨gs2,b1,b2,b3,b4⟩:=bothD_ok (K:=K) h1 (l:=[X.pick j,askD X a j k]) (fun n hn=>by
     simp only [List.mem_cons,List.not_mem_nil,or_false] at hn
     rcases hn with rfl | rfl
     ·exact hpj.up hM
     exact l1.up hM) (by simp)
    have hv0:=b4.1.1
    have hnp:npD K (bothD s.1 [X.pick j,askD X a j k]).1=npD K s.1:=by unfold npD;rw [b3]
    have hnp2:=npD_set (d:=(bothD s.1 [X.pick j,askD X a j k]).1) (v:=(bothD s.1 [X.pick j,askD X a j k]).2) l2 (by rw [b3];exact c3) hv0
    have hmean:∀ m,holdsF m gs2=true->litHolds m (bothD s.1 [X.pick j,askD X a j k]).2=(litHolds m (X.pick j) && litHolds m (askD X a j k)):=fun m hm=>by
     rw [b4.2 m hm];simp
    generalize bothD s.1 [X.pick j,askD X a j k]=r at b1 b2 b3 b4 hnp hnp2 hmean hv0
    refine ⟨gs2,⟨b1.b,fun n f hp=>?_⟩, ?_,fun n hn=>?_,by rw [List.length_append];exact Nat.succ_le_succ h4,fun m hm=>?_⟩
    ·by_cases e:n=X.pick j/\f=askD X a j k
     ·have:(setPair r.1 (X.pick j) (askD X a j k) r.2).pair n f=r.2:=by show (if _ then _ else _)=_;rw [if_pos e]
      rw [this]
      obtain ⟨rfl,rfl⟩:=e
      exact ⟨b4.1,hmean⟩
     have:(setPair r.1 (X.pick j) (askD X a j k) r.2).pair n f=r.1.pair n f:=by show (if _ then _ else _)=_;rw [if_neg e]
     rw [this] at hp ⊢
     exact b1.p n f hp
    ·have hb2v:=b2.nv;have hb2c:=b2.nc;have h2v:=h2.nv;have h2c:=h2.nc
     simp only [List.length_cons,List.length_nil] at hb2c
     exact ⟨Nat.le_trans h2.v b2.v,fun c hc=>b2.g c (h2.g c hc),by show r.1.vars+npD K d<=d.vars+npD K (setPair r.1 (X.pick j) (askD X a j k) r.2)+0;omega,by show r.1.cls.length+3 * npD K d<=d.cls.length+3 * npD K (setPair r.1 (X.pick j) (askD X a j k) r.2)+0;omega,fun g=>b2.len (h2.len g)⟩
    ·rcases List.mem_append.1 hn with hn | hn
     ·exact (h3 n hn).up b2.v
     rw [List.mem_singleton.1 hn];exact b4.1
    rw [hrange,List.any_append,h5 m (b2.hold hm),hask m]
    congr 1
    simp only [List.any_cons,List.any_nil,Bool.or_false]
    exact hmean m hm
   rw [if_neg c3]
   obtain ⟨p1,p2⟩:=h1.p _ _ c3
   refine ⟨gs1,h1,h2,fun n hn=>?_,by rw [List.length_append];exact Nat.succ_le_succ h4,fun m hm=>?_⟩
   ·rcases List.mem_append.1 hn with hn | hn
    ·exact h3 n hn
    rw [List.mem_singleton.1 hn];exact p1
   rw [hrange,List.any_append,h5 m hm,hask m,<- p2 m hm]
   simp
end
end
section
open Go.RowKit Qm
mutual
def holdsM (X:Chs) (ps:List Pk) (m:List Bool) (i:Nat):Nd->Bool
 | .mk kd a f no ks =>
  if kd=1 then (List.range ps.length).any (asksB X ps a (-1) m)
  else if kd=2 then !(List.range ps.length).any (asksB X ps a i m)
  else if kd=4 then someM X ps m i ks
  else if kd=5 then !litHolds m (ifLit X ps i f no) || allM X ps m i ks
  else allM X ps m i ks
def someM (X:Chs) (ps:List Pk) (m:List Bool) (i:Nat):List Nd->Bool
 | []=>false
 | x :: r=>holdsM X ps m i x || someM X ps m i r
def allM (X:Chs) (ps:List Pk) (m:List Bool) (i:Nat):List Nd->Bool
 | []=>true
 | x :: r=>holdsM X ps m i x && allM X ps m i r
end
theorem flagsN_sub:∀ {ks:List Nd} {x:Nd},x∈ks->∀ g∈flagsN x,g∈flagsL ks
 | y :: r,x,hx,g,hg=>by
  simp only [flagsL,List.mem_append]
  rcases List.mem_cons.1 hx with rfl | hx
  ·exact .inl hg
  exact .inr (flagsN_sub hx g hg)
theorem nodes_pos (x:Nd):1<=x.nodes:=by cases x;simp only [Nd.nodes];omega
theorem kids_nodes:∀ {ks:List Nd},ks.length<=nodesL ks
 | []=>Nat.le_refl _
 | x :: r=>by
  have:=kids_nodes (ks:=r)
  have:1<=x.nodes:=by cases x;simp only [Nd.nodes];omega
  simp only [List.length_cons,nodesL];omega
section
variable {ps : List Pk} {K : List (Int × Int)} {M : Nat} {X : Chs} {i : Nat}
theorem ifLit_lit (hX:ChsOk ps M X K) (hi:i<ps.length) {f:Qm.W} {no:Bool} (hf:f∈(pkOf ps i).fs):IsLit M (ifLit X ps i f no):=by
 unfold ifLit
 cases h:ixOf f (pkOf ps i).fs with
 | none=>exact absurd hf (ixOf_none.1 h)
 | some j =>
  have:=hX.on i hi j (ixOf_lt h)
  dsimp only
  split
  ·exact this.neg
  exact this
theorem kidsD_ok {hs:List (List Int)}:∀ (ks:List Nd),(∀ x∈ks,∀ (d:Dk) (gs:List (List Int)),DkOk M d gs hs ->
   ∃ gs',DkOk M (needD X ps i x d).1 gs' hs/\Step K d gs (needD X ps i x d).1 gs' (2 * x.nodes) (15 * x.nodes - 1)/\Says (needD X ps i x d).1 gs' (needD X ps i x d).2 fun m=>holdsM X ps m i x) ->
  ∀ (d:Dk) (gs:List (List Int)),DkOk M d gs hs ->
  ∃ gs',DkOk M (kidsD X ps i ks d).1 gs' hs/\Step K d gs (kidsD X ps i ks d).1 gs' (2 * nodesL ks) (15 * nodesL ks - ks.length)/\(∀ n∈(kidsD X ps i ks d).2,IsLit (kidsD X ps i ks d).1.vars n)/\(kidsD X ps i ks d).2.length=ks.length /\
   ∀ m,holdsF m gs'=true->(kidsD X ps i ks d).2.any (litHolds m)=someM X ps m i ks/\(kidsD X ps i ks d).2.all (litHolds m)=allM X ps m i ks
 | [],_,d,gs,h=>⟨gs,h,Step.refl,fun n hn=>(by cases hn),rfl,fun m _=>⟨rfl,rfl⟩⟩
 | x :: r,ih,d,gs,h=>by
  obtain ⟨g1,a1,a2,a3⟩:=ih x (List.mem_cons_self ..) d gs h
  obtain ⟨g2,b1,b2,b3,b4,b5⟩:=kidsD_ok r (fun y hy=>ih y (List.mem_cons_of_mem _ hy)) _ g1 a1
  rw [kidsD]
  dsimp only
  have hk1:=kids_nodes (ks:=r)
  have hk2:=nodes_pos x
  refine ⟨g2,b1,(a2.trans b2).mono (by simp only [nodesL];omega) (by simp only [nodesL,List.length_cons];omega),fun n hn=>?_,by simp [b4],fun m hm=>?_⟩
  ·rcases List.mem_cons.1 hn with rfl | hn
   ·exact a3.1.up b2.v
   exact b3 n hn
  rw [List.any_cons,List.all_cons,someM,allM,(b5 m hm).1,(b5 m hm).2,a3.2 m (b2.hold hm)]
  exact ⟨rfl,rfl⟩
theorem needD_ok (hX:ChsOk ps M X K) (hi:i<ps.length) (h8:ps.length<=8) {hs:List (List Int)}:∀ (y:Nd),y.nodes<=20->(∀ f∈flagsN y,f∈(pkOf ps i).fs)->∀ (d:Dk) (gs:List (List Int)),DkOk M d gs hs ->
  ∃ gs',DkOk M (needD X ps i y d).1 gs' hs/\Step K d gs (needD X ps i y d).1 gs' (2 * y.nodes) (15 * y.nodes - 1)/\Says (needD X ps i y d).1 gs' (needD X ps i y d).2 fun m=>holdsM X ps m i y:=by
 refine Nd.ind fun kd a f no ks ih=>?_
 intro hn hfl d gs h
 have hkn:=kids_nodes (ks:=ks)
 simp only [Nd.nodes] at hn ⊢
 have ihk:=fun x (hx:x∈ks) (d:Dk) (gs:List (List Int)) (h:DkOk M d gs hs)=>ih x hx (by
  have:∀ {l:List Nd} {x:Nd},x∈l->x.nodes<=nodesL l:=by
   intro l
   induction l with
   | nil=>intro x hx;cases hx
   | cons y r ihl =>
    intro x hx
    simp only [nodesL]
    rcases List.mem_cons.1 hx with rfl | hx
    ·omega
    have:=ihl hx;omega
  have:=this hx;omega) (fun g hg=>hfl g (by unfold flagsN;exact List.mem_append_right _ (flagsN_sub hx g hg))) d gs h
 rw [needD]
 by_cases k1:kd=1
 ·obtain ⟨g1,a1,a2,a3,a4,a5⟩:=meansTo_ok (K:=K) hX h a (-1) ps.length (Nat.le_refl _)
  obtain ⟨g2,b1,b2,_,b4⟩:=oneD_ok (K:=K) a1 a3 (by omega)
  rw [if_pos k1]
  refine ⟨g2,b1,(a2.trans b2).mono (by omega) (by omega),b4.1,fun m hm=>?_⟩
  rw [show (oneD (meansD X ps a (-1) d).1 (meansD X ps a (-1) d).2)=(oneD (meansTo X ps a (-1) d ps.length).1 (meansTo X ps a (-1) d ps.length).2) from rfl,b4.2 m hm]
  dsimp only
  rw [a5 m (b2.hold hm)]
  unfold holdsM;rw [if_pos k1]
 rw [if_neg k1]
 by_cases k2:kd=2
 ·obtain ⟨g1,a1,a2,a3,a4,a5⟩:=meansTo_ok (K:=K) hX h a (i:Int) ps.length (Nat.le_refl _)
  obtain ⟨g2,b1,b2,_,b4⟩:=oneD_ok (K:=K) a1 a3 (by omega)
  rw [if_pos k2]
  refine ⟨g2,b1,(a2.trans b2).mono (by omega) (by omega),b4.neg.1,fun m hm=>?_⟩
  show litHolds m (-(oneD (meansTo X ps a i d ps.length).1 (meansTo X ps a i d ps.length).2).2)=_
  rw [b4.neg.2 m hm]
  dsimp only
  rw [a5 m (b2.hold hm)]
  unfold holdsM;rw [if_neg k1,if_pos k2]
 rw [if_neg k2]
 obtain ⟨g1,a1,a2,a3,a4,a5⟩:=kidsD_ok ks ihk d gs h
 by_cases k4:kd=4
 ·obtain ⟨g2,b1,b2,_,b4⟩:=oneD_ok (K:=K) a1 a3 (by omega)
  rw [if_pos k4]
  refine ⟨g2,b1,(a2.trans b2).mono (by omega) (by omega),b4.1,fun m hm=>?_⟩
  rw [b4.2 m hm]
  dsimp only
  rw [(a5 m (b2.hold hm)).1]
  unfold holdsM;rw [if_neg k1,if_neg k2,if_pos k4]
 rw [if_neg k4]
 obtain ⟨g2,b1,b2,_,b4⟩:=bothD_ok (K:=K) a1 a3 (by omega)
 by_cases k5:kd=5
 ·have hil:=ifLit_lit (no:=no) hX hi (hfl f (by unfold flagsN;rw [if_pos k5];simp))
  have hM:=b1.b.le
  obtain ⟨g3,c1,c2,_,c4⟩:=oneD_ok (K:=K) b1 (l:=[-ifLit X ps i f no,(bothD (kidsD X ps i ks d).1 (kidsD X ps i ks d).2).2]) (fun n hn=>by
   simp only [List.mem_cons,List.not_mem_nil,or_false] at hn
   rcases hn with rfl | rfl
   ·exact hil.neg.up hM
   exact b4.1) (by simp)
  rw [if_pos k5]
  refine ⟨g3,c1,((a2.trans b2).trans c2).mono (by omega) (by simp only [List.length_cons,List.length_nil];omega),c4.1,fun m hm=>?_⟩
  rw [c4.2 m hm]
  simp only [List.any_cons,List.any_nil,Bool.or_false]
  rw [litHolds_neg m hil.1,b4.2 m (c2.hold hm)]
  dsimp only
  rw [(a5 m (b2.hold (c2.hold hm))).2]
  conv=>rhs;unfold holdsM
  rw [if_neg k1,if_neg k2,if_neg k4,if_pos k5]
 rw [if_neg k5]
 refine ⟨g2,b1,(a2.trans b2).mono (by omega) (by omega),b4.1,fun m hm=>?_⟩
 rw [b4.2 m hm]
 dsimp only
 rw [(a5 m (b2.hold hm)).2]
 conv=>rhs;unfold holdsM
 rw [if_neg k1,if_neg k2,if_neg k4,if_neg k5]
end
end
section
open Go.RowKit Qm
def sameB (ps:List Pk) (i k:Nat):Bool:=decide ((pkOf ps i).nm=(pkOf ps k).nm) && decide ((pkOf ps i).slot=(pkOf ps k).slot)
def confTo (X:Chs) (ps:List Pk) (i:Nat) (d:Dk):Nat->Dk
 | 0=>d
 | k+1=>if sameB ps i k=true then addD (confTo X ps i d k) [-X.pick i,-X.pick k] else confTo X ps i d k
def pkD (X:Chs) (ps:List Pk) (i:Nat) (d:Dk):Dk:=
 addD (needD X ps i (pkOf ps i).nd (confTo X ps i d i)).1 [-X.pick i,(needD X ps i (pkOf ps i).nd (confTo X ps i d i)).2]
def pksD (X:Chs) (ps:List Pk) (d:Dk):Nat->Dk
 | 0=>d
 | i+1=>pkD X ps i (pksD X ps d i)
def masksD (X:Chs):List Int->Dk->Dk
 | [],d=>d
 | k :: r,d=>masksD X r (addD d [-X.pick k.toNat])
def tgtsD (X:Chs) (ps:List Pk):List At->Dk->Dk
 | [],d=>d
 | a :: r,d=>tgtsD X ps r (addD (meansD X ps a (-1) d).1 (meansD X ps a (-1) d).2)
def encD (X:Chs) (ps:List Pk) (ts:List At) (ms:List Int) (M:Nat):Dk:=tgtsD X ps ts (pksD X ps (masksD X ms ⟨M,[],fun _ _=>0⟩) ps.length)
def maskM (X:Chs) (m:List Bool) (ms:List Int):Bool:=ms.all fun k=>!litHolds m (X.pick k.toNat)
def confM (X:Chs) (ps:List Pk) (m:List Bool) (i j:Nat):Bool:=(List.range j).all fun k=>!sameB ps i k || (!litHolds m (X.pick i) || !litHolds m (X.pick k))
def pkM (X:Chs) (ps:List Pk) (m:List Bool) (i:Nat):Bool:=confM X ps m i i && (!litHolds m (X.pick i) || holdsM X ps m i (pkOf ps i).nd)
def tgtM (X:Chs) (ps:List Pk) (m:List Bool) (ts:List At):Bool:=ts.all fun a=>(List.range ps.length).any (asksB X ps a (-1) m)
def validM (X:Chs) (ps:List Pk) (ts:List At) (ms:List Int) (m:List Bool):Bool:=maskM X m ms && (List.range ps.length).all (pkM X ps m) && tgtM X ps m ts
structure Enc (M:Nat) (d:Dk) (gs hs:List (List Int)) (Q:List Bool->Bool):Prop where
 k:DkOk M d gs hs
 q:∀ m,holdsF m gs=true->holdsF m hs=Q m
section
variable {ps : List Pk} {K : List (Int × Int)} {M : Nat} {X : Chs} {d : Dk} {gs hs : List (List Int)} {Q : List Bool → Bool}
theorem Enc.congr (h:Enc M d gs hs Q) {Q':List Bool->Bool} (e:∀ m,Q m=Q' m):Enc M d gs hs Q':=⟨h.k,fun m hm=>(h.q m hm).trans (e m)⟩
theorem Enc.add (h:Enc M d gs hs Q) {c:List Int} (hc:IsCl d.vars c) (h60:c.length<=60) {P:List Bool->Bool} (hP:∀ m,holdsF m gs=true->c.any (litHolds m)=P m) :
  Enc M (addD d c) gs (hs++[c]) (fun m=>Q m && P m)/\Step K d gs (addD d c) gs 0 1:=by
 refine ⟨⟨⟨.hard h.k.b hc,h.k.p⟩,fun m hm=>?_⟩,⟨Nat.le_refl _,fun _ h=>h,Nat.le_refl _, ?_,fun g e he=>?_⟩⟩
 ·have:holdsF m (hs++[c])=(holdsF m hs && c.any (litHolds m)):=by unfold holdsF;rw [List.all_append];simp
  rw [this,h.q m hm,hP m hm]
 ·show (d.cls++[c]).length+3 * npD K d<=d.cls.length+3 * npD K d+1
  rw [List.length_append];simp;omega
 rcases List.mem_append.1 he with he | he
 ·exact g e he
 rw [List.mem_singleton.1 he];exact h60
theorem masksD_ok (hX:ChsOk ps M X K):∀ (ms:List Int) (d:Dk) (gs hs:List (List Int)) (Q:List Bool->Bool),(∀ k∈ms,0<=k/\k<ps.length)->Enc M d gs hs Q ->
  ∃ hs',Enc M (masksD X ms d) gs hs' (fun m=>Q m && maskM X m ms)/\Step K d gs (masksD X ms d) gs 0 ms.length
 | [],d,gs,hs,Q,_,h=>⟨hs,h.congr fun m=>by simp [maskM],Step.refl⟩
 | k :: r,d,gs,hs,Q,hk,h=>by
  obtain ⟨h0,h1⟩:=hk k (List.mem_cons_self ..)
  have hp:=hX.pick k.toNat (by omega)
  obtain ⟨e1,e2⟩:=h.add (K:=K) (c:=[-X.pick k.toNat]) (fun n hn=>by rw [List.mem_singleton.1 hn];exact hp.neg.up h.k.b.le) (by simp) (P:=fun m=>!litHolds m (X.pick k.toNat)) (fun m _=>by simp [litHolds_neg m hp.1])
  obtain ⟨hs',f1,f2⟩:=masksD_ok hX r _ _ _ _ (fun j hj=>hk j (List.mem_cons_of_mem _ hj)) e1
  refine ⟨hs',f1.congr fun m=>?_,(e2.trans f2).mono (Nat.le_refl _) (by simp only [List.length_cons];omega)⟩
  unfold maskM;rw [List.all_cons,Bool.and_assoc]
theorem confTo_ok (hX:ChsOk ps M X K) {i:Nat} (hi:i<ps.length) (h:Enc M d gs hs Q):∀ j,j<=i ->
  ∃ hs',Enc M (confTo X ps i d j) gs hs' (fun m=>Q m && confM X ps m i j)/\Step K d gs (confTo X ps i d j) gs 0 j
 | 0,_=>⟨hs,h.congr fun m=>by simp [confM],Step.refl⟩
 | j+1,hj=>by
  obtain ⟨hs1,e1,e2⟩:=confTo_ok hX hi h j (by omega)
  have hr:∀ m,confM X ps m i (j+1)=(confM X ps m i j && (!sameB ps i j || (!litHolds m (X.pick i) || !litHolds m (X.pick j)))):=fun m=>by
   unfold confM;rw [List.range_succ,List.all_append];simp
  rw [confTo]
  by_cases hs0:sameB ps i j=true
  ·rw [if_pos hs0]
   have p1:=hX.pick i hi;have p2:=hX.pick j (by omega)
   obtain ⟨f1,f2⟩:=e1.add (K:=K) (c:=[-X.pick i,-X.pick j]) (fun n hn=>by
    simp only [List.mem_cons,List.not_mem_nil,or_false] at hn
    rcases hn with rfl | rfl
    ·exact p1.neg.up e1.k.b.le
    exact p2.neg.up e1.k.b.le) (by simp) (P:=fun m=>!litHolds m (X.pick i) || !litHolds m (X.pick j)) (fun m _=>by simp [litHolds_neg m p1.1,litHolds_neg m p2.1])
   exact ⟨_,f1.congr fun m=>by rw [hr,hs0,Bool.not_true,Bool.false_or,Bool.and_assoc],(e2.trans f2).mono (Nat.le_refl _) (Nat.le_refl _)⟩
  rw [if_neg hs0]
  have hs1':sameB ps i j=false:=by simpa using hs0
  exact ⟨_,e1.congr fun m=>by rw [hr,hs1',Bool.not_false,Bool.true_or,Bool.and_true],e2.mono (Nat.le_refl _) (by omega)⟩
def NdsOk (ps:List Pk):Prop:=∀ i,i<ps.length->(pkOf ps i).nd.nodes<=20/\∀ f∈flagsN (pkOf ps i).nd,f∈(pkOf ps i).fs
theorem pksD_ok (hX:ChsOk ps M X K) (h8:ps.length<=8) (hN:NdsOk ps) (h:Enc M d gs hs Q):∀ j,j<=ps.length ->
  ∃ gs' hs',Enc M (pksD X ps d j) gs' hs' (fun m=>Q m && (List.range j).all (pkM X ps m))/\Step K d gs (pksD X ps d j) gs' (40 * j) (308 * j)
 | 0,_=>⟨gs,hs,h.congr fun m=>by simp,Step.refl⟩
 | j+1,hj=>by
  obtain ⟨g1,s1,e1,e2⟩:=pksD_ok hX h8 hN h j (by omega)
  obtain ⟨s2,f1,f2⟩:=confTo_ok hX (i:=j) (by omega) e1 j (Nat.le_refl _)
  obtain ⟨hn1,hn2⟩:=hN j (by omega)
  obtain ⟨g3,n1,n2,n3⟩:=needD_ok hX (i:=j) (by omega) h8 _ hn1 hn2 _ _ f1.k
  have p1:=hX.pick j (by omega)
  have hE:Enc M (needD X ps j (pkOf ps j).nd (confTo X ps j (pksD X ps d j) j)).1 g3 s2 (fun m=>(Q m && (List.range j).all (pkM X ps m)) && confM X ps m j j):=⟨n1,fun m hm=>f1.q m (n2.hold hm)⟩
  obtain ⟨k1,k2⟩:=hE.add (K:=K) (c:=[-X.pick j,(needD X ps j (pkOf ps j).nd (confTo X ps j (pksD X ps d j) j)).2]) (fun n hn=>by
   simp only [List.mem_cons,List.not_mem_nil,or_false] at hn
   rcases hn with rfl | rfl
   ·exact p1.neg.up n1.b.le
   exact n3.1) (by simp) (P:=fun m=>!litHolds m (X.pick j) || holdsM X ps m j (pkOf ps j).nd) (fun m hm=>by
   simp only [List.any_cons,List.any_nil,Bool.or_false]
   rw [litHolds_neg m p1.1,n3.2 m hm])
  refine ⟨g3,_,k1.congr fun m=>?_,(((e2.trans f2).trans n2).trans k2).mono (by omega) (by omega)⟩
  rw [List.range_succ,List.all_append]
  simp only [List.all_cons,List.all_nil,Bool.and_true]
  unfold pkM
  rw [Bool.and_assoc,Bool.and_assoc]
theorem tgtsD_ok (hX:ChsOk ps M X K) (h8:ps.length<=8):∀ (ts:List At) (d:Dk) (gs hs:List (List Int)) (Q:List Bool->Bool),Enc M d gs hs Q ->
  ∃ gs' hs',Enc M (tgtsD X ps ts d) gs' hs' (fun m=>Q m && tgtM X ps m ts)/\Step K d gs (tgtsD X ps ts d) gs' 0 ts.length
 | [],d,gs,hs,Q,h=>⟨gs,hs,h.congr fun m=>by simp [tgtM],Step.refl⟩
 | a :: r,d,gs,hs,Q,h=>by
  obtain ⟨g1,a1,a2,a3,a4,a5⟩:=meansTo_ok (K:=K) hX h.k a (-1) ps.length (Nat.le_refl _)
  have hE:Enc M (meansD X ps a (-1) d).1 g1 hs Q:=⟨a1,fun m hm=>h.q m (a2.hold hm)⟩
  obtain ⟨e1,e2⟩:=hE.add (K:=K) (c:=(meansD X ps a (-1) d).2) a3 (by show (meansTo X ps a (-1) d ps.length).2.length<=60;omega) (P:=fun m=>(List.range ps.length).any (asksB X ps a (-1) m)) a5
  obtain ⟨g2,s2,f1,f2⟩:=tgtsD_ok hX h8 r _ _ _ _ e1
  refine ⟨g2,s2,f1.congr fun m=>?_,((a2.trans e2).trans f2).mono (by omega) (by simp only [List.length_cons];omega)⟩
  unfold tgtM;rw [List.all_cons,Bool.and_assoc]
theorem encD_ok (hX:ChsOk ps M X K) (h8:ps.length<=8) (hN:NdsOk ps) {ts:List At} {ms:List Int} (hm:∀ k∈ms,0<=k/\k<ps.length) :
  ∃ gs hs,Built M (encD X ps ts ms M).vars (encD X ps ts ms M).cls gs hs/\(∀ m,holdsF m gs=true->holdsF m hs=validM X ps ts ms m) /\
   (encD X ps ts ms M).vars<=M+K.length+40 * ps.length/\(encD X ps ts ms M).cls.length<=3 * K.length+ms.length+308 * ps.length+ts.length/\∀ c∈(encD X ps ts ms M).cls,c.length<=60:=by
 have h0:Enc M ⟨M,[],fun _ _=>0⟩ [] [] (fun _=>true):=⟨⟨.nil,fun n f h=>absurd rfl h⟩,fun _ _=>rfl⟩
 obtain ⟨s1,a1,a2⟩:=masksD_ok hX ms _ _ _ _ hm h0
 obtain ⟨g2,s2,b1,b2⟩:=pksD_ok hX h8 hN a1 ps.length (Nat.le_refl _)
 obtain ⟨g3,s3,c1,c2⟩:=tgtsD_ok hX h8 ts _ _ _ _ b1
 have hst:=(a2.trans b2).trans c2
 have hle:∀ d:Dk,npD K d<=K.length:=fun d=>List.length_filter_le _ _
 refine ⟨g3,s3,c1.k.b,fun m hm=>?_, ?_, ?_,hst.len (fun c hc=>by cases hc)⟩
 ·rw [c1.q m hm];unfold validM;rw [Bool.true_and]
 ·have h1:=hst.nv;have h2:=hle (encD X ps ts ms M)
  show (tgtsD X ps ts (pksD X ps (masksD X ms ⟨M,[],fun _ _=>0⟩) ps.length)).vars<=_
  have h2':npD K (tgtsD X ps ts (pksD X ps (masksD X ms ⟨M,[],fun _ _=>0⟩) ps.length))<=K.length:=h2
  dsimp only at h1
  omega
 have h1:=hst.nc
 have h2':npD K (tgtsD X ps ts (pksD X ps (masksD X ms ⟨M,[],fun _ _=>0⟩) ps.length))<=K.length:=hle _
 show (tgtsD X ps ts (pksD X ps (masksD X ms ⟨M,[],fun _ _=>0⟩) ps.length)).cls.length<=_
 simp only [List.length_nil] at h1
 omega
end
end
section
open Go.RowKit Qm
def memM (X:Chs) (ps:List Pk) (m:List Bool) (i:Nat):Mem:=⟨(i:Int),(List.range (pkOf ps i).fs.length).map fun k=>litHolds m (X.on i k)⟩
def takenM (X:Chs) (ps:List Pk) (m:List Bool):List Nat:=(List.range ps.length).filter fun i=>litHolds m (X.pick i)
def setOfM (X:Chs) (ps:List Pk) (m:List Bool):List Mem:=(takenM X ps m).map (memM X ps m)
section
variable {X : Chs} {ps : List Pk} {m : List Bool}
theorem mem_taken {i:Nat}:i∈takenM X ps m↔i<ps.length/\litHolds m (X.pick i)=true:=by unfold takenM;rw [List.mem_filter,List.mem_range]
theorem taken_sorted:(takenM X ps m).Pairwise (· < ·):=by unfold takenM;exact List.Pairwise.filter _ List.pairwise_lt_range
theorem memM_on {i k:Nat} (hk:k<(pkOf ps i).fs.length):onOf (memM X ps m i).on k=litHolds m (X.on i k):=by
 unfold onOf memM
 rw [List.getD_eq_getElem?_getD,List.getElem?_map,List.getElem?_range hk];rfl
theorem asksB_isA {a:At} {but:Int} {i:Nat}:asksB X ps a but m i=(litHolds m (X.pick i) && (decide ((i:Int)≠but) && isA ps (memM X ps m i) a)):=by
 unfold asksB isA
 show _=(litHolds m (X.pick i) && (decide ((i:Int)≠but) && (decide ((pkOf ps i).nm=a.nm) && (fitsP a (pkOf ps i).ver (pkOf ps i).slot && (decide (a.fl=[]) || flagIs (pkOf ps i) (memM X ps m i) a)))))
 by_cases c:(i:Int)=but\/(pkOf ps i).nm≠a.nm\/fitsP a (pkOf ps i).ver (pkOf ps i).slot=false
 ·rw [if_pos c]
  rcases c with c | c | c
  ·rw [decide_eq_false (fun h=>h c)];simp
  ·rw [decide_eq_false c];simp
  rw [c];simp
 rw [if_neg c]
 have c1:(i:Int)≠but:=fun e=>c (.inl e)
 have c2:(pkOf ps i).nm=a.nm:=Classical.byContradiction fun e=>c (.inr (.inl e))
 have c3:fitsP a (pkOf ps i).ver (pkOf ps i).slot=true:=by
  cases h:fitsP a (pkOf ps i).ver (pkOf ps i).slot
  ·exact absurd (.inr (.inr h)) c
  rfl
 rw [decide_eq_true c1,decide_eq_true c2,c3,Bool.true_and,Bool.true_and,Bool.true_and]
 by_cases c4:a.fl=[]
 ·rw [if_pos c4,decide_eq_true c4];simp
 rw [if_neg c4,decide_eq_false c4,Bool.false_or]
 unfold flagIs
 cases hix:ixOf a.fl (pkOf ps i).fs with
 | none=>simp
 | some k =>
  dsimp only
  rw [memM_on (ixOf_lt hix)]
theorem any_taken {q:Mem->Bool}:(setOfM X ps m).any q=(List.range ps.length).any fun i=>litHolds m (X.pick i) && q (memM X ps m i):=by
 rw [Bool.eq_iff_iff,List.any_eq_true,List.any_eq_true]
 unfold setOfM
 constructor
 ·rintro ⟨x,hx,h⟩
  obtain ⟨i,hi,rfl⟩:=List.mem_map.1 hx
  obtain ⟨h1,h2⟩:=mem_taken.1 hi
  exact ⟨i,List.mem_range.2 h1,by rw [h2,h];rfl⟩
 rintro ⟨i,hi,h⟩
 rw [Bool.and_eq_true] at h
 exact ⟨_,List.mem_map.2 ⟨i,mem_taken.2 ⟨List.mem_range.1 hi,h.1⟩,rfl⟩,h.2⟩
theorem asks_any {a:At}:(List.range ps.length).any (asksB X ps a (-1) m)=(setOfM X ps m).any fun x=>isA ps x a:=by
 rw [any_taken]
 congr 1;funext i
 rw [asksB_isA,decide_eq_true (show (i:Int) ≠ -1 by omega),Bool.true_and]
theorem blockB_iff {q:Mem->Bool} {k:Nat}:∀ {l:List Mem} {i:Nat},blockB q k i l=true↔∀ j x,l[j]? = some x->i+j≠k->q x=false
 | [],i=>by simp [blockB]
 | y :: r,i=>by
  show (if i≠k/\q y=true then false else blockB q k (i+1) r)=true↔_
  by_cases h:i≠k/\q y=true
  ·rw [if_pos h]
   refine ⟨fun e=>(by cases e),fun g=>?_⟩
   have:=g 0 y rfl (by simpa using h.1)
   rw [h.2] at this;cases this
  rw [if_neg h,blockB_iff (l:=r) (i:=i+1)]
  constructor
  ·intro g j x hj hne
   cases j with
   | zero =>
    simp only [List.getElem?_cons_zero,Option.some.injEq] at hj
    subst hj
    cases hq:q y
    ·rfl
    exact absurd ⟨by simpa using hne,hq⟩ h
   | succ j=>exact g j x (by simpa using hj) (by omega)
  intro g j x hj hne
  exact g (j+1) x (by simpa using hj) (by omega)
theorem taken_at {i k:Nat} (h:(takenM X ps m)[k]? = some i):(setOfM X ps m)[k]? = some (memM X ps m i)/\i<ps.length/\litHolds m (X.pick i)=true:=by
 refine ⟨by unfold setOfM;rw [List.getElem?_map,h];rfl, ?_⟩
 exact mem_taken.1 (List.mem_of_getElem? h)
theorem taken_inj {i j k:Nat} (h:(takenM X ps m)[k]? = some i) (h2:(takenM X ps m)[j]? = some i):j=k:=by
 obtain ⟨hk,e1⟩:=List.getElem?_eq_some_iff.1 h
 obtain ⟨hj,e2⟩:=List.getElem?_eq_some_iff.1 h2
 have hp:=List.pairwise_iff_getElem.1 (taken_sorted (X:=X) (ps:=ps) (m:=m))
 rcases Nat.lt_trichotomy j k with h | h | h
 ·have:=hp j k hj hk h;omega
 ·exact h
 have:=hp k j hk hj h;omega
theorem block_taken {a:At} {i k:Nat} (h:(takenM X ps m)[k]? = some i):(!(List.range ps.length).any (asksB X ps a (i:Int) m))=blockB (fun x=>isA ps x a) k 0 (setOfM X ps m):=by
 rw [Bool.eq_iff_iff,blockB_iff,Bool.not_eq_true',List.any_eq_false]
 constructor
 ·intro g j x hj hne
  unfold setOfM at hj
  rw [List.getElem?_map] at hj
  cases ht:(takenM X ps m)[j]? with
  | none=>rw [ht] at hj;cases hj
  | some i2 =>
   rw [ht] at hj
   simp only [Option.map_some,Option.some.injEq] at hj
   subst hj
   obtain ⟨_,t1,t2⟩:=taken_at ht
   have:=g i2 (List.mem_range.2 t1)
   rw [asksB_isA,t2,decide_eq_true (show (i2:Int)≠(i:Int) by
    intro e
    have e:i2=i:=by omega
    subst e
    have:=taken_inj h ht
    omega)] at this
   simpa using this
 intro g i2 hi2
 rw [asksB_isA]
 intro hc
 simp only [Bool.and_eq_true,decide_eq_true_eq] at hc
 have hm:i2∈takenM X ps m:=mem_taken.2 ⟨List.mem_range.1 hi2,hc.1⟩
 obtain ⟨j,hj,e⟩:=List.mem_iff_getElem.1 hm
 have ht:(takenM X ps m)[j]? = some i2:=by rw [List.getElem?_eq_getElem hj,e]
 have:=g j _ (taken_at ht).1 (by
  intro e2
  have e2:j=k:=by omega
  subst e2
  rw [h] at ht
  injection ht with ht
  exact hc.2.1 (by omega))
 rw [hc.2.2] at this;cases this
theorem ifLit_off {i:Nat} {f:Qm.W} {no:Bool} (hf:f∈(pkOf ps i).fs) (hl:∀ k,k<(pkOf ps i).fs.length->X.on i k≠0):(!litHolds m (ifLit X ps i f no))=ifOff ps (memM X ps m i) f no:=by
 unfold ifLit ifOff
 show _=match ixOf f (pkOf ps i).fs with | some j=>onOf (memM X ps m i).on j == no | none=>false
 cases h:ixOf f (pkOf ps i).fs with
 | none=>exact absurd hf (ixOf_none.1 h)
 | some j =>
  dsimp only
  rw [memM_on (ixOf_lt h)]
  cases no
  ·rw [if_neg (by simp)];cases litHolds m (X.on i j) <;> rfl
  rw [if_pos rfl,litHolds_neg m (hl j (ixOf_lt h))];cases litHolds m (X.on i j) <;> rfl
theorem holdsM_eq {i k:Nat} (h:(takenM X ps m)[k]? = some i) (hl:∀ k,k<(pkOf ps i).fs.length->X.on i k≠0):∀ (y:Nd),(∀ f∈flagsN y,f∈(pkOf ps i).fs)->holdsM X ps m i y=holdsN ps (setOfM X ps m) k (memM X ps m i) y:=by
 refine Nd.ind fun kd a f no ks ih=>?_
 intro hfl
 have ihk:∀ l:List Nd,(∀ x∈l,x∈ks)->someM X ps m i l=someN ps (setOfM X ps m) k (memM X ps m i) l/\allM X ps m i l=allN ps (setOfM X ps m) k (memM X ps m i) l:=by
  intro l
  induction l with
  | nil=>intro _;exact ⟨rfl,rfl⟩
  | cons x r ihr =>
   intro hx
   have h1:=ih x (hx x (List.mem_cons_self ..)) (fun g hg=>hfl g (by unfold flagsN;exact List.mem_append_right _ (flagsN_sub (hx x (List.mem_cons_self ..)) g hg)))
   obtain ⟨h2,h3⟩:=ihr fun y hy=>hx y (List.mem_cons_of_mem _ hy)
   rw [someM,allM,someN,allN,h1,h2,h3]
   exact ⟨rfl,rfl⟩
 obtain ⟨k1,k2⟩:=ihk ks fun _ h=>h
 unfold holdsM holdsN
 by_cases c1:kd=1
 ·rw [if_pos c1,if_pos c1,asks_any]
 rw [if_neg c1,if_neg c1]
 by_cases c2:kd=2
 ·rw [if_pos c2,if_pos c2,block_taken h]
 rw [if_neg c2,if_neg c2]
 by_cases c4:kd=4
 ·rw [if_pos c4,if_pos c4,k1]
 rw [if_neg c4,if_neg c4]
 by_cases c5:kd=5
 ·rw [if_pos c5,ifLit_off (hfl f (by unfold flagsN;rw [if_pos c5];simp)) hl,k2]
  by_cases c6:ifOff ps (memM X ps m i) f no=true
  ·rw [if_pos ⟨c5,c6⟩,c6];rfl
  rw [if_neg (fun e=>c6 e.2)]
  have:ifOff ps (memM X ps m i) f no=false:=by simpa using c6
  rw [this];rfl
 rw [if_neg c5,if_neg (fun e=>c5 e.1),k2]
theorem loneB_iff {p:Pk}:∀ {l:List Mem},loneB ps p l=true↔∀ o∈l,¬ ((pkOf ps o.pl).nm=p.nm/\(pkOf ps o.pl).slot=p.slot)
 | []=>by simp [loneB]
 | o :: r=>by
  show (if (pkOf ps o.pl).nm=p.nm/\(pkOf ps o.pl).slot=p.slot then false else loneB ps p r)=true↔_
  by_cases h:(pkOf ps o.pl).nm=p.nm/\(pkOf ps o.pl).slot=p.slot
  ·rw [if_pos h];exact ⟨fun e=>(by cases e),fun g=>absurd h (g o (List.mem_cons_self ..))⟩
  rw [if_neg h,loneB_iff (l:=r)]
  exact ⟨fun g x hx=>(List.mem_cons.1 hx).elim (fun e=>e ▸ h) (g x),fun g x hx=>g x (List.mem_cons_of_mem _ hx)⟩
theorem allOk_iff {ms:List Int} {l:List Mem}:∀ {n:Nat},allOk ps ms l n=true↔∀ i,i<n->oneOk ps ms l i=true
 | 0=>by simp [allOk]
 | n+1=>by
  rw [allOk,Bool.and_eq_true,allOk_iff]
  constructor
  ·rintro ⟨h1,h2⟩ i hi
   by_cases e:i=n
   ·subst e;exact h2
   exact h1 i (by omega)
  intro h;exact ⟨fun i hi=>h i (by omega),h n (by omega)⟩
theorem memAt_some {l:List Mem} {k:Nat} {x:Mem} (h:l[k]? = some x):memAt l k=x:=by
 unfold memAt;rw [List.getD_eq_getElem?_getD,h];rfl
theorem validM_iff (hl:∀ i,i<ps.length->∀ k,k<(pkOf ps i).fs.length->X.on i k≠0) (hN:NdsOk ps) {ts:List At} {ms:List Int} (hm:∀ k∈ms,0<=k/\k<ps.length):validM X ps ts ms m=validP ps ts ms (setOfM X ps m):=by
 have htg:tgtM X ps m ts=ts.all fun a=>(setOfM X ps m).any fun x=>isA ps x a:=by
  unfold tgtM;congr 1;funext a;exact asks_any
 have hall:(maskM X m ms && (List.range ps.length).all (pkM X ps m))=allOk ps ms (setOfM X ps m) (setOfM X ps m).length:=by
  have hlen:(setOfM X ps m).length=(takenM X ps m).length:=by unfold setOfM;rw [List.length_map]
  rw [Bool.eq_iff_iff,Bool.and_eq_true,allOk_iff]
  unfold maskM
  rw [List.all_eq_true,List.all_eq_true]
  constructor
  ·rintro ⟨h1,h2⟩ k hk
   have hkt:(takenM X ps m)[k]? = some ((takenM X ps m)[k]'(by omega)):=List.getElem?_eq_getElem _
   generalize (takenM X ps m)[k]'(by omega)=i at hkt
   obtain ⟨e1,e2,e3⟩:=taken_at hkt
   have hp:=h2 i (List.mem_range.2 e2)
   unfold pkM at hp
   rw [Bool.and_eq_true,e3,Bool.not_true,Bool.false_or] at hp
   have hmem:=memAt_some e1
   unfold oneOk holdsAt
   rw [hmem,Bool.and_eq_true,Bool.and_eq_true]
   refine ⟨?_, ?_, ?_⟩
   ·show (!ms.contains (i:Int))=true
    cases hc:ms.contains (i:Int)
    ·rfl
    have:=h1 _ (List.contains_iff_mem.1 hc)
    rw [Int.toNat_natCast,e3] at this;cases this
   ·have:=holdsM_eq hkt (hl i e2) _ (hN i e2).2
    exact this.symm.trans hp.2
   rw [loneB_iff]
   rintro o ho ⟨g1,g2⟩
   obtain ⟨j,hj,hjo⟩:=List.mem_take_iff_getElem.1 ho
   have hjt:(takenM X ps m)[j]? = some ((takenM X ps m)[j]'(by omega)):=List.getElem?_eq_getElem _
   have hij:(takenM X ps m)[j]'(by omega)<i:=by
    have:=List.pairwise_iff_getElem.1 (taken_sorted (X:=X) (ps:=ps) (m:=m)) j k (by omega) (by omega) (by omega)
    have e:=(List.getElem?_eq_some_iff.1 hkt).2
    omega
   generalize (takenM X ps m)[j]'(by omega)=i2 at hjt hij
   obtain ⟨f1,f2,f3⟩:=taken_at hjt
   have ho2:o=memM X ps m i2:=by
    have:=(List.getElem?_eq_some_iff.1 f1).2
    rw [<- hjo,<- this]
   subst ho2
   have hc:=hp.1
   unfold confM at hc
   have:=List.all_eq_true.1 hc i2 (List.mem_range.2 hij)
   rw [e3,f3] at this
   have hs:sameB ps i i2=true:=by
    unfold sameB
    rw [decide_eq_true (show (pkOf ps i).nm=(pkOf ps i2).nm from g1.symm),decide_eq_true (show (pkOf ps i).slot=(pkOf ps i2).slot from g2.symm)];rfl
   rw [hs] at this;cases this
  intro h
  have hget:∀ i,i<ps.length->litHolds m (X.pick i)=true->∃ k,(takenM X ps m)[k]? = some i/\oneOk ps ms (setOfM X ps m) k=true:=by
   intro i hi ht
   obtain ⟨k,hk,e⟩:=List.mem_iff_getElem.1 (mem_taken.2 ⟨hi,ht⟩:i∈takenM X ps m)
   exact ⟨k,by rw [List.getElem?_eq_getElem hk,e],h k (by omega)⟩
  refine ⟨fun k hk=>?_,fun i hi=>?_⟩
  ·obtain ⟨h0,h1⟩:=hm k hk
   cases ht:litHolds m (X.pick k.toNat)
   ·rfl
   obtain ⟨j,hj,ho⟩:=hget k.toNat (by omega) ht
   unfold oneOk at ho
   rw [memAt_some (taken_at hj).1,Bool.and_eq_true] at ho
   have ho1:(!ms.contains ((k.toNat:Nat):Int))=true:=ho.1
   rw [Int.toNat_of_nonneg h0,List.contains_iff_mem.2 hk] at ho1;cases ho1
  have hi:=List.mem_range.1 hi
  unfold pkM
  rw [Bool.and_eq_true]
  cases ht:litHolds m (X.pick i)
  ·refine ⟨?_,rfl⟩
   unfold confM
   rw [List.all_eq_true]
   intro k _
   rw [ht];simp
  obtain ⟨j,hj,ho⟩:=hget i hi ht
  unfold oneOk holdsAt at ho
  rw [memAt_some (taken_at hj).1,Bool.and_eq_true,Bool.and_eq_true] at ho
  refine ⟨?_, ?_⟩
  ·unfold confM
   rw [List.all_eq_true]
   intro k hk
   have hki:=List.mem_range.1 hk
   rw [ht]
   cases htk:litHolds m (X.pick k)
   ·simp
   obtain ⟨j2,hj2,_⟩:=hget k (by omega) htk
   have hlt:j2<j:=by
    obtain ⟨q1,q2⟩:=List.getElem?_eq_some_iff.1 hj
    obtain ⟨r1,r2⟩:=List.getElem?_eq_some_iff.1 hj2
    rcases Nat.lt_trichotomy j2 j with g | g | g
    ·exact g
    ·subst g;omega
    have:=List.pairwise_iff_getElem.1 (taken_sorted (X:=X) (ps:=ps) (m:=m)) j j2 q1 r1 g
    omega
   have hlone:=loneB_iff.1 ho.2.2 (memM X ps m k) (by
    obtain ⟨r1,r2⟩:=List.getElem?_eq_some_iff.1 (taken_at hj2).1
    rw [List.mem_take_iff_getElem]
    exact ⟨j2,by omega,r2⟩)
   have hs:sameB ps i k=false:=by
    cases hs:sameB ps i k
    ·rfl
    unfold sameB at hs
    simp only [Bool.and_eq_true,decide_eq_true_eq] at hs
    exact absurd ⟨hs.1.symm,hs.2.symm⟩ hlone
   rw [hs];rfl
  rw [Bool.not_true,Bool.false_or,holdsM_eq hj (hl i hi) _ (hN i hi).2]
  exact ho.2.1
 unfold validM validP
 rw [htg,hall,Bool.and_comm]
end
end
end Go.Proofs.YtedbhlgjcnnknaaGreatDoor
