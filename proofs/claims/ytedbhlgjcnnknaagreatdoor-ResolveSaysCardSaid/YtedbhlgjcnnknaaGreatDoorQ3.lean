/- Parts. -/
import Derived.Test.YtedbhlgjcnnknaaGreatDoorQ2
set_option linter.unusedVariables false
set_option linter.unusedSimpArgs false
set_option linter.unusedSectionVars false
set_option maxRecDepth 100000
set_option maxHeartbeats 12800000
namespace Go.Proofs.YtedbhlgjcnnknaaGreatDoor
open Go.RowKit Qm
structure Mem where
 pl:Int
 on:List Bool
deriving DecidableEq
def pkOf (ps:List Pk) (i:Int):Pk:=ps.getD i.toNat ⟨[],0,0,[],Nd.zero⟩
def badPl:Option Int->Int->Bool
 | none,_=>false
 | some q,p=>decide (p<=q)
def ckMs (ps:List Pk):Option Int->List Mem->Int
 | _,[]=>0
 | prev,m :: r=>if m.pl<0\/(ps.length:Int)<=m.pl then 5 else if badPl prev m.pl=true then 6 else if m.on.length≠(pkOf ps m.pl).fs.length then 4 else ckMs ps (some m.pl) r
def ckSet (ps:List Pk) (l:List Mem):Int:=if ckTree ps≠0 then ckTree ps else ckMs ps none l
theorem ckMs_step {ps:List Pk} {l:List Mem} {j:Nat} {m:Mem} (h:l[j]? = some m) :
  ckMs ps (prevOf (l.map Mem.pl) j) (l.drop j)=if m.pl<0\/(ps.length:Int)<=m.pl then 5 else if badPl (prevOf (l.map Mem.pl) j) m.pl=true then 6 else if m.on.length≠(pkOf ps m.pl).fs.length then 4 else ckMs ps (prevOf (l.map Mem.pl) (j+1)) (l.drop (j+1)):=by
 rw [prevOf_succ (l:=l.map Mem.pl) (x:=m.pl) (by rw [List.getElem?_map,h];rfl)]
 obtain ⟨hj,rfl⟩:=List.getElem?_eq_some_iff.1 h
 rw [List.drop_eq_getElem_cons hj]
 rfl
theorem ckMs_done {ps:List Pk} {l:List Mem} {j:Nat} (h:l.length<=j) {p:Option Int}:ckMs ps p (l.drop j)=0:=by
 rw [List.drop_eq_nil_of_le h];rfl
def MemOk (ps:List Pk) (m:Mem):Prop:=0<=m.pl/\m.pl<ps.length/\m.on.length=(pkOf ps m.pl).fs.length
theorem ckMs_mem {ps:List Pk}:∀ {l:List Mem} {prev:Option Int},ckMs ps prev l=0->∀ m∈l,MemOk ps m
 | [],_,_,m,hm=>by cases hm
 | x :: r,prev,h,m,hm=>by
  simp only [ckMs] at h
  split at h
  ·cases h
  rename_i h1
  split at h
  ·cases h
  split at h
  ·cases h
  rename_i h3
  rcases List.mem_cons.1 hm with rfl | hm
  ·exact ⟨by omega,by omega,by simpa using h3⟩
  exact ckMs_mem h m hm
theorem ckMs_rises {ps:List Pk}:∀ {l:List Mem} {prev:Option Int},ckMs ps prev l=0->(∀ q,prev=some q->∀ m∈l,q<m.pl)/\(l.map Mem.pl).Pairwise (· < ·)
 | [],_,_=>⟨fun _ _ m hm=>(by cases hm),List.Pairwise.nil⟩
 | x :: r,prev,h=>by
  simp only [ckMs] at h
  split at h
  ·cases h
  split at h
  ·cases h
  rename_i h2
  split at h
  ·cases h
  obtain ⟨i1,i2⟩:=ckMs_rises h
  have hx:∀ q,prev=some q->q<x.pl:=fun q hq=>by
   subst hq
   simp only [badPl,decide_eq_true_eq] at h2
   omega
  refine ⟨fun q hq m hm=>?_, ?_⟩
  ·rcases List.mem_cons.1 hm with rfl | hm
   ·exact hx q hq
   exact Int.lt_trans (hx q hq) (i1 _ rfl m hm)
  rw [List.map_cons,List.pairwise_cons]
  refine ⟨fun b hb=>?_,i2⟩
  obtain ⟨m,hm,rfl⟩:=List.mem_map.1 hb
  exact i1 _ rfl m hm
def ixOf (f:Qm.W):List Qm.W->Option Nat
 | []=>none
 | g :: r=>if g=f then some 0 else (ixOf f r).map (· + 1)
def onOf (on:List Bool) (k:Nat):Bool:=on.getD k false
def flagIs (p:Pk) (m:Mem) (a:At):Bool:=match ixOf a.fl p.fs with
 | some k=>onOf m.on k == a.on
 | none=>false
def isA (ps:List Pk) (m:Mem) (a:At):Bool:=
 decide ((pkOf ps m.pl).nm=a.nm) && (fitsP a (pkOf ps m.pl).ver (pkOf ps m.pl).slot && (decide (a.fl=[]) || flagIs (pkOf ps m.pl) m a))
theorem ixOf_lt {f:Qm.W}:∀ {l:List Qm.W} {k:Nat},ixOf f l=some k->k<l.length
 | [],k,h=>by cases h
 | g :: r,k,h=>by
  simp only [ixOf] at h
  split at h
  ·simp only [Option.some.injEq] at h;subst h;simp
  cases hr:ixOf f r with
  | none=>rw [hr] at h;cases h
  | some j =>
   rw [hr] at h
   simp only [Option.map_some,Option.some.injEq] at h
   have:=ixOf_lt hr
   simp only [List.length_cons];omega
theorem ixOf_none {f:Qm.W}:∀ {l:List Qm.W},ixOf f l=none↔f ∉ l
 | []=>by simp [ixOf]
 | g :: r=>by
  simp only [ixOf]
  by_cases hg:g=f
  ·rw [if_pos hg];simp [hg]
  rw [if_neg hg]
  have:=ixOf_none (f:=f) (l:=r)
  simp only [Option.map_eq_none_iff,List.mem_cons,not_or,this]
  exact ⟨fun h=>⟨fun e=>hg e.symm,h⟩,fun h=>h.2⟩
def blockB (q:Mem->Bool) (k:Nat):Nat->List Mem->Bool
 | _,[]=>true
 | i,m :: r=>if i≠k/\q m=true then false else blockB q k (i+1) r
def ifOff (ps:List Pk) (m:Mem) (f:Qm.W) (no:Bool):Bool:=match ixOf f (pkOf ps m.pl).fs with
 | some j=>onOf m.on j == no
 | none=>false
mutual
def holdsN (ps:List Pk) (l:List Mem) (k:Nat) (me:Mem):Nd->Bool
 | .mk kd a f no ks =>
  if kd=1 then l.any (fun m=>isA ps m a)
  else if kd=2 then blockB (fun m=>isA ps m a) k 0 l
  else if kd=4 then someN ps l k me ks
  else if kd=5/\ifOff ps me f no=true then true
  else allN ps l k me ks
def someN (ps:List Pk) (l:List Mem) (k:Nat) (me:Mem):List Nd->Bool
 | []=>false
 | x :: r=>holdsN ps l k me x || someN ps l k me r
def allN (ps:List Pk) (l:List Mem) (k:Nat) (me:Mem):List Nd->Bool
 | []=>true
 | x :: r=>holdsN ps l k me x && allN ps l k me r
end
theorem someN_eq {ps:List Pk} {l:List Mem} {k:Nat} {me:Mem}:∀ {ks:List Nd},someN ps l k me ks=ks.any (holdsN ps l k me)
 | []=>rfl
 | x :: r=>by rw [someN,someN_eq,List.any_cons]
theorem allN_eq {ps:List Pk} {l:List Mem} {k:Nat} {me:Mem}:∀ {ks:List Nd},allN ps l k me ks=ks.all (holdsN ps l k me)
 | []=>rfl
 | x :: r=>by rw [allN,allN_eq,List.all_cons]
def memAt (l:List Mem) (k:Nat):Mem:=l.getD k ⟨0,[]⟩
def holdsAt (ps:List Pk) (l:List Mem) (k:Nat):Bool:=holdsN ps l k (memAt l k) (pkOf ps (memAt l k).pl).nd
def loneB (ps:List Pk) (p:Pk):List Mem->Bool
 | []=>true
 | o :: r=>if (pkOf ps o.pl).nm=p.nm/\(pkOf ps o.pl).slot=p.slot then false else loneB ps p r
def oneOk (ps:List Pk) (masked:List Int) (l:List Mem) (i:Nat):Bool:=
 !masked.contains (memAt l i).pl && (holdsAt ps l i && loneB ps (pkOf ps (memAt l i).pl) (l.take i))
def allOk (ps:List Pk) (masked:List Int) (l:List Mem):Nat->Bool
 | 0=>true
 | i+1=>allOk ps masked l i && oneOk ps masked l i
def validP (ps:List Pk) (ts:List At) (masked:List Int) (l:List Mem):Bool:=
 ts.all (fun a=>l.any (fun m=>isA ps m a)) && allOk ps masked l l.length
structure Ws where
 ts:List At
 ins:List Mem
 ms:List Int
 on:List (Int×Int)
def ckAts:List At->Int
 | []=>0
 | a :: r=>if ckAtom a≠0 then ckAtom a else ckAts r
def ckMask (ps:List Pk):Option Int->List Int->Int
 | _,[]=>0
 | prev,k :: r=>if k<0\/(ps.length:Int)<=k then 5 else if badPl prev k=true then 6 else ckMask ps (some k) r
def badOn:Option (Int×Int)->Int×Int->Bool
 | none,_=>false
 | some q,x=>!(decide (q.1<x.1) || (decide (q.1=x.1) && decide (q.2<x.2)))
def ckOn (ps:List Pk):Option (Int×Int)->List (Int×Int)->Int
 | _,[]=>0
 | prev,x :: r=>if x.1<0\/(ps.length:Int)<=x.1\/x.2<0\/((pkOf ps x.1).fs.length:Int)<=x.2 then 5 else if badOn prev x=true then 6 else ckOn ps (some x) r
def ckWishR (ps:List Pk) (w:Ws):Int:=
 if 6<w.ts.length then 2 else if ckAts w.ts≠0 then ckAts w.ts else if ckMask ps none w.ms≠0 then ckMask ps none w.ms else ckOn ps none w.on
def ckWish (ps:List Pk) (w:Ws):Int:=if ckSet ps w.ins≠0 then ckSet ps w.ins else ckWishR ps w
theorem allOk_at {ps:List Pk} {ms:List Int} {l:List Mem}:∀ {n:Nat},allOk ps ms l n=true->∀ i,i<n->oneOk ps ms l i=true
 | 0,_,i,hi=>by omega
 | n+1,h,i,hi=>by
  rw [allOk,Bool.and_eq_true] at h
  by_cases e:i=n
  ·subst e;exact h.2
  exact allOk_at h.1 i (by omega)
end Go.Proofs.YtedbhlgjcnnknaaGreatDoor

namespace Qm
def Le (N:Nat) (v w:List Int):Prop:=∀ n,IsLit N n->vof v n=1->vof w n=1
def Closed (cs:List (List Int)) (w:List Int):Prop:=∀ c∈cs,(scan w c).2≠0/\(scan w c).2≠1
theorem IsLit.neg {N:Nat} {n:Int} (h:IsLit N n):IsLit N (-n):=⟨by have:=h.1;omega,by rw [Int.natAbs_neg];exact h.2⟩
theorem Le.refl (N:Nat) (v:List Int):Le N v v:=fun _ _ h=>h
theorem Le.trans {N:Nat} {a b c:List Int} (h:Le N a b) (k:Le N b c):Le N a c:=fun n hn h1=>k n hn (h n hn h1)
theorem Le.fails {N:Nat} {v w:List Int} (h:Le N v w) {n:Int} (hn:IsLit N n) (hv:vof v n = -1):vof w n = -1:=by
 have h1:vof v (-n)=1:=by rw [vof_neg v n hn.1,hv];rfl
 have h2:=h (-n) hn.neg h1
 rw [vof_neg w n hn.1] at h2;omega
theorem Le.set {N:Nat} {v w:List Int} (hf:Fine N v) (h:Le N v w) {n:Int} (hn:IsLit N n) (hw:vof w n=1):Le N (vset v n) w:=by
 intro k hk h1
 rw [vof_vset hf hn k hk.1] at h1
 split at h1
 ·rename_i e;rw [e];exact hw
 split at h1
 ·omega
 exact h k hk h1
theorem le_vset {N:Nat} {v:List Int} (hf:Fine N v) {n:Int} (hn:IsLit N n) (h:vof v n ≠ -1):Le N v (vset v n):=by
 intro k hk h1
 rw [vof_vset hf hn k hk.1]
 split
 ·rfl
 split
 ·rename_i e;rw [e,vof_neg v n hn.1] at h1;omega
 exact h1
theorem le_zero (N:Nat) (w:List Int):Le N (zeroVals N) w:=by
 intro n _ h
 have hz:∀ k,(zeroVals N).getD k 0=0:=by
  intro k;rw [List.getD_eq_getElem?_getD,zeroVals,List.getElem?_replicate];split <;> rfl
 unfold vof at h
 rw [hz,hz] at h
 split at h <;> omega
theorem scan_le {N:Nat} {v w c:List Int} (hv:Fine N v) (hw:Fine N w) (h:Le N v w) (hc:IsCl N c) (hcl:(scan w c).2≠0/\(scan w c).2≠1) :
  (scan v c).2≠0/\((scan v c).2=1->vof w (scan v c).1=1):=by
 rcases scan_cases v c with ⟨e,_⟩ | ⟨e,h2⟩ | ⟨e,h2,h3,h4⟩ | ⟨e,_⟩
 ·exact ⟨by omega,by omega⟩
 ·exfalso
  have hall:∀ x∈c,vof w x = -1:=fun x hx=>h.fails (hc x hx) (by have:=h2 x hx;rcases vof_range hv x with a | a | a <;> omega)
  rcases scan_cases w c with ⟨_,x,hx,h1⟩ | ⟨e1,_⟩ | ⟨_,hm,hz,_⟩ | ⟨_,_,x,hx,_,_,_,hx0,_⟩
  ·have:=hall x hx;omega
  ·exact hcl.1 e1
  ·have:=hall _ hm;omega
  have:=hall x hx;omega
 ·refine ⟨by omega,fun _=>?_⟩
  have hoth:∀ x∈c,x≠(scan v c).1->vof w x = -1:=fun x hx hne=>h.fails (hc x hx) (by
   have:=h4 x hx
   rcases vof_range hv x with a | a | a
   ·exact absurd (this.2 a) hne
   ·exact absurd a this.1
   exact a)
  rcases vof_range hw (scan v c).1 with a | a | a
  ·exfalso
   rcases scan_cases w c with ⟨_,x,hx,h1⟩ | ⟨e1,_⟩ | ⟨e1,_⟩ | ⟨_,_,x,hx,y,hy,hxy,hx0,hy0⟩
   ·by_cases hxe:x=(scan v c).1
    ·rw [hxe] at h1;omega
    have:=hoth x hx hxe;omega
   ·exact hcl.1 e1
   ·exact hcl.2 e1
   by_cases hxe:x=(scan v c).1
   ·have:=hoth y hy (fun e=>hxy (hxe.trans e.symm));omega
   have:=hoth x hx hxe;omega
  ·exact a
  exfalso
  have hall:∀ x∈c,vof w x = -1:=fun x hx=>by
   by_cases hxe:x=(scan v c).1
   ·rw [hxe];exact a
   exact hoth x hx hxe
  rcases scan_cases w c with ⟨_,x,hx,h1⟩ | ⟨e1,_⟩ | ⟨_,hm,hz,_⟩ | ⟨_,_,x,hx,_,_,_,hx0,_⟩
  ·have:=hall x hx;omega
  ·exact hcl.1 e1
  ·have:=hall _ hm;omega
  have:=hall x hx;omega
 exact ⟨by omega,by omega⟩
theorem passOne_le {N:Nat} {v w c:List Int} {b:Bool} (hv:Fine N v) (hw:Fine N w) (h:Le N v w) (hc:IsCl N c) (hcl:(scan w c).2≠0/\(scan w c).2≠1) :
  ∃ v' b',passOne (some (v,b)) c=some (v',b')/\Fine N v'/\Le N v' w:=by
 obtain ⟨h0,h1⟩:=scan_le hv hw h hc hcl
 by_cases e:(scan v c).2=1
 ·exact ⟨_,_,passOne_unit e,vset_fine hv _,h.set hv (hc _ (scan_unit_mem e)) (h1 e)⟩
 exact ⟨_,_,passOne_other h0 e,hv,h⟩
theorem pass_le {N:Nat} {w:List Int} {cs:List (List Int)} (hw:Fine N w) (hc:∀ c∈cs,IsCl N c) (hcl:Closed cs w):∀ {v:List Int} {b:Bool},Fine N v->Le N v w ->
  ∃ v' b',cs.foldl passOne (some (v,b))=some (v',b')/\Fine N v'/\Le N v' w:=by
 induction cs with
 | nil=>intro v b hf h;exact ⟨v,b,rfl,hf,h⟩
 | cons c cs ih =>
  intro v b hf h
  obtain ⟨v1,b1,e1,hf1,h1⟩:=passOne_le (b:=b) hf hw h (hc c (by simp)) (hcl c (by simp))
  rw [List.foldl_cons,e1]
  exact ih (fun d hd=>hc d (by simp [hd])) (fun d hd=>hcl d (by simp [hd])) hf1 h1
theorem spreadN_le {N:Nat} {w:List Int} {cs:List (List Int)} (hw:Fine N w) (hc:∀ c∈cs,IsCl N c) (hcl:Closed cs w):∀ (k:Nat) {v:List Int},Fine N v->Le N v w ->
  ∃ v',spreadN cs k v=some v'/\Le N v' w:=by
 intro k
 induction k with
 | zero=>intro v hf h;exact ⟨v,rfl,h⟩
 | succ k ih =>
  intro v hf h
  obtain ⟨v1,b1,e1,hf1,h1⟩:=pass_le hw hc hcl (b:=false) hf h
  have e1':pass cs v=some (v1,b1):=e1
  simp only [spreadN,e1']
  cases b1 with
  | true=>exact ih hf1 h1
  | false=>exact ⟨v1,rfl,h1⟩
theorem spread_le {N:Nat} {w:List Int} {cs:List (List Int)} (hw:Fine N w) (hc:∀ c∈cs,IsCl N c) (hcl:Closed cs w) {v:List Int} (hf:Fine N v) (h:Le N v w):∃ v',spread cs v=some v'/\Le N v' w:=
 spreadN_le hw hc hcl _ hf h
theorem pass_true {cs:List (List Int)} {v v':List Int} {b:Bool} (h:cs.foldl passOne (some (v,true))=some (v',b)):b=true:=by
 induction cs generalizing v with
 | nil=>simp at h;first | exact h.2.symm | exact h.2 | (obtain ⟨_,hb⟩:=h;exact hb ▸ rfl)
 | cons c cs ih =>
  rw [List.foldl_cons] at h
  cases hp:passOne (some (v,true)) c with
  | none=>rw [hp,passOne_none] at h;cases h
  | some x =>
   obtain ⟨v1,b1⟩:=x
   have:b1=true:=by
    simp only [passOne] at hp
    split at hp
    ·cases hp
    split at hp
    ·injection hp with hp;injection hp with _ hp;exact hp.symm
    injection hp with hp;injection hp with _ hp;exact hp.symm
   subst this
   rw [hp] at h
   exact ih h
theorem pass_false {cs:List (List Int)} {v v':List Int} (h:cs.foldl passOne (some (v,false))=some (v',false)):v'=v/\Closed cs v:=by
 induction cs with
 | nil=>simp at h;exact ⟨h.symm,fun c hc=>by simp at hc⟩
 | cons c cs ih =>
  rw [List.foldl_cons] at h
  by_cases h0:(scan v c).2=0
  ·rw [passOne_fails h0,passOne_none] at h;cases h
  by_cases h1:(scan v c).2=1
  ·rw [passOne_unit h1] at h
   have:=pass_true h;cases this
  rw [passOne_other h0 h1] at h
  obtain ⟨e,hcl⟩:=ih h
  refine ⟨e,fun d hd=>?_⟩
  rcases List.mem_cons.1 hd with rfl | hd
  ·exact ⟨h0,h1⟩
  exact hcl d hd
theorem passOne_grows {N:Nat} {v v' c:List Int} {b b':Bool} (hv:Fine N v) (hc:IsCl N c) (h:passOne (some (v,b)) c=some (v',b')):Le N v v':=by
 simp only [passOne] at h
 split at h
 ·cases h
 split at h
 ·rename_i h0 h1
  injection h with h;injection h with ha _
  subst ha
  refine le_vset hv (hc _ (scan_unit_mem h1)) ?_
  rcases scan_cases v c with ⟨e,_⟩ | ⟨e,_⟩ | ⟨_,_,hz,_⟩ | ⟨e,_⟩ <;> omega
 injection h with h;injection h with ha _
 subst ha;exact Le.refl N _
theorem pass_grows {N:Nat} {cs:List (List Int)} (hc:∀ c∈cs,IsCl N c):∀ {v v':List Int} {b b':Bool},Fine N v->cs.foldl passOne (some (v,b))=some (v',b')->Le N v v':=by
 induction cs with
 | nil=>intro v v' b b' _ h;simp at h;rw [h.1];exact Le.refl N _
 | cons c cs ih =>
  intro v v' b b' hf h
  rw [List.foldl_cons] at h
  cases hp:passOne (some (v,b)) c with
  | none=>rw [hp,passOne_none] at h;cases h
  | some x =>
   obtain ⟨v1,b1⟩:=x
   rw [hp] at h
   exact (passOne_grows hf (hc c (by simp)) hp).trans (ih (fun d hd=>hc d (by simp [hd])) (passOne_ok hf (hc c (by simp)) hp).1 h)
theorem spreadN_closed {N:Nat} {cs:List (List Int)} (hc:∀ c∈cs,IsCl N c):∀ (k:Nat) {v v':List Int},Fine N v->zeros v<k->spreadN cs k v=some v'->Closed cs v'/\Le N v v':=by
 intro k
 induction k with
 | zero=>intro v v' _ hk;omega
 | succ k ih =>
  intro v v' hf hk h
  simp only [spreadN] at h
  cases hp:pass cs v with
  | none=>rw [hp] at h;cases h
  | some x =>
   obtain ⟨v1,b⟩:=x
   rw [hp] at h
   have hok:=pass_ok hc hf hp
   have hgr:=pass_grows hc hf hp
   cases b with
   | true =>
    rcases hok.2 with ⟨_,h1⟩ | ⟨h1,_⟩
    ·cases h1
    obtain ⟨h2,h3⟩:=ih hok.1 (by omega) h
    exact ⟨h2,hgr.trans h3⟩
   | false =>
    simp at h;subst h
    obtain ⟨e,hcl⟩:=pass_false hp
    subst e
    exact ⟨hcl,Le.refl N _⟩
theorem spread_closed {N:Nat} {cs:List (List Int)} (hc:∀ c∈cs,IsCl N c) {v v':List Int} (hf:Fine N v) (h:spread cs v=some v'):Closed cs v'/\Le N v v'/\Fine N v':=
 let ⟨a,b⟩:=spreadN_closed hc _ hf (Nat.lt_succ_self _) h
 ⟨a,b,spread_fine hc hf h⟩
theorem eq_of_le {N:Nat} {v w:List Int} (hv:Fine N v) (hw:Fine N w) (h:Le N v w) (k:Le N w v) (h0:v.getD 0 0=w.getD 0 0):v=w:=by
 apply List.ext_getElem (by rw [hv.1,hw.1])
 intro i h1 h2
 by_cases hi:i=0
 ·subst hi
  simpa [List.getD_eq_getElem?_getD,List.getElem?_eq_getElem h1,List.getElem?_eq_getElem h2] using h0
 have hl:IsLit N (i:Int):=⟨by omega,by have:=hv.1;omega⟩
 have e1:vof v i=v[i]:=by unfold vof;rw [if_neg (by omega)];simp [List.getD_eq_getElem?_getD,List.getElem?_eq_getElem h1]
 have e2:vof w i=w[i]:=by unfold vof;rw [if_neg (by omega)];simp [List.getD_eq_getElem?_getD,List.getElem?_eq_getElem h2]
 rw [<- e1,<- e2]
 rcases vof_range hv i with a | a | a
 ·rcases vof_range hw i with b | b | b
  ·omega
  ·have:=k i hl b;omega
  have:=k.fails hl b;omega
 ·rw [a,h i hl a]
 rw [a,h.fails hl a]
theorem assume_known {N:Nat} {ls:List Int} (hl:∀ n∈ls,IsLit N n):∀ {v v':List Int},Fine N v->ls.foldl assume1 (some v)=some v'->Fine N v'/\Le N v v'/\∀ n∈ls,vof v' n=1:=by
 induction ls with
 | nil=>intro v v' hf h;simp at h;subst h;exact ⟨hf,Le.refl N _,fun n hn=>by simp at hn⟩
 | cons n ls ih =>
  intro v v' hf h
  rw [List.foldl_cons] at h
  have hn:=hl n (by simp)
  by_cases hv:vof v n = -1
  ·have:assume1 (some v) n=none:=by simp only [assume1];rw [if_pos hv]
   rw [this,assume1_none] at h;cases h
  have:assume1 (some v) n=some (vset v n):=by simp only [assume1];rw [if_neg hv]
  rw [this] at h
  obtain ⟨h1,h2,h3⟩:=ih (fun k hk=>hl k (by simp [hk])) (vset_fine hf _) h
  refine ⟨h1,(le_vset hf hn hv).trans h2,fun k hk=>?_⟩
  rcases List.mem_cons.1 hk with rfl | hk
  ·exact h2 k hn (by rw [vof_vset hf hn k hn.1,if_pos rfl])
  exact h3 k hk
theorem assume_le {N:Nat} {w:List Int} {ls:List Int} (hl:∀ n∈ls,IsLit N n/\vof w n=1):∀ {v:List Int},Fine N v->Le N v w->∃ v',ls.foldl assume1 (some v)=some v'/\Fine N v'/\Le N v' w:=by
 induction ls with
 | nil=>intro v hf h;exact ⟨v,rfl,hf,h⟩
 | cons n ls ih =>
  intro v hf h
  obtain ⟨hn,hm⟩:=hl n (by simp)
  have hv:vof v n ≠ -1:=by intro e;have:=h.fails hn e;omega
  rw [List.foldl_cons]
  have:assume1 (some v) n=some (vset v n):=by simp only [assume1];rw [if_neg hv]
  rw [this]
  exact ih (fun k hk=>hl k (by simp [hk])) (vset_fine hf _) (h.set hf hn hm)
end Qm

namespace Qm
theorem litsTo_mem {N:Nat} {v:List Int} (hf:Fine N v):∀ {k:Nat},k<=N->∀ n,n∈litsTo v k↔IsLit k n/\vof v n=1:=by
 intro k
 induction k with
 | zero=>intro _ n;exact ⟨fun h=>by simp [litsTo] at h,fun h=>by have:=h.1.1;have:=h.1.2;omega⟩
 | succ k ih =>
  intro hk n
  have ihn:=ih (by omega) n
  have hl:((k+1:Nat):Int).natAbs=k+1:=by omega
  have hr:=hf.2 (v.getD (k+1) 0) (by
   rw [List.getD_eq_getElem?_getD,List.getElem?_eq_getElem (by have:=hf.1;omega)];exact List.getElem_mem _)
  rw [litsTo_succ,List.mem_append,ihn]
  have hvp:vof v ((k:Int)+1)=v.getD (k+1) 0:=by unfold vof;rw [if_neg (by omega)];congr 1
  have hvn:vof v (-((k:Int)+1)) = -v.getD (k+1) 0:=by rw [vof_neg v _ (by omega),hvp]
  constructor
  ·rintro (⟨h1,h2⟩ | h)
   ·exact ⟨⟨h1.1,by have:=h1.2;omega⟩,h2⟩
   rcases hr with e | e | e
   ·rw [if_pos e] at h;simp at h
   ·rw [if_neg (by omega),e,List.mem_singleton] at h
    have hn:n=(k:Int)+1:=by omega
    subst hn
    exact ⟨⟨by omega,by omega⟩,by rw [hvp,e]⟩
   rw [if_neg (by omega),e,List.mem_singleton] at h
   have hn:n = -((k:Int)+1):=by omega
   subst hn
   exact ⟨⟨by omega,by omega⟩,by rw [hvn,e];rfl⟩
  rintro ⟨h1,h2⟩
  by_cases hle:n.natAbs<=k
  ·exact .inl ⟨⟨h1.1,hle⟩,h2⟩
  right
  have h3:=h1.2
  by_cases hp:0<n
  ·have hn:n=(k:Int)+1:=by omega
   subst hn
   rw [hvp] at h2
   rw [if_neg (by omega),h2,List.mem_singleton];omega
  have hn:n = -((k:Int)+1):=by omega
  subst hn
  rw [hvn] at h2
  have:v.getD (k+1) 0 = -1:=by omega
  rw [if_neg (by omega),this,List.mem_singleton];omega
theorem vset_zero {N:Nat} {v:List Int} {n:Int} (hn:IsLit N n) (h:v.getD 0 0=0):(vset v n).getD 0 0=0:=by
 have:=hn.1
 have h0:n.natAbs≠0:=by omega
 unfold vset
 simp only [List.getD_eq_getElem?_getD] at h ⊢
 split <;> (rw [List.getElem?_set_ne (by omega)];exact h)
theorem assume_zero {N:Nat} {ls:List Int} (hl:∀ n∈ls,IsLit N n):∀ {v v':List Int},v.getD 0 0=0->ls.foldl assume1 (some v)=some v'->v'.getD 0 0=0:=by
 induction ls with
 | nil=>intro v v' h0 h;simp at h;subst h;exact h0
 | cons n ls ih =>
  intro v v' h0 h
  rw [List.foldl_cons] at h
  by_cases hv:vof v n = -1
  ·have:assume1 (some v) n=none:=by simp only [assume1];rw [if_pos hv]
   rw [this,assume1_none] at h;cases h
  have:assume1 (some v) n=some (vset v n):=by simp only [assume1];rw [if_neg hv]
  rw [this] at h
  exact ih (fun k hk=>hl k (by simp [hk])) (vset_zero (hl n (by simp)) h0) h
theorem passOne_zero {N:Nat} {v v' c:List Int} {b b':Bool} (hc:IsCl N c) (h0:v.getD 0 0=0) (h:passOne (some (v,b)) c=some (v',b')):v'.getD 0 0=0:=by
 simp only [passOne] at h
 split at h
 ·cases h
 split at h
 ·rename_i h1
  injection h with h;injection h with ha _
  subst ha
  exact vset_zero (hc _ (scan_unit_mem h1)) h0
 injection h with h;injection h with ha _
 subst ha;exact h0
theorem pass_zero {N:Nat} {cs:List (List Int)} (hc:∀ c∈cs,IsCl N c):∀ {v v':List Int} {b b':Bool},v.getD 0 0=0->cs.foldl passOne (some (v,b))=some (v',b')->v'.getD 0 0=0:=by
 induction cs with
 | nil=>intro v v' b b' h0 h;simp at h;rw [<- h.1];exact h0
 | cons c cs ih =>
  intro v v' b b' h0 h
  rw [List.foldl_cons] at h
  cases hp:passOne (some (v,b)) c with
  | none=>rw [hp,passOne_none] at h;cases h
  | some x =>
   obtain ⟨v1,b1⟩:=x
   rw [hp] at h
   exact ih (fun d hd=>hc d (by simp [hd])) (passOne_zero (hc c (by simp)) h0 hp) h
theorem spreadN_zero {N:Nat} {cs:List (List Int)} (hc:∀ c∈cs,IsCl N c):∀ (k:Nat) {v v':List Int},v.getD 0 0=0->spreadN cs k v=some v'->v'.getD 0 0=0:=by
 intro k
 induction k with
 | zero=>intro v v' h0 h;simp [spreadN] at h;subst h;exact h0
 | succ k ih =>
  intro v v' h0 h
  simp only [spreadN] at h
  cases hp:pass cs v with
  | none=>rw [hp] at h;cases h
  | some x =>
   obtain ⟨v1,b⟩:=x
   rw [hp] at h
   have h1:=pass_zero hc h0 hp
   cases b with
   | true=>exact ih h1 h
   | false=>simp at h;subst h;exact h1
theorem zeroVals_zero (N:Nat):(zeroVals N).getD 0 0=0:=by
 rw [List.getD_eq_getElem?_getD,zeroVals,List.getElem?_replicate];split <;> rfl
theorem fol_parts {N:Nat} {cs:List (List Int)} {az v:List Int} (hc:∀ c∈cs,IsCl N c) (hl:∀ n∈az,IsLit N n) (h:followsV N cs az=some v) :
  Closed cs v/\Fine N v/\v.getD 0 0=0/\∀ n∈az,vof v n=1:=by
 unfold followsV at h
 cases ha:assume az (zeroVals N) with
 | none=>rw [ha] at h;cases h
 | some v1 =>
  rw [ha] at h
  have ha':az.foldl assume1 (some (zeroVals N))=some v1:=ha
  obtain ⟨hf1,_,hk⟩:=assume_known hl (zeroVals_fine N) ha'
  obtain ⟨h1,h2,h3⟩:=spread_closed hc hf1 h
  exact ⟨h1,h3,spreadN_zero hc _ (assume_zero hl (zeroVals_zero N) ha') h,fun n hn=>h2 n (hl n hn) (hk n hn)⟩
theorem fol_below {N:Nat} {cs:List (List Int)} {az w:List Int} (hc:∀ c∈cs,IsCl N c) (hw:Fine N w) (hcl:Closed cs w) (hl:∀ n∈az,IsLit N n/\vof w n=1):∃ v,followsV N cs az=some v/\Le N v w:=by
 obtain ⟨v1,e1,hf1,h1⟩:=assume_le hl (zeroVals_fine N) (le_zero N w)
 obtain ⟨v2,e2,h2⟩:=spread_le hw hc hcl hf1 h1
 have e1':assume az (zeroVals N)=some v1:=e1
 exact ⟨v2,by unfold followsV;rw [e1'];exact e2,h2⟩
theorem fol_sound {N:Nat} {m:List Bool} {cs:List (List Int)} {az:List Int} (hc:∀ c∈cs,IsCl N c) (hh:holdsF m cs=true) (hl:∀ n∈az,IsLit N n/\litHolds m n=true) :
  ∃ v,followsV N cs az=some v/\∀ n∈litsTo v N,litHolds m n=true:=by
 obtain ⟨v1,e1,hf1,h1⟩:=assume_sound hl (zeroVals_fine N) (Agrees.zero N m)
 obtain ⟨v2,e2,hf2,h2⟩:=spread_sound hc hh hf1 h1
 have e1':assume az (zeroVals N)=some v1:=e1
 refine ⟨v2,by unfold followsV;rw [e1'];exact e2,fun n hn=>?_⟩
 obtain ⟨ha,hb⟩:=(litsTo_mem hf2 (Nat.le_refl _) n).1 hn
 exact h2 n ha hb
end Qm

namespace Qm
theorem rupStep_iff {N:Nat} {cs:List (List Int)} {c:List Int} (hc:∀ d∈cs,IsCl N d) (hl:IsCl N c):rupStep N cs c=true↔¬ ∃ w,Fine N w/\Closed cs w/\∀ x∈c,vof w x = -1:=by
 have hneg:∀ n∈c.map Neg.neg,IsLit N n:=by
  intro n hn
  obtain ⟨x,hx,rfl⟩:=List.mem_map.1 hn
  exact (hl x hx).neg
 constructor
 ·rintro h ⟨w,hw,hcl,hf⟩
  obtain ⟨v1,e1,hf1,h1⟩:=assume_le (ls:=c.map Neg.neg) (fun n hn=>⟨hneg n hn,by
   obtain ⟨x,hx,rfl⟩:=List.mem_map.1 hn
   rw [vof_neg w x (hl x hx).1,hf x hx];rfl⟩) (zeroVals_fine N) (le_zero N w)
  obtain ⟨v2,e2,_⟩:=spread_le hw hc hcl hf1 h1
  have e1':assume (c.map Neg.neg) (zeroVals N)=some v1:=e1
  unfold rupStep at h
  rw [e1'] at h
  simp only [e2] at h
  cases h
 intro h
 cases hs:rupStep N cs c with
 | true=>rfl
 | false =>
  exfalso;apply h
  unfold rupStep at hs
  cases ha:assume (c.map Neg.neg) (zeroVals N) with
  | none=>rw [ha] at hs;cases hs
  | some v1 =>
   rw [ha] at hs
   have ha':(c.map Neg.neg).foldl assume1 (some (zeroVals N))=some v1:=ha
   obtain ⟨hf1,_,hk⟩:=assume_known hneg (zeroVals_fine N) ha'
   cases hsp:spread cs v1 with
   | none=>simp [hsp] at hs
   | some v2 =>
    obtain ⟨h1,h2,h3⟩:=spread_closed hc hf1 hsp
    refine ⟨v2,h3,h1,fun x hx=>?_⟩
    have h4:=h2 (-x) (hl x hx).neg (hk (-x) (List.mem_map.2 ⟨x,hx,rfl⟩))
    rw [vof_neg v2 x (hl x hx).1] at h4;omega
theorem scan_all_fail {N:Nat} {w c:List Int} (hw:Fine N w) (hf:∀ x∈c,vof w x = -1):(scan w c).2=0:=by
 rcases scan_cases w c with ⟨_,x,hx,h1⟩ | ⟨e1,_⟩ | ⟨_,hm,hz,_⟩ | ⟨_,_,x,hx,_,_,_,hx0,_⟩
 ·have:=hf x hx;omega
 ·exact e1
 ·have:=hf _ hm;omega
 have:=hf x hx;omega
def Steps (N:Nat) (cs pf:List (List Int)):Prop:=∀ k,k<pf.length->rupStep N (cs++pf.take k) (pf.getD k [])=true
end Qm

namespace Qm
inductive Res where
 | out:Res
 | found:List Bool->Res
 | no:Nat->List (List Int)->Res
def idx0 (v:List Int):Option Nat:=(v.drop 1).findIdx? (fun x=>0 == x)
def boolsOf (v:List Int):List Bool:=(v.drop 1).map (fun n=>decide (0<n))
def search (cs:List (List Int)):Nat->Nat->List (List Int)->List Int->List Int->Res
 | 0,_,_,_,_=>.out
 | g+1,st,pf,tk,v =>
  if st=0\/60<tk.length then .out
  else match spread cs v with
   | none=>.no (st - 1) (pf++[tk.map Neg.neg])
   | some v'=>match idx0 v' with
    | none=>.found (boolsOf v')
    | some i=>match search cs g (st - 1) pf (tk++[-((i:Int)+1)]) (vset v' (-((i:Int)+1))) with
     | .out=>.out
     | .found m=>.found m
     | .no st1 pf1=>match search cs g st1 pf1 (tk++[(i:Int)+1]) (vset v' ((i:Int)+1)) with
      | .out=>.out
      | .found m=>.found m
      | .no st2 pf2=>.no st2 (pf2++[tk.map Neg.neg])
def searchR (N:Nat) (cs:List (List Int)):Nat->Nat->List (List Int)->List Int->Res
 | 0,_,_,_=>.out
 | g+1,st,pf,tk =>
  if st=0\/60<tk.length then .out
  else match followsV N cs tk with
   | none=>.no (st - 1) (pf++[tk.map Neg.neg])
   | some v'=>match idx0 v' with
    | none=>.found (boolsOf v')
    | some i=>match searchR N cs g (st - 1) pf (tk++[-((i:Int)+1)]) with
     | .out=>.out
     | .found m=>.found m
     | .no st1 pf1=>match searchR N cs g st1 pf1 (tk++[(i:Int)+1]) with
      | .out=>.out
      | .found m=>.found m
      | .no st2 pf2=>.no st2 (pf2++[tk.map Neg.neg])
theorem idx0_some {N:Nat} {v:List Int} (hf:Fine N v) {i:Nat} (h:idx0 v=some i):i<N/\v.getD (i+1) 0=0/\∀ j,j<i->v.getD (j+1) 0≠0:=by
 unfold idx0 at h
 rw [List.findIdx?_eq_some_iff_getElem] at h
 obtain ⟨hl,h0,hb⟩:=h
 have hlen:=hf.1
 rw [List.length_drop] at hl
 refine ⟨by omega, ?_,fun j hj=>?_⟩
 ·rw [List.getD_eq_getElem?_getD,List.getElem?_eq_getElem (by omega)]
  have:0=v[i+1]'(by omega):=by simpa using h0
  exact this.symm
 rw [List.getD_eq_getElem?_getD,List.getElem?_eq_getElem (by omega)]
 have:=hb j hj
 intro e
 apply this
 simp only [List.getElem_drop,beq_iff_eq]
 simp only [Nat.add_comm j 1] at e
 exact e.symm
theorem idx0_none {N:Nat} {v:List Int} (hf:Fine N v) (h:idx0 v=none):∀ j,j<N->v.getD (j+1) 0≠0:=by
 unfold idx0 at h
 rw [List.findIdx?_eq_none_iff] at h
 intro j hj e
 have hlen:=hf.1
 rw [List.getD_eq_getElem?_getD,List.getElem?_eq_getElem (by omega)] at e
 have hm:v[j+1]'(by omega)∈v.drop 1:=by
  rw [List.mem_iff_getElem]
  exact ⟨j,by rw [List.length_drop];omega,by simp only [List.getElem_drop,Nat.add_comm 1 j]⟩
 have:=h _ hm
 simp only [Option.getD_some] at e
 rw [e] at this
 simp at this
theorem vof_pos (v:List Int) (j:Nat):vof v ((j:Int)+1)=v.getD (j+1) 0:=by unfold vof;rw [if_neg (by omega)];congr 1
theorem lit_pos {N j:Nat} (h:j<N):IsLit N ((j:Int)+1):=⟨by omega,by omega⟩
theorem zeros_set {N:Nat} {v:List Int} (hf:Fine N v) {i:Nat} (h:idx0 v=some i):zeros (vset v ((i:Int)+1))+1=zeros v/\zeros (vset v (-((i:Int)+1)))+1=zeros v:=by
 obtain ⟨h1,h2,_⟩:=idx0_some hf h
 have hl:=lit_pos h1
 have h0:vof v ((i:Int)+1)=0:=by rw [vof_pos];exact h2
 exact ⟨zeros_vset hf hl h0,zeros_vset hf hl.neg (by rw [vof_neg v _ hl.1,h0];rfl)⟩
theorem zeros_spreadN {N:Nat} {cs:List (List Int)} (hc:∀ c∈cs,IsCl N c):∀ (k:Nat) {v v':List Int},Fine N v->spreadN cs k v=some v'->zeros v'<=zeros v:=by
 intro k
 induction k with
 | zero=>intro v v' _ h;simp [spreadN] at h;subst h;exact Nat.le_refl _
 | succ k ih =>
  intro v v' hf h
  simp only [spreadN] at h
  cases hp:pass cs v with
  | none=>rw [hp] at h;cases h
  | some x =>
   obtain ⟨v1,b⟩:=x
   rw [hp] at h
   have hok:=pass_ok hc hf hp
   have hz:zeros v1<=zeros v:=by
    rcases hok.2 with ⟨e,_⟩ | ⟨e,_⟩
    ·rw [e];exact Nat.le_refl _
    omega
   cases b with
   | true=>have:=ih hok.1 h;omega
   | false=>simp at h;subst h;exact hz
theorem zeros_spread {N:Nat} {cs:List (List Int)} (hc:∀ c∈cs,IsCl N c) {v v':List Int} (hf:Fine N v) (h:spread cs v=some v'):zeros v'<=zeros v:=zeros_spreadN hc _ hf h
theorem spread_join {N:Nat} {cs:List (List Int)} (hc:∀ c∈cs,IsCl N c) {u v':List Int} (hu:Fine N u) (h0:u.getD 0 0=0) (hs:spread cs u=some v') {n:Int} (hn:IsLit N n) (hv:vof v' n=0) :
  spread cs (vset u n)=spread cs (vset v' n):=by
 obtain ⟨hcl,hle,hf'⟩:=spread_closed hc hu hs
 have hv0:v'.getD 0 0=0:=spreadN_zero hc _ h0 hs
 have hvn:vof v' (-n)=0:=by rw [vof_neg v' n hn.1,hv];rfl
 have hlset:Le N (vset u n) (vset v' n):=by
  intro k hk h1
  rw [vof_vset hu hn k hk.1] at h1
  rw [vof_vset hf' hn k hk.1]
  split at h1
  ·rename_i e;rw [if_pos e]
  rename_i e
  rw [if_neg e]
  split at h1
  ·omega
  rename_i e2;rw [if_neg e2];exact hle k hk h1
 have hun:vof u n ≠ -1:=by intro e;have:=hle.fails hn e;omega
 have huu:Le N u (vset u n):=le_vset hu hn hun
 have key:∀ w,spread cs (vset u n)=some w->∃ w',spread cs (vset v' n)=some w'/\Le N w' w:=by
  intro w hw
  obtain ⟨h1,h2,h3⟩:=spread_closed hc (vset_fine hu n) hw
  obtain ⟨v2,e2,h4⟩:=spread_le h3 hc h1 hu (huu.trans h2)
  rw [hs] at e2;injection e2 with e2;subst e2
  have hn1:vof w n=1:=h2 n hn (by rw [vof_vset hu hn n hn.1,if_pos rfl])
  exact spread_le h3 hc h1 (vset_fine hf' n) (h4.set hf' hn hn1)
 cases ha:spread cs (vset u n) with
 | none =>
  cases hb:spread cs (vset v' n) with
  | none=>rfl
  | some w' =>
   obtain ⟨h1,h2,h3⟩:=spread_closed hc (vset_fine hf' n) hb
   obtain ⟨w,e,_⟩:=spread_le h3 hc h1 (vset_fine hu n) (hlset.trans h2)
   rw [ha] at e;cases e
 | some w =>
  obtain ⟨w',e,h1⟩:=key w ha
  obtain ⟨c1,c2,c3⟩:=spread_closed hc (vset_fine hu n) ha
  obtain ⟨d1,d2,d3⟩:=spread_closed hc (vset_fine hf' n) e
  obtain ⟨w2,e2,h2⟩:=spread_le d3 hc d1 (vset_fine hu n) (hlset.trans d2)
  rw [ha] at e2;injection e2 with e2;subst e2
  rw [e]
  congr 1
  refine eq_of_le c3 d3 h2 h1 ?_
  rw [spreadN_zero hc _ (vset_zero hn h0) ha,spreadN_zero hc _ (vset_zero hn hv0) e]
theorem follows_snoc {N:Nat} {cs:List (List Int)} (hc:∀ c∈cs,IsCl N c) {tk:List Int} (ht:∀ n∈tk,IsLit N n) {v':List Int} (h:followsV N cs tk=some v') {n:Int} (hn:IsLit N n) (hv:vof v' n=0) :
  followsV N cs (tk++[n])=spread cs (vset v' n):=by
 unfold followsV at h
 cases ha:assume tk (zeroVals N) with
 | none=>rw [ha] at h;cases h
 | some u =>
  rw [ha] at h
  have ha':tk.foldl assume1 (some (zeroVals N))=some u:=ha
  obtain ⟨hf,_,_⟩:=assume_known ht (zeroVals_fine N) ha'
  have h0:=assume_zero ht (zeroVals_zero N) ha'
  obtain ⟨_,hle,_⟩:=spread_closed hc hf h
  have hun:vof u n ≠ -1:=by intro e;have:=hle.fails hn e;omega
  have e:assume (tk++[n]) (zeroVals N)=some (vset u n):=by
   unfold assume
   rw [List.foldl_append,ha',List.foldl_cons,List.foldl_nil]
   simp only [assume1];rw [if_neg hun]
  unfold followsV
  rw [e]
  exact spread_join hc hf h0 h hn hv
theorem search_len {cs:List (List Int)}:∀ (g st:Nat) (pf:List (List Int)) (tk v:List Int) {st':Nat} {pf':List (List Int)},search cs g st pf tk v=.no st' pf'->pf'.length+st'<=pf.length+st/\st'<=st:=by
 intro g
 induction g with
 | zero=>intro st pf tk v st' pf' h;cases h
 | succ g ih =>
  intro st pf tk v st' pf' h
  unfold search at h
  split at h
  ·cases h
  rename_i hst
  have hst0:0<st:=by omega
  cases hs:spread cs v with
  | none=>rw [hs] at h;injection h with h1 h2;subst h1 h2;simp;omega
  | some v' =>
   rw [hs] at h
   simp only at h
   cases hi:idx0 v' with
   | none=>rw [hi] at h;cases h
   | some i =>
    rw [hi] at h
    simp only at h
    cases hr1:search cs g (st - 1) pf (tk++[-((i:Int)+1)]) (vset v' (-((i:Int)+1))) with
    | out=>rw [hr1] at h;cases h
    | found m=>rw [hr1] at h;cases h
    | no st1 pf1 =>
     rw [hr1] at h
     simp only at h
     cases hr2:search cs g st1 pf1 (tk++[(i:Int)+1]) (vset v' ((i:Int)+1)) with
     | out=>rw [hr2] at h;cases h
     | found m=>rw [hr2] at h;cases h
     | no st2 pf2 =>
      rw [hr2] at h
      injection h with h1 h2
      have a:=ih _ _ _ _ hr1
      have b:=ih _ _ _ _ hr2
      subst h1 h2;simp;omega
theorem lits_snoc {N:Nat} {tk:List Int} (ht:∀ n∈tk,IsLit N n) {n:Int} (hn:IsLit N n):∀ x∈tk++[n],IsLit N x:=by
 intro x hx
 rcases List.mem_append.1 hx with hx | hx
 ·exact ht x hx
 simp at hx;subst hx;exact hn
theorem search_eq {N:Nat} {cs:List (List Int)} (hc:∀ c∈cs,IsCl N c):∀ (g st:Nat) (pf:List (List Int)) (tk v:List Int),(∀ n∈tk,IsLit N n)->followsV N cs tk=spread cs v ->
  search cs g st pf tk v=searchR N cs g st pf tk:=by
 intro g
 induction g with
 | zero=>intro st pf tk v _ _;rfl
 | succ g ih =>
  intro st pf tk v ht h
  unfold search searchR
  rw [<- h]
  split
  ·rfl
  cases hv:followsV N cs tk with
  | none=>rfl
  | some v' =>
   simp only
   obtain ⟨_,hf,_,_⟩:=fol_parts hc ht hv
   cases hi:idx0 v' with
   | none=>rfl
   | some i =>
    simp only
    obtain ⟨h1,h2,_⟩:=idx0_some hf hi
    have hl:=lit_pos h1
    have h0:vof v' ((i:Int)+1)=0:=by rw [vof_pos];exact h2
    have hn0:vof v' (-((i:Int)+1))=0:=by rw [vof_neg v' _ hl.1,h0];rfl
    rw [ih (st - 1) pf _ _ (lits_snoc ht hl.neg) (follows_snoc hc ht hv hl.neg hn0)]
    cases searchR N cs g (st - 1) pf (tk++[-((i:Int)+1)]) with
    | out=>rfl
    | found m=>rfl
    | no st1 pf1 =>
     simp only
     rw [ih st1 pf1 _ _ (lits_snoc ht hl) (follows_snoc hc ht hv hl h0)]
def LexLe (m m':List Bool):Prop:=∀ k,(∀ j,j<k->m.getD j false=m'.getD j false)->m.getD k false≠m'.getD k false->m.getD k false=false
theorem agrees_at {N:Nat} {v:List Int} {m:List Bool} (hf:Fine N v) (h:∀ n∈litsTo v N,litHolds m n=true) {j:Nat} (hj:j<N) (h0:v.getD (j+1) 0≠0):m.getD j false=decide (0<v.getD (j+1) 0):=by
 have hl:=lit_pos hj
 have hmem:=litsTo_mem hf (Nat.le_refl N)
 have hr:=vof_range hf ((j:Int)+1)
 rw [vof_pos] at hr
 rcases hr with e | e | e
 ·exact absurd e h0
 ·have:=h _ ((hmem _).2 ⟨hl,by rw [vof_pos];exact e⟩)
  rw [e]
  unfold litHolds at this
  have e1:((j:Int)+1).natAbs - 1=j:=by omega
  have e2:decide (0<(j:Int)+1)=true:=decide_eq_true (by omega)
  rw [e1,e2] at this
  simpa using this
 have:=h _ ((hmem _).2 ⟨hl.neg,by rw [vof_neg v _ hl.1,vof_pos,e];rfl⟩)
 rw [e]
 unfold litHolds at this
 have e1:(-((j:Int)+1)).natAbs - 1=j:=by omega
 have e2:decide (0 < -((j:Int)+1))=false:=decide_eq_false (by omega)
 rw [e1,e2] at this
 simpa using this
theorem boolsOf_len {N:Nat} {v:List Int} (hf:Fine N v):(boolsOf v).length=N:=by unfold boolsOf;rw [List.length_map,List.length_drop,hf.1];omega
theorem search_found_len {N:Nat} {cs:List (List Int)} (hc:∀ c∈cs,IsCl N c):∀ (g st:Nat) (pf:List (List Int)) (tk v:List Int) {m:List Bool},Fine N v->search cs g st pf tk v=.found m->m.length=N:=by
 intro g
 induction g with
 | zero=>intro st pf tk v m _ h;cases h
 | succ g ih =>
  intro st pf tk v m hf h
  unfold search at h
  split at h
  ·cases h
  cases hs:spread cs v with
  | none=>rw [hs] at h;cases h
  | some v' =>
   rw [hs] at h
   simp only at h
   have hf':=spread_fine hc hf hs
   cases hi:idx0 v' with
   | none=>rw [hi] at h;injection h with h;subst h;exact boolsOf_len hf'
   | some i =>
    rw [hi] at h
    simp only at h
    cases hr1:search cs g (st - 1) pf (tk++[-((i:Int)+1)]) (vset v' (-((i:Int)+1))) with
    | out=>rw [hr1] at h;cases h
    | found m1=>rw [hr1] at h;injection h with h;subst h;exact ih _ _ _ _ (vset_fine hf' _) hr1
    | no st1 pf1 =>
     rw [hr1] at h
     simp only at h
     cases hr2:search cs g st1 pf1 (tk++[(i:Int)+1]) (vset v' ((i:Int)+1)) with
     | out=>rw [hr2] at h;cases h
     | found m1=>rw [hr2] at h;injection h with h;subst h;exact ih _ _ _ _ (vset_fine hf' _) hr2
     | no st2 pf2=>rw [hr2] at h;cases h
theorem boolsOf_at {N:Nat} {v:List Int} (hf:Fine N v) {j:Nat} (hj:j<N):(boolsOf v).getD j false=decide (0<v.getD (j+1) 0):=by
 have hlen:=hf.1
 unfold boolsOf
 rw [List.getD_eq_getElem?_getD,List.getD_eq_getElem?_getD,List.getElem?_map,List.getElem?_drop,List.getElem?_eq_getElem (by omega),List.getElem?_eq_getElem (by omega)]
 simp only [Option.map_some,Option.getD_some,Nat.add_comm 1 j]
theorem boolsOf_lit {N:Nat} {v:List Int} (hf:Fine N v) (ht:∀ j,j<N->v.getD (j+1) 0≠0) {n:Int} (hn:IsLit N n) (h:vof v n=1):litHolds (boolsOf v) n=true:=by
 obtain ⟨h0,h1⟩:=hn
 obtain ⟨j,hj⟩:∃ j:Nat,n.natAbs=j+1:=⟨n.natAbs - 1,by omega⟩
 have hjN:j<N:=by omega
 unfold litHolds
 have e1:n.natAbs - 1=j:=by omega
 rw [e1,boolsOf_at hf hjN]
 have hp:=vof_pos v j
 by_cases hn0:0<n
 ·have e:n=(j:Int)+1:=by omega
  rw [e,hp] at h
  rw [h,e]
  have:decide (0<(j:Int)+1)=true:=decide_eq_true (by omega)
  rw [this];rfl
 have e:n = -((j:Int)+1):=by omega
 have hneg:=vof_neg v ((j:Int)+1) (by omega)
 rw [e,hneg,hp] at h
 have h':v.getD (j+1) 0 = -1:=by omega
 rw [h',e]
 have:decide (0 < -((j:Int)+1))=false:=decide_eq_false (by omega)
 rw [this];rfl
theorem total_holds {N:Nat} {cs:List (List Int)} (hc:∀ c∈cs,IsCl N c) {v:List Int} (hf:Fine N v) (hcl:Closed cs v) (ht:∀ j,j<N->v.getD (j+1) 0≠0):holdsF (boolsOf v) cs=true:=by
 unfold holdsF
 rw [List.all_eq_true]
 intro c hcc
 have hz:∀ x∈c,vof v x≠0:=by
  intro x hx e
  obtain ⟨h0,h1⟩:=hc c hcc x hx
  obtain ⟨j,hj⟩:∃ j:Nat,x.natAbs=j+1:=⟨x.natAbs - 1,by omega⟩
  have:=ht j (by omega)
  have hp:=vof_pos v j
  by_cases hn0:0<x
  ·have e':x=(j:Int)+1:=by omega
   rw [e',hp] at e;exact this e
  have e':x = -((j:Int)+1):=by omega
  rw [e',vof_neg v _ (by omega),hp] at e;omega
 rcases scan_cases v c with ⟨_,x,hx,h1⟩ | ⟨e,_⟩ | ⟨e,_⟩ | ⟨_,_,x,hx,_,_,_,hx0,_⟩
 ·exact List.any_eq_true.2 ⟨x,hx,boolsOf_lit hf ht (hc c hcc x hx) h1⟩
 ·exact absurd e (hcl c hcc).1
 ·exact absurd e (hcl c hcc).2
 exact absurd hx0 (hz x hx)
def Tells (N:Nat) (cs:List (List Int)) (tk:List Int):Res->Prop
 | .out=>True
 | .found m=>m.length=N/\holdsF m cs=true/\(∀ n∈tk,litHolds m n=true)/\∀ m':List Bool,m'.length=N->holdsF m' cs=true->(∀ n∈tk,litHolds m' n=true)->LexLe m m'
 | .no _ _=>∀ m':List Bool,m'.length=N->holdsF m' cs=true->(∀ n∈tk,litHolds m' n=true)->False
theorem searchR_tells {N:Nat} {cs:List (List Int)} (hc:∀ c∈cs,IsCl N c):∀ (g st:Nat) (pf:List (List Int)) (tk:List Int),(∀ n∈tk,IsLit N n)->Tells N cs tk (searchR N cs g st pf tk):=by
 intro g
 induction g with
 | zero=>intro st pf tk _;trivial
 | succ g ih =>
  intro st pf tk ht
  unfold searchR
  split
  ·trivial
  have snd:∀ m':List Bool,holdsF m' cs=true->(∀ n∈tk,litHolds m' n=true)->∃ v,followsV N cs tk=some v/\∀ n∈litsTo v N,litHolds m' n=true:=
   fun m' h1 h2=>fol_sound hc h1 (fun n hn=>⟨ht n hn,h2 n hn⟩)
  cases hv:followsV N cs tk with
  | none =>
   intro m' _ h1 h2
   obtain ⟨v,e,_⟩:=snd m' h1 h2
   rw [hv] at e;cases e
  | some v' =>
   simp only
   obtain ⟨hcl,hf,_,hk⟩:=fol_parts hc ht hv
   have snd':∀ m':List Bool,holdsF m' cs=true->(∀ n∈tk,litHolds m' n=true)->∀ n∈litsTo v' N,litHolds m' n=true:=fun m' h1 h2=>by
    obtain ⟨v,e,h⟩:=snd m' h1 h2
    rw [hv] at e;injection e with e;subst e;exact h
   cases hi:idx0 v' with
   | none =>
    simp only
    have htot:=idx0_none hf hi
    refine ⟨boolsOf_len hf,total_holds hc hf hcl htot,fun n hn=>boolsOf_lit hf htot (ht n hn) (hk n hn),fun m' hl h1 h2 k hj hne=>?_⟩
    exfalso;apply hne
    by_cases hkN:k<N
    ·rw [boolsOf_at hf hkN,agrees_at hf (snd' m' h1 h2) hkN (htot k hkN)]
    rw [List.getD_eq_getElem?_getD,List.getD_eq_getElem?_getD,List.getElem?_eq_none (by rw [boolsOf_len hf];omega),List.getElem?_eq_none (by omega)]
   | some i =>
    simp only
    obtain ⟨h1,h2,h3⟩:=idx0_some hf hi
    have hl:=lit_pos h1
    have hval:∀ m':List Bool,(litHolds m' ((i:Int)+1)=m'.getD i false)/\(litHolds m' (-((i:Int)+1)) = !m'.getD i false):=fun m'=>by
     have e1:((i:Int)+1).natAbs - 1=i:=by omega
     have e2:decide (0<(i:Int)+1)=true:=decide_eq_true (by omega)
     have a:litHolds m' ((i:Int)+1)=m'.getD i false:=by unfold litHolds;rw [e1,e2];cases m'.getD i false <;> rfl
     exact ⟨a,by rw [litHolds_neg m' hl.1,a]⟩
    have hsn:∀ (m':List Bool) (n:Int),(∀ x∈tk,litHolds m' x=true)->litHolds m' n=true->∀ x∈tk++[n],litHolds m' x=true:=fun m' n ha hb x hx=>by
     rcases List.mem_append.1 hx with hx | hx
     ·exact ha x hx
     simp at hx;subst hx;exact hb
    have hL:=ih (st - 1) pf _ (lits_snoc ht hl.neg)
    cases hr1:searchR N cs g (st - 1) pf (tk++[-((i:Int)+1)]) with
    | out=>trivial
    | found m =>
     rw [hr1] at hL
     obtain ⟨a1,a2,a3,a4⟩:=hL
     have htk:∀ n∈tk,litHolds m n=true:=fun n hn=>a3 n (List.mem_append_left _ hn)
     refine ⟨a1,a2,htk,fun m' hl' b1 b2 k hj hne=>?_⟩
     cases hb:m'.getD i false with
     | false=>exact a4 m' hl' b1 (hsn m' _ b2 (by rw [(hval m').2,hb];rfl)) k hj hne
     | true =>
      have hmi:m.getD i false=false:=by
       have:=a3 (-((i:Int)+1)) (by simp)
       rw [(hval m).2] at this;simpa using this
      rcases Nat.lt_trichotomy k i with h | h | h
      ·exfalso;apply hne
       rw [agrees_at hf (snd' m a2 htk) (by omega) (h3 k h),agrees_at hf (snd' m' b1 b2) (by omega) (h3 k h)]
      ·rw [h];exact hmi
      have:=hj i h;rw [hmi,hb] at this;cases this
    | no st1 pf1 =>
     rw [hr1] at hL
     simp only
     have hR:=ih st1 pf1 _ (lits_snoc ht hl)
     have hpos:∀ m':List Bool,m'.length=N->holdsF m' cs=true->(∀ n∈tk,litHolds m' n=true)->m'.getD i false=true:=fun m' hl' b1 b2=>by
      cases hb:m'.getD i false with
      | true=>rfl
      | false=>exact absurd (hL m' hl' b1 (hsn m' _ b2 (by rw [(hval m').2,hb];rfl))) id
     cases hr2:searchR N cs g st1 pf1 (tk++[(i:Int)+1]) with
     | out=>trivial
     | found m =>
      rw [hr2] at hR
      obtain ⟨a1,a2,a3,a4⟩:=hR
      exact ⟨a1,a2,fun n hn=>a3 n (List.mem_append_left _ hn),fun m' hl' b1 b2=>a4 m' hl' b1 (hsn m' _ b2 (by rw [(hval m').1];exact hpos m' hl' b1 b2))⟩
     | no st2 pf2 =>
      rw [hr2] at hR
      exact fun m' hl' b1 b2=>hR m' hl' b1 (hsn m' _ b2 (by rw [(hval m').1];exact hpos m' hl' b1 b2))
theorem Steps.snoc {N:Nat} {cs pf:List (List Int)} {c:List Int} (h:Steps N cs pf) (hc:rupStep N (cs++pf) c=true):Steps N cs (pf++[c]):=by
 intro k hk
 rw [List.length_append] at hk
 by_cases hlt:k<pf.length
 ·rw [List.take_append_of_le_length (by omega),List.getD_eq_getElem?_getD,List.getElem?_append_left hlt,<- List.getD_eq_getElem?_getD]
  exact h k hlt
 have e:k=pf.length:=by simp at hk;omega
 subst e
 rw [List.take_left',List.getD_eq_getElem?_getD,List.getElem?_append_right (by omega)]
 ·simpa using hc
 rfl
def Proves (N:Nat) (cs:List (List Int)) (tk:List Int) (st:Nat) (pf:List (List Int)):Res->Prop
 | .out=>True
 | .found _=>True
 | .no st' pf'=>Steps N cs pf'/\(∀ c∈pf,c∈pf')/\pf'.length+st'<=pf.length+st/\(∀ c∈pf',IsCl N c/\c.length<=60)/\pf'.getLast? = some (tk.map Neg.neg)
theorem neg_cl {N:Nat} {tk:List Int} (ht:∀ n∈tk,IsLit N n):IsCl N (tk.map Neg.neg):=by
 intro x hx
 obtain ⟨n,hn,rfl⟩:=List.mem_map.1 hx
 exact (ht n hn).neg
theorem neg_fails {N:Nat} {tk:List Int} {w:List Int} (ht:∀ n∈tk,IsLit N n):(∀ x∈tk.map Neg.neg,vof w x = -1)↔∀ n∈tk,vof w n=1:=by
 constructor
 ·intro h n hn
  have:=h (-n) (List.mem_map.2 ⟨n,hn,rfl⟩)
  rw [vof_neg w n (ht n hn).1] at this;omega
 intro h x hx
 obtain ⟨n,hn,rfl⟩:=List.mem_map.1 hx
 rw [vof_neg w n (ht n hn).1,h n hn]
theorem closed_last {N:Nat} {w tk:List Int} {n:Int} (hf:Fine N w) (ht:∀ x∈tk,IsLit N x) (hn:IsLit N n) (hcl:(scan w ((tk++[n]).map Neg.neg)).2≠0/\(scan w ((tk++[n]).map Neg.neg)).2≠1) (hk:∀ x∈tk,vof w x=1):vof w n = -1:=by
 have hoth:∀ y∈(tk++[n]).map Neg.neg,y ≠ -n->vof w y = -1:=by
  intro y hy hne
  obtain ⟨x,hx,rfl⟩:=List.mem_map.1 hy
  rcases List.mem_append.1 hx with hx | hx
  ·rw [vof_neg w x (ht x hx).1,hk x hx]
  simp at hx;subst hx;exact absurd rfl hne
 have hneg:=vof_neg w n hn.1
 rcases vof_range hf n with a | a | a
 ·exfalso
  have ha:vof w (-n)=0:=by rw [hneg,a];rfl
  rcases scan_cases w ((tk++[n]).map Neg.neg) with ⟨_,x,hx,h1⟩ | ⟨e,_⟩ | ⟨e,_⟩ | ⟨_,_,x,hx,y,hy,hxy,hx0,hy0⟩
  ·by_cases e:x = -n
   ·rw [e] at h1;omega
   have:=hoth x hx e;omega
  ·exact hcl.1 e
  ·exact hcl.2 e
  by_cases e:x = -n
  ·have:=hoth y hy (fun e2=>hxy (e.trans e2.symm));omega
  have:=hoth x hx e;omega
 ·exfalso
  have hall:∀ y∈(tk++[n]).map Neg.neg,vof w y = -1:=fun y hy=>by
   by_cases e:y = -n
   ·rw [e,hneg,a]
   exact hoth y hy e
  exact hcl.1 (scan_all_fail hf hall)
 exact a
theorem last_mem {pf:List (List Int)} {c:List Int} (h:pf.getLast? = some c):c∈pf:=List.mem_of_getLast? h
theorem searchR_proves {N:Nat} {cs:List (List Int)} (hc:∀ c∈cs,IsCl N c):∀ (g st:Nat) (pf:List (List Int)) (tk:List Int),(∀ n∈tk,IsLit N n)->Steps N cs pf->(∀ c∈pf,IsCl N c/\c.length<=60) ->
  Proves N cs tk st pf (searchR N cs g st pf tk):=by
 intro g
 induction g with
 | zero=>intro st pf tk _ _ _;trivial
 | succ g ih =>
  intro st pf tk ht hs hp
  have hadd:∀ {pf2:List (List Int)} {st2:Nat},tk.length<=60->Steps N cs pf2->(∀ c∈pf,c∈pf2)->pf2.length+st2+1<=pf.length+st->(∀ c∈pf2,IsCl N c/\c.length<=60)->rupStep N (cs++pf2) (tk.map Neg.neg)=true ->
    Proves N cs tk st pf (.no st2 (pf2++[tk.map Neg.neg])):=by
   intro pf2 st2 h60 h1 h2 h3 h4 h5
   refine ⟨h1.snoc h5,fun c hcc=>List.mem_append_left _ (h2 c hcc),by simp;omega,fun c hcc=>?_,by simp⟩
   rcases List.mem_append.1 hcc with hcc | hcc
   ·exact h4 c hcc
   simp at hcc;subst hcc;exact ⟨neg_cl ht,by rw [List.length_map];exact h60⟩
  unfold searchR
  split
  ·trivial
  rename_i hst
  have h60:tk.length<=60:=by omega
  have hst0:0<st:=by omega
  have hcp:∀ {pf2:List (List Int)},(∀ c∈pf2,IsCl N c/\c.length<=60)->∀ c∈cs++pf2,IsCl N c:=fun h c hcc=>by
   rcases List.mem_append.1 hcc with hcc | hcc
   ·exact hc c hcc
   exact (h c hcc).1
  cases hv:followsV N cs tk with
  | none =>
   refine hadd h60 hs (fun c h=>h) (by omega) hp ?_
   rw [rupStep_iff (hcp hp) (neg_cl ht)]
   rintro ⟨w,hw,hcl,hfail⟩
   rw [neg_fails ht] at hfail
   obtain ⟨v,e,_⟩:=fol_below (az:=tk) hc hw (fun d hd=>hcl d (List.mem_append_left _ hd)) (fun n hn=>⟨ht n hn,hfail n hn⟩)
   rw [hv] at e;cases e
  | some v' =>
   simp only
   obtain ⟨_,hf,_,_⟩:=fol_parts hc ht hv
   cases hi:idx0 v' with
   | none=>trivial
   | some i =>
    simp only
    obtain ⟨h1,_,_⟩:=idx0_some hf hi
    have hl:=lit_pos h1
    have hL:=ih (st - 1) pf _ (lits_snoc ht hl.neg) hs hp
    cases hr1:searchR N cs g (st - 1) pf (tk++[-((i:Int)+1)]) with
    | out=>trivial
    | found m=>trivial
    | no st1 pf1 =>
     rw [hr1] at hL
     obtain ⟨a1,a2,a3,a4,a5⟩:=hL
     simp only
     have hR:=ih st1 pf1 _ (lits_snoc ht hl) a1 a4
     cases hr2:searchR N cs g st1 pf1 (tk++[(i:Int)+1]) with
     | out=>trivial
     | found m=>trivial
     | no st2 pf2 =>
      rw [hr2] at hR
      obtain ⟨b1,b2,b3,b4,b5⟩:=hR
      refine hadd h60 b1 (fun c h=>b2 c (a2 c h)) (by omega) b4 ?_
      rw [rupStep_iff (hcp b4) (neg_cl ht)]
      rintro ⟨w,hw,hcl,hfail⟩
      rw [neg_fails ht] at hfail
      have hA:=closed_last hw ht hl.neg (hcl _ (List.mem_append_right _ (b2 _ (last_mem a5)))) hfail
      have hB:=closed_last hw ht hl (hcl _ (List.mem_append_right _ (last_mem b5))) hfail
      rw [vof_neg w _ hl.1] at hA;omega
end Qm
