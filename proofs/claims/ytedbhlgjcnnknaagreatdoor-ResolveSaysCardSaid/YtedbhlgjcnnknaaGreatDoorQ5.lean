/- Parts. -/
import Derived.Test.YtedbhlgjcnnknaaGreatDoorQ4
set_option linter.unusedVariables false
set_option linter.unusedSimpArgs false
set_option linter.unusedSectionVars false
set_option maxRecDepth 100000
set_option maxHeartbeats 12800000
namespace Go.Proofs.YtedbhlgjcnnknaaGreatDoor
open Go.RowKit Qm
def insP (ins:List Mem):List Nat:=ins.map fun m=>m.pl.toNat
def freeP (ins:List Mem) (n:Nat):List Nat:=(List.range n).filter fun i=>!(insP ins).contains i
def ordP (ins:List Mem) (n:Nat):List Nat:=insP ins++freeP ins n
def ixP (l:List Nat) (i:Nat):Nat:=l.findIdx (fun j=>j == i)
theorem ixP_lt {l:List Nat} {i:Nat} (h:i∈l):ixP l i<l.length:=by
 unfold ixP;rw [List.findIdx_lt_length];exact ⟨i,h,by simp⟩
theorem ixP_at {l:List Nat} {i:Nat} (h:i∈l):l[ixP l i]? = some i:=by
 have hl:=ixP_lt h
 rw [List.getElem?_eq_getElem hl]
 congr 1
 have:=List.findIdx_getElem (p:=fun j=>j == i) (xs:=l) (w:=hl)
 exact eq_of_beq this
theorem ixP_of {l:List Nat} (hn:l.Nodup) {i j:Nat} (h:l[j]? = some i):ixP l i=j:=by
 have hm:=List.mem_of_getElem? h
 have h2:=ixP_at hm
 obtain ⟨q1,q2⟩:=List.getElem?_eq_some_iff.1 h
 obtain ⟨r1,r2⟩:=List.getElem?_eq_some_iff.1 h2
 have:=List.pairwise_iff_getElem.1 hn
 rcases Nat.lt_trichotomy (ixP l i) j with g | g | g
 ·exact absurd (r2.trans q2.symm) (this _ _ r1 q1 g)
 ·exact g
 exact absurd (q2.trans r2.symm) (this _ _ q1 r1 g)
def flagsBef (ps:List Pk):Nat->Nat
 | 0=>0
 | i+1=>flagsBef ps i+(pkOf ps i).fs.length
def manyC (ps:List Pk):Nat:=ps.length+flagsBef ps ps.length
theorem flagsBef_mono {ps:List Pk} {i:Nat}:∀ {j:Nat},i<=j->flagsBef ps i<=flagsBef ps j
 | 0,h=>by
   obtain rfl:i=0:=by omega
   exact Nat.le_refl _
 | j+1,h=>by
  by_cases e:i=j+1
  ·subst e;exact Nat.le_refl _
  have:=flagsBef_mono (ps:=ps) (i:=i) (j:=j) (by omega)
  simp only [flagsBef];omega
theorem flagsBef_lt {ps:List Pk} {i j k:Nat} (h:i<j) (hk:k<(pkOf ps i).fs.length):flagsBef ps i+k<flagsBef ps j:=by
 have:=flagsBef_mono (ps:=ps) (i:=i+1) (j:=j) (by omega)
 simp only [flagsBef] at this;omega
theorem flag_owner {ps:List Pk}:∀ {n v:Nat},v<flagsBef ps n->∃ i k,i<n/\k<(pkOf ps i).fs.length/\flagsBef ps i+k=v
 | 0,v,h=>by simp [flagsBef] at h
 | n+1,v,h=>by
  simp only [flagsBef] at h
  by_cases g:v<flagsBef ps n
  ·obtain ⟨i,k,h1,h2,h3⟩:=flag_owner g
   exact ⟨i,k,by omega,h2,h3⟩
  exact ⟨n,v - flagsBef ps n,by omega,by omega,by omega⟩
theorem flag_owner_one {ps:List Pk} {i j k q:Nat} (hk:k<(pkOf ps i).fs.length) (hq:q<(pkOf ps j).fs.length) (h:flagsBef ps i+k=flagsBef ps j+q):i=j/\k=q:=by
 rcases Nat.lt_trichotomy i j with g | g | g
 ·have:=flagsBef_lt g hk;omega
 ·subst g;exact ⟨rfl,by omega⟩
 have:=flagsBef_lt g hq;omega
def chW (ps:List Pk) (v:Ws):Chs where
 pick i:=if (insP v.ins).contains i=true then -((ixP (ordP v.ins ps.length) i:Int)+1) else (ixP (ordP v.ins ps.length) i:Int)+1
 on i k:=if v.on.contains ((i:Int),(k:Int))=true then -((ps.length+flagsBef ps i+k:Int)+1) else (ps.length+flagsBef ps i+k:Int)+1
structure WsOk (ps:List Pk) (v:Ws):Prop where
 ins:ckMs ps none v.ins=0
theorem insP_mem {ps:List Pk} {v:Ws} (h:WsOk ps v):∀ i∈insP v.ins,i<ps.length:=by
 intro i hi
 obtain ⟨m,hm,rfl⟩:=List.mem_map.1 hi
 obtain ⟨h1,h2,_⟩:=ckMs_mem h.ins m hm
 omega
theorem insP_rise {ps:List Pk} {l:List Mem} (h:ckMs ps none l=0):(insP l).Pairwise (· < ·):=by
 have h2:=(ckMs_rises h).2
 unfold insP
 rw [List.pairwise_map] at h2 ⊢
 exact h2.imp_of_mem fun {a b} ha hb hab=>by
  have:=(ckMs_mem h a ha).1
  have:=(ckMs_mem h b hb).1
  omega
theorem ordP_nodup {ps:List Pk} {v:Ws} (h:WsOk ps v):(ordP v.ins ps.length).Nodup:=by
 unfold ordP
 rw [List.nodup_append]
 refine ⟨(insP_rise h.ins).imp fun hab=>Nat.ne_of_lt hab, ?_, ?_⟩
 ·unfold freeP;exact (List.nodup_range).filter _
 rintro a ha b hb rfl
 unfold freeP at hb
 have:=(List.mem_filter.1 hb).2
 rw [List.contains_iff_mem.2 ha] at this;cases this
theorem mem_ordP {ps:List Pk} {v:Ws} (h:WsOk ps v) {i:Nat}:i∈ordP v.ins ps.length↔i<ps.length:=by
 unfold ordP freeP
 rw [List.mem_append,List.mem_filter,List.mem_range]
 constructor
 ·rintro (g | g)
  ·exact insP_mem h i g
  exact g.1
 intro hi
 by_cases hc:i∈insP v.ins
 ·exact .inl hc
 refine .inr ⟨hi, ?_⟩
 cases hb:(insP v.ins).contains i
 ·rfl
 exact absurd (List.contains_iff_mem.1 hb) hc
theorem len_of_full:∀ {n:Nat} {l:List Nat},l.Nodup->(∀ i,i∈l↔i<n)->l.length=n:=by
 intro n l hn hm
 have h1:l.Perm (List.range n):=by
  rw [List.perm_ext_iff_of_nodup hn List.nodup_range]
  intro a;rw [hm a,List.mem_range]
 rw [h1.length_eq,List.length_range]
theorem ordP_len {ps:List Pk} {v:Ws} (h:WsOk ps v):(ordP v.ins ps.length).length=ps.length:=len_of_full (ordP_nodup h) fun _=>mem_ordP h
def keysW (ps:List Pk) (v:Ws):List (Int×Int):=
 (List.range ps.length).flatMap fun (i:Nat)=>(List.range (pkOf ps i).fs.length).flatMap fun k=>[((chW ps v).pick i,(chW ps v).on i k),((chW ps v).pick i,-(chW ps v).on i k)]
theorem keysW_len {ps:List Pk} {v:Ws}:(keysW ps v).length=2 * flagsBef ps ps.length:=by
 unfold keysW
 have h2:∀ (x:Int) (f:Nat->Int) (n:Nat),((List.range n).flatMap fun k=>[(x,f k),(x,-f k)]).length=2 * n:=by
  intro x f n
  induction n with
  | zero=>rfl
  | succ n ih=>rw [List.range_succ,List.flatMap_append,List.length_append,ih];simp;omega
 have:∀ n,((List.range n).flatMap fun (i:Nat)=>(List.range (pkOf ps i).fs.length).flatMap fun k=>[((chW ps v).pick i,(chW ps v).on i k),((chW ps v).pick i,-(chW ps v).on i k)]).length=2 * flagsBef ps n:=by
  intro n
  induction n with
  | zero=>rfl
  | succ n ih =>
   rw [List.range_succ,List.flatMap_append,List.length_append,ih]
   simp only [List.flatMap_cons,List.flatMap_nil,List.append_nil]
   rw [h2];simp only [flagsBef];omega
 exact this _
section
variable {ps : List Pk} {v : Ws}
theorem pick_abs (i:Nat):((chW ps v).pick i).natAbs=ixP (ordP v.ins ps.length) i+1:=by
 unfold chW;dsimp only;split <;> omega
theorem on_abs (i k:Nat):((chW ps v).on i k).natAbs=ps.length+flagsBef ps i+k+1:=by
 unfold chW;dsimp only;split <;> omega
theorem chW_ok (h:WsOk ps v):ChsOk ps (manyC ps) (chW ps v) (keysW ps v) where
 pick i hi:=by
  have h1:=pick_abs (ps:=ps) (v:=v) i
  have h2:=ixP_lt ((mem_ordP h).2 hi)
  rw [ordP_len h] at h2
  exact ⟨by intro e;rw [e] at h1;simp at h1,by unfold manyC;omega⟩
 on i hi k hk:=by
  have h1:=on_abs (ps:=ps) (v:=v) i k
  have h2:=flagsBef_lt hi hk
  exact ⟨by intro e;rw [e] at h1;simp at h1,by unfold manyC;omega⟩
 keys i hi k hk:=by
  unfold keysW
  constructor
  ·exact List.mem_flatMap.2 ⟨i,List.mem_range.2 hi,List.mem_flatMap.2 ⟨k,List.mem_range.2 hk,by simp⟩⟩
  exact List.mem_flatMap.2 ⟨i,List.mem_range.2 hi,List.mem_flatMap.2 ⟨k,List.mem_range.2 hk,by simp⟩⟩
theorem pick_pos (i:Nat):decide (0<(chW ps v).pick i) = !(insP v.ins).contains i:=by
 by_cases hc:(insP v.ins).contains i=true
 ·rw [hc];refine decide_eq_false ?_
  show ¬ 0<(if (insP v.ins).contains i=true then -((ixP (ordP v.ins ps.length) i:Int)+1) else (ixP (ordP v.ins ps.length) i:Int)+1)
  rw [if_pos hc];omega
 have hf:(insP v.ins).contains i=false:=by simpa using hc
 rw [hf];refine decide_eq_true ?_
 show 0<(if (insP v.ins).contains i=true then -((ixP (ordP v.ins ps.length) i:Int)+1) else (ixP (ordP v.ins ps.length) i:Int)+1)
 rw [if_neg hc];omega
theorem on_pos (i k:Nat):decide (0<(chW ps v).on i k) = !v.on.contains ((i:Int),(k:Int)):=by
 by_cases hc:v.on.contains ((i:Int),(k:Int))=true
 ·rw [hc];refine decide_eq_false ?_
  show ¬ 0<(if v.on.contains ((i:Int),(k:Int))=true then -((ps.length+flagsBef ps i+k:Int)+1) else (ps.length+flagsBef ps i+k:Int)+1)
  rw [if_pos hc];omega
 have hf:v.on.contains ((i:Int),(k:Int))=false:=by simpa using hc
 rw [hf];refine decide_eq_true ?_
 show 0<(if v.on.contains ((i:Int),(k:Int))=true then -((ps.length+flagsBef ps i+k:Int)+1) else (ps.length+flagsBef ps i+k:Int)+1)
 rw [if_neg hc];omega
theorem litHolds_pick {m:List Bool} (i:Nat):litHolds m ((chW ps v).pick i)=(m.getD (ixP (ordP v.ins ps.length) i) false != (insP v.ins).contains i):=by
 unfold litHolds
 rw [pick_abs,Nat.add_sub_cancel,pick_pos]
 cases m.getD (ixP (ordP v.ins ps.length) i) false <;> cases (insP v.ins).contains i <;> rfl
theorem litHolds_on {m:List Bool} (i k:Nat):litHolds m ((chW ps v).on i k)=(m.getD (ps.length+flagsBef ps i+k) false != v.on.contains ((i:Int),(k:Int))):=by
 unfold litHolds
 rw [on_abs,Nat.add_sub_cancel,on_pos]
 cases m.getD (ps.length+flagsBef ps i+k) false <;> cases v.on.contains ((i:Int),(k:Int)) <;> rfl
def atP (l:List Mem) (i:Nat):Option Mem:=l.find? fun m=>decide (m.pl=(i:Int))
def chVal (ps:List Pk) (v:Ws) (l:List Mem) (x:Nat):Bool:=
 if x<ps.length then (match (ordP v.ins ps.length)[x]? with
  | some i=>(atP l i).isSome != (insP v.ins).contains i
  | none=>false)
 else ((List.range ps.length).any fun i=>(List.range (pkOf ps i).fs.length).any fun k=>decide (ps.length+flagsBef ps i+k=x) && (match atP l i with
  | some m=>onOf m.on k != v.on.contains ((i:Int),(k:Int))
  | none=>false))
def chVec (ps:List Pk) (v:Ws) (l:List Mem):List Bool:=(List.range (manyC ps)).map (chVal ps v l)
theorem chVec_len {l:List Mem}:(chVec ps v l).length=manyC ps:=by unfold chVec;simp
theorem chVec_at {l:List Mem} {x:Nat} (hx:x<manyC ps):(chVec ps v l).getD x false=chVal ps v l x:=by
 unfold chVec
 rw [List.getD_eq_getElem?_getD,List.getElem?_map,List.getElem?_range hx];rfl
theorem chVal_pick (h:WsOk ps v) {l:List Mem} {i:Nat} (hi:i<ps.length):chVal ps v l (ixP (ordP v.ins ps.length) i)=((atP l i).isSome != (insP v.ins).contains i):=by
 have hm:=(mem_ordP h).2 hi
 have h2:=ixP_lt hm
 rw [ordP_len h] at h2
 unfold chVal
 rw [if_pos h2,ixP_at hm]
theorem chVal_on {l:List Mem} {i k:Nat} (hi:i<ps.length) (hk:k<(pkOf ps i).fs.length):chVal ps v l (ps.length+flagsBef ps i+k)=(match atP l i with
  | some m=>onOf m.on k != v.on.contains ((i:Int),(k:Int))
  | none=>false):=by
 unfold chVal
 rw [if_neg (by omega),Bool.eq_iff_iff,List.any_eq_true]
 constructor
 ·rintro ⟨j,hj,h⟩
  obtain ⟨q,hq,h⟩:=List.any_eq_true.1 h
  rw [Bool.and_eq_true,decide_eq_true_eq] at h
  obtain ⟨rfl,rfl⟩:=flag_owner_one (List.mem_range.1 hq) hk (by omega)
  exact h.2
 intro h
 exact ⟨i,List.mem_range.2 hi,List.any_eq_true.2 ⟨k,List.mem_range.2 hk,by rw [decide_eq_true rfl,Bool.true_and];exact h⟩⟩
theorem var_owner (h:WsOk ps v) {x:Nat} (hx:x<manyC ps):(∃ i,i<ps.length/\x=ixP (ordP v.ins ps.length) i)\/∃ i k,i<ps.length/\k<(pkOf ps i).fs.length/\x=ps.length+flagsBef ps i+k:=by
 by_cases hn:x<ps.length
 ·have hl:x<(ordP v.ins ps.length).length:=by rw [ordP_len h];exact hn
  have hg:(ordP v.ins ps.length)[x]? = some ((ordP v.ins ps.length)[x]):=List.getElem?_eq_getElem hl
  exact .inl ⟨_,(mem_ordP h).1 (List.mem_of_getElem? hg),(ixP_of (ordP_nodup h) hg).symm⟩
 unfold manyC at hx
 obtain ⟨i,k,h1,h2,h3⟩:=flag_owner (ps:=ps) (n:=ps.length) (v:=x - ps.length) (by omega)
 exact .inr ⟨i,k,h1,h2,by omega⟩
theorem atP_mem {l:List Mem} {i:Nat} {m:Mem} (h:atP l i=some m):m∈l/\m.pl=(i:Int):=by
 unfold atP at h
 exact ⟨List.mem_of_find?_eq_some h,by simpa using List.find?_some h⟩
theorem atP_of {l:List Mem} (hr:(l.map Mem.pl).Pairwise (· < ·)) {m:Mem} (hm:m∈l) (h0:0<=m.pl):atP l m.pl.toNat=some m:=by
 unfold atP
 cases h:l.find? fun x=>decide (x.pl=(m.pl.toNat:Int)) with
 | none =>
  have:=List.find?_eq_none.1 h m hm
  simp only [decide_eq_true_eq] at this
  omega
 | some x =>
  have hx:=List.mem_of_find?_eq_some h
  have hxp:x.pl=(m.pl.toNat:Int):=by simpa using List.find?_some h
  have hxm:x.pl=m.pl:=by omega
  congr 1
  rw [List.pairwise_map] at hr
  obtain ⟨a,ha,rfl⟩:=List.mem_iff_getElem.1 hx
  obtain ⟨b,hb,rfl⟩:=List.mem_iff_getElem.1 hm
  have hp:=List.pairwise_iff_getElem.1 hr
  rcases Nat.lt_trichotomy a b with g | g | g
  ·have:=hp a b ha hb g;omega
  ·subst g;rfl
  have:=hp b a hb ha g;omega
theorem atP_sorted:∀ {l l':List Mem},(l.map Mem.pl).Pairwise (· < ·)->(l'.map Mem.pl).Pairwise (· < ·)->(∀ m∈l,0<=m.pl)->(∀ m∈l',0<=m.pl)->(∀ m,m∈l↔m∈l')->l=l'
 | [],[],_,_,_,_,_=>rfl
 | [],y :: r,_,_,_,_,h=>absurd ((h y).2 (List.mem_cons_self ..)) (by simp)
 | x :: r,[],_,_,_,_,h=>absurd ((h x).1 (List.mem_cons_self ..)) (by simp)
 | x :: r,y :: r',h1,h2,p1,p2,h=>by
  simp only [List.map_cons,List.pairwise_cons] at h1 h2
  have hxy:x=y:=by
   rcases List.mem_cons.1 ((h x).1 (List.mem_cons_self ..)) with e | hx
   ·exact e
   rcases List.mem_cons.1 ((h y).2 (List.mem_cons_self ..)) with e | hy
   ·exact e.symm
   have g1:=h2.1 x.pl (List.mem_map.2 ⟨x,hx,rfl⟩)
   have g2:=h1.1 y.pl (List.mem_map.2 ⟨y,hy,rfl⟩)
   omega
  subst hxy
  congr 1
  refine atP_sorted h1.2 h2.2 (fun m hm=>p1 m (List.mem_cons_of_mem _ hm)) (fun m hm=>p2 m (List.mem_cons_of_mem _ hm)) fun m=>?_
  constructor
  ·intro hm
   rcases List.mem_cons.1 ((h m).1 (List.mem_cons_of_mem _ hm)) with e | hm'
   ·subst e;have:=h1.1 m.pl (List.mem_map.2 ⟨m,hm,rfl⟩);omega
   exact hm'
  intro hm
  rcases List.mem_cons.1 ((h m).2 (List.mem_cons_of_mem _ hm)) with e | hm'
  ·subst e;have:=h2.1 m.pl (List.mem_map.2 ⟨m,hm,rfl⟩);omega
  exact hm'
theorem setOfM_rise {X:Chs} {m:List Bool}:((setOfM X ps m).map Mem.pl).Pairwise (· < ·):=by
 unfold setOfM
 rw [List.map_map,List.pairwise_map]
 exact (taken_sorted (X:=X) (ps:=ps) (m:=m)).imp fun {a b} hab=>by show (a:Int)<(b:Int);omega
theorem mem_setOfM {X:Chs} {m:List Bool} {x:Mem}:x∈setOfM X ps m↔∃ i,i<ps.length/\litHolds m (X.pick i)=true/\x=memM X ps m i:=by
 unfold setOfM
 rw [List.mem_map]
 exact ⟨fun ⟨i,hi,e⟩=>⟨i,(mem_taken.1 hi).1,(mem_taken.1 hi).2,e.symm⟩,fun ⟨i,h1,h2,e⟩=>⟨i,mem_taken.2 ⟨h1,h2⟩,e.symm⟩⟩
theorem setOf_chVec (h:WsOk ps v) {l:List Mem} (hl:ckMs ps none l=0):setOfM (chW ps v) ps (chVec ps v l)=l:=by
 have hr:=(ckMs_rises hl).2
 have hpick:∀ i,i<ps.length->litHolds (chVec ps v l) ((chW ps v).pick i)=(atP l i).isSome:=by
  intro i hi
  have h2:=ixP_lt ((mem_ordP h).2 hi)
  rw [ordP_len h] at h2
  rw [litHolds_pick,chVec_at (by unfold manyC;omega),chVal_pick h hi]
  cases (atP l i).isSome <;> cases (insP v.ins).contains i <;> rfl
 have hmem:∀ i x,i<ps.length->atP l i=some x->memM (chW ps v) ps (chVec ps v l) i=x:=by
  intro i x hi hx
  obtain ⟨h1,h2⟩:=atP_mem hx
  obtain ⟨_,_,h3⟩:=ckMs_mem hl x h1
  obtain ⟨pl,on⟩:=x
  dsimp only at h2 h3
  subst h2
  unfold memM
  congr 1
  refine List.ext_getElem (by simp [h3]) fun k hk1 hk2=>?_
  simp only [List.length_map,List.length_range] at hk1
  simp only [List.getElem_map,List.getElem_range]
  have h4:=flagsBef_lt hi hk1
  rw [litHolds_on,chVec_at (by unfold manyC;omega),chVal_on hi hk1,hx]
  dsimp only
  unfold onOf
  rw [List.getD_eq_getElem?_getD,List.getElem?_eq_getElem hk2]
  simp only [Option.getD_some]
  cases on[k] <;> cases v.on.contains ((i:Int),(k:Int)) <;> rfl
 refine atP_sorted setOfM_rise hr (fun m hm=>?_) (fun m hm=>(ckMs_mem hl m hm).1) fun m=>?_
 ·obtain ⟨i,_,_,rfl⟩:=mem_setOfM.1 hm
  show (0:Int)<=(i:Int);omega
 rw [mem_setOfM]
 constructor
 ·rintro ⟨i,h1,h2,rfl⟩
  rw [hpick i h1,Option.isSome_iff_exists] at h2
  obtain ⟨x,hx⟩:=h2
  rw [hmem i x h1 hx]
  exact (atP_mem hx).1
 intro hm
 obtain ⟨h0,h1,_⟩:=ckMs_mem hl m hm
 have ha:=atP_of hr hm h0
 exact ⟨m.pl.toNat,by omega,by rw [hpick _ (by omega),ha];rfl,(hmem _ _ (by omega) ha).symm⟩
end
end Go.Proofs.YtedbhlgjcnnknaaGreatDoor

namespace Qm
def Settles (N M:Nat) (cs:List (List Int)):Prop:=∀ w,Fine N w->Closed cs w->(∀ j,j<M->w.getD (j+1) 0≠0)->∀ j,j<N->w.getD (j+1) 0≠0
def openM (M:Nat) (v:List Int):Nat:=((List.range M).filter fun j=>v.getD (j+1) 0 == 0).length
theorem openM_le {M:Nat} {v:List Int}:openM M v<=M:=by
 unfold openM
 have:=List.length_filter_le (fun j=>v.getD (j+1) 0 == 0) (List.range M)
 simpa using this
theorem openM_zero {M:Nat} {v:List Int} (h:openM M v=0):∀ j,j<M->v.getD (j+1) 0≠0:=by
 intro j hj e
 have h0:=List.length_eq_zero_iff.1 h
 have:j∈(List.range M).filter (fun j=>v.getD (j+1) 0 == 0):=List.mem_filter.2 ⟨List.mem_range.2 hj,by rw [e];rfl⟩
 rw [h0] at this;cases this
theorem getD_of_vof {v:List Int} {j:Nat}:v.getD (j+1) 0=vof v ((j:Int)+1):=(vof_pos v j).symm
theorem le_getD {N:Nat} {v w:List Int} (h:Le N v w) {j:Nat} (hf:Fine N v) (hj:j<N) (h0:v.getD (j+1) 0≠0):w.getD (j+1) 0≠0:=by
 rw [getD_of_vof] at h0 ⊢
 rcases vof_range hf ((j:Int)+1) with e | e | e
 ·exact absurd e h0
 ·rw [h _ (lit_pos hj) e];decide
 rw [h.fails (lit_pos hj) e];decide
theorem openM_lt {N M:Nat} {v w:List Int} (hM:M<=N) (hf:Fine N v) (h:Le N v w) {i:Nat} (hi:i<M) (h0:v.getD (i+1) 0=0) (h1:w.getD (i+1) 0≠0):openM M w<openM M v:=by
 unfold openM
 refine length_filter_lt (x:=i) (fun k hk=>?_) (by simpa using h1) (by simpa using h0) (List.mem_range.2 hi)
 by_cases hkN:k<N
 ·by_cases e:v.getD (k+1) 0=0
  ·rw [e];rfl
  exact absurd (by simpa using hk) (le_getD h hf hkN e)
 have:v.getD (k+1) 0=0:=by
  rw [List.getD_eq_getElem?_getD,List.getElem?_eq_none (by rw [hf.1];omega)];rfl
 rw [this];rfl
theorem next_open {N M:Nat} {cs:List (List Int)} (hc:∀ c∈cs,IsCl N c) (hM:M<=N) {tk:List Int} (ht:∀ n∈tk,IsLit N n) {v:List Int} (hv:followsV N cs tk=some v) {i:Nat} (hi:i<M) (h0:v.getD (i+1) 0=0) {n:Int} (hn:n=(i:Int)+1\/n = -((i:Int)+1)) {v':List Int} (hv':followsV N cs (tk++[n])=some v'):openM M v'<openM M v:=by
 obtain ⟨_,hf,_⟩:=fol_parts hc ht hv
 have hnl:IsLit N n:=by
  rcases hn with rfl | rfl
  ·exact lit_pos (by omega)
  exact (lit_pos (by omega)).neg
 have hv0:vof v n=0:=by
  rcases hn with rfl | rfl
  ·rw [vof_pos];exact h0
  rw [vof_neg _ _ (by omega),vof_pos,h0];rfl
 rw [follows_snoc hc ht hv hnl hv0] at hv'
 obtain ⟨_,h2,h3⟩:=spread_closed hc (vset_fine hf n) hv'
 refine openM_lt hM hf ((le_vset hf hnl (by rw [hv0];decide)).trans h2) hi h0 ?_
 have h4:=h2 n hnl (by rw [vof_vset hf hnl n hnl.1,if_pos rfl])
 rcases hn with rfl | rfl
 ·rw [vof_pos] at h4;rw [h4];decide
 rw [vof_neg _ _ (by omega),vof_pos] at h4
 intro e;rw [e] at h4;exact absurd h4 (by decide)
def Within (st b:Nat):Res->Prop
 | .out=>False
 | .found _=>True
 | .no st' _=>st<=st'+b
theorem searchR_steps {N M:Nat} {cs:List (List Int)} (hc:∀ c∈cs,IsCl N c) (hM:M<=N) (h60:M<=60) (hS:Settles N M cs):∀ (d g st:Nat) (pf:List (List Int)) (tk:List Int),(∀ n∈tk,IsLit N n)->(∀ v,followsV N cs tk=some v->openM M v<=d)->tk.length+d<=M->N<g+tk.length->2 ^ (d+1)<=st+1 ->
  Within st (2 ^ (d+1) - 1) (searchR N cs g st pf tk):=by
 intro d
 induction d with
 | zero =>
  intro g st pf tk ht hz hl hg hst
  obtain ⟨g,rfl⟩:∃ k,g=k+1:=⟨g - 1,by omega⟩
  rw [searchR,if_neg (by omega)]
  cases hv:followsV N cs tk with
  | none=>show st<=st - 1+(2 ^ 1 - 1);omega
  | some v =>
   obtain ⟨hcl,hf,_⟩:=fol_parts hc ht hv
   have hi:idx0 v=none:=by
    cases hi:idx0 v with
    | none=>rfl
    | some i =>
     obtain ⟨h1,h2,_⟩:=idx0_some hf hi
     exact absurd h2 (hS v hf hcl (openM_zero (by have:=hz v hv;omega)) i h1)
   dsimp only
   rw [hi];exact True.intro
 | succ d ih =>
  intro g st pf tk ht hz hl hg hst
  obtain ⟨g,rfl⟩:∃ k,g=k+1:=⟨g - 1,by omega⟩
  have hp:2 ^ (d+1+1)=2 * 2 ^ (d+1):=by rw [Nat.pow_succ,Nat.mul_comm]
  have hp1:0<2 ^ (d+1):=Nat.two_pow_pos _
  rw [searchR,if_neg (by omega)]
  cases hv:followsV N cs tk with
  | none=>show st<=st - 1+(2 ^ (d+1+1) - 1);omega
  | some v =>
   obtain ⟨hcl,hf,_⟩:=fol_parts hc ht hv
   dsimp only
   cases hi:idx0 v with
   | none=>exact True.intro
   | some i =>
    obtain ⟨h1,h2,h3⟩:=idx0_some hf hi
    have him:i<M:=by
     by_cases him:i<M
     ·exact him
     exact absurd h2 (hS v hf hcl (fun j hj=>h3 j (by omega)) i h1)
    have lits:∀ n,(n=(i:Int)+1\/n = -((i:Int)+1))->∀ x∈tk++[n],IsLit N x:=by
     intro n hn x hx
     rcases List.mem_append.1 hx with hx | hx
     ·exact ht x hx
     rw [List.mem_singleton.1 hx]
     rcases hn with rfl | rfl
     ·exact lit_pos h1
     exact (lit_pos h1).neg
    have r1:=ih g (st - 1) pf (tk++[-((i:Int)+1)]) (lits _ (.inr rfl)) (fun v' hv'=>by have:=next_open hc hM ht hv him h2 (.inr rfl) hv';have:=hz v hv;omega) (by simp;omega) (by simp;omega) (by omega)
    dsimp only
    cases hr1:searchR N cs g (st - 1) pf (tk++[-((i:Int)+1)]) with
    | out=>rw [hr1] at r1;exact r1.elim
    | found m=>exact True.intro
    | no st1 pf1 =>
     rw [hr1] at r1
     have r1:st - 1<=st1+(2 ^ (d+1) - 1):=r1
     have r2:=ih g st1 pf1 (tk++[(i:Int)+1]) (lits _ (.inl rfl)) (fun v' hv'=>by have:=next_open hc hM ht hv him h2 (.inl rfl) hv';have:=hz v hv;omega) (by simp;omega) (by simp;omega) (by omega)
     dsimp only
     cases hr2:searchR N cs g st1 pf1 (tk++[(i:Int)+1]) with
     | out=>rw [hr2] at r2;exact r2.elim
     | found m=>exact True.intro
     | no st2 pf2 =>
      rw [hr2] at r2
      have r2:st1<=st2+(2 ^ (d+1) - 1):=r2
      show st<=st2+(2 ^ (d+1+1) - 1)
      omega
end Qm

namespace Go.Proofs.YtedbhlgjcnnknaaGreatDoor
section
open Go.RowKit Qm
def encW (ps:List Pk) (v:Ws):Dk:=encD (chW ps v) ps v.ts v.ms (manyC ps)
theorem flagsBef_ckT {ps:List Pk}:∀ (j:Nat),flagsBef ps j=((ps.take j).map fun p=>p.fs.length).sum\/ps.length<j
 | 0=>.inl rfl
 | j+1=>by
  by_cases hj:j<ps.length
  ·rcases flagsBef_ckT j with h | h
   ·refine .inl ?_
    rw [List.take_succ_eq_append_getElem hj,List.map_append,List.sum_append,flagsBef,h]
    have:pkOf ps (j:Int)=ps[j]:=by
     unfold pkOf
     rw [Int.toNat_natCast,List.getD_eq_getElem?_getD,List.getElem?_eq_getElem hj];rfl
    rw [this];simp
   omega
  exact .inr (by omega)
theorem ckT_sum:∀ {ps:List Pk} {prev:Option Pk} {n:Nat},ckT prev n ps=0->ps=[]\/n+(ps.map fun p=>p.fs.length).sum<=14
 | [],_,_,_=>.inl rfl
 | p :: r,prev,n,h=>by
  simp only [ckT] at h
  split at h
  ·rename_i h1;exact absurd h h1
  split at h
  ·cases h
  split at h
  ·cases h
  rename_i h3
  refine .inr ?_
  simp only [List.map_cons,List.sum_cons]
  rcases ckT_sum h with rfl | h
  ·simp;omega
  omega
theorem tree_parts {ps:List Pk} (h:ckTree ps=0):ps.length<=8/\manyC ps<=14/\NdsOk ps:=by
 have hm:=ckTree_mem h
 unfold ckTree at h
 split at h
 ·cases h
 rename_i h8
 refine ⟨by omega, ?_,fun i hi=>?_⟩
 ·unfold manyC
  rcases flagsBef_ckT (ps:=ps) ps.length with g | g
  ·rw [g,List.take_length]
   rcases ckT_sum h with rfl | h
   ·simp
   exact h
  omega
 have hp:pkOf ps (i:Int)=ps[i]:=by
  unfold pkOf
  rw [Int.toNat_natCast,List.getD_eq_getElem?_getD,List.getElem?_eq_getElem hi];rfl
 have:=pkOk (hm _ (List.getElem_mem hi))
 rw [hp]
 exact ⟨(ckNeed_zero this.nd).2.1,this.sub⟩
theorem ckMask_in {ps:List Pk}:∀ {ms:List Int} {prev:Option Int},ckMask ps prev ms=0->∀ k∈ms,0<=k/\k<ps.length
 | [],_,_,k,hk=>by cases hk
 | x :: r,prev,h,k,hk=>by
  simp only [ckMask] at h
  split at h
  ·cases h
  split at h
  ·cases h
  rcases List.mem_cons.1 hk with rfl | hk
  ·omega
  exact ckMask_in h k hk
theorem ckMask_len {ps:List Pk}:∀ {ms:List Int} {p:Int},ckMask ps (some p) ms=0->p<ps.length->(ms.length:Int)<=ps.length - 1 - p
 | [],p,_,hp=>by simp;omega
 | x :: r,p,h,hp=>by
  simp only [ckMask] at h
  split at h
  ·cases h
  split at h
  ·cases h
  rename_i h1 h2
  simp only [badPl,decide_eq_true_eq] at h2
  have:=ckMask_len h (by omega)
  simp only [List.length_cons];omega
theorem ckMask_short {ps:List Pk}:∀ {ms:List Int},ckMask ps none ms=0->ms.length<=ps.length
 | [],_=>Nat.zero_le _
 | x :: r,h=>by
  simp only [ckMask] at h
  split at h
  ·cases h
  split at h
  ·cases h
  have:=ckMask_len h (by omega)
  simp only [List.length_cons];omega
structure WishOk (ps:List Pk) (v:Ws):Prop where
 tree:ckTree ps=0
 ok:WsOk ps v
 ts:v.ts.length<=6
 ats:ckAts v.ts=0
 ms:ckMask ps none v.ms=0
 on:ckOn ps none v.on=0
theorem wish_parts {ps:List Pk} {v:Ws} (h:ckWish ps v=0):WishOk ps v:=by
 unfold ckWish at h
 split at h
 ·rename_i h1;exact absurd h h1
 rename_i h1
 have h1:ckSet ps v.ins=0:=by simpa using h1
 unfold ckSet at h1
 split at h1
 ·rename_i h2;exact absurd h1 h2
 rename_i h2
 unfold ckWishR at h
 split at h
 ·cases h
 split at h
 ·rename_i h3;exact absurd h h3
 split at h
 ·rename_i h4;exact absurd h h4
 rename_i h3 h4 h5
 exact ⟨by simpa using h2,⟨h1⟩,by omega,by simpa using h4,by simpa using h5,h⟩
theorem setOfM_congr {X:Chs} {ps:List Pk} {M:Nat} {K:List (Int×Int)} (hX:ChsOk ps M X K) {m m':List Bool} (he:∀ j,j<M->m.getD j false=m'.getD j false):setOfM X ps m=setOfM X ps m':=by
 unfold setOfM takenM
 have h1:(List.range ps.length).filter (fun i=>litHolds m (X.pick i))=(List.range ps.length).filter fun i=>litHolds m' (X.pick i):=by
  refine List.filter_congr fun i hi=>?_
  rw [litHolds_take he (hX.pick i (List.mem_range.1 hi))]
 rw [h1]
 refine List.map_congr_left fun i hi=>?_
 have hi:=(List.mem_range.1 (List.mem_filter.1 hi).1)
 unfold memM
 congr 1
 refine List.map_congr_left fun k hk=>?_
 exact litHolds_take he (hX.on i hi k (List.mem_range.1 hk))
structure EncOk (ps:List Pk) (v:Ws) (N:Nat) (cs:List (List Int)):Prop where
 n400:N<=400
 many:manyC ps<=N
 many14:manyC ps<=14
 len:cs.length<=4000
 cl:∀ c∈cs,IsCl N c/\c.length<=60
 settles:Settles N (manyC ps) cs
 sound:∀ m,holdsF m cs=true->validP ps v.ts v.ms (setOfM (chW ps v) ps m)=true
 ext:∀ m0:List Bool,m0.length=manyC ps->validP ps v.ts v.ms (setOfM (chW ps v) ps m0)=true->∃ m:List Bool,m.length=N/\(∀ j,j<manyC ps->m.getD j false=m0.getD j false)/\holdsF m cs=true
 one:∀ m m':List Bool,(∀ j,j<manyC ps->m.getD j false=m'.getD j false)->holdsF m cs=true->holdsF m' cs=true->∀ j,j<N->m.getD j false=m'.getD j false
theorem encW_ok {ps:List Pk} {v:Ws} (h:ckWish ps v=0):EncOk ps v (encW ps v).vars (encW ps v).cls:=by
 have W:=wish_parts h
 obtain ⟨h8,h14,hN⟩:=tree_parts W.tree
 have hX:=chW_ok W.ok
 have hm:=ckMask_in W.ms
 have hms:=ckMask_short W.ms
 have hts:=W.ts
 obtain ⟨gs,hs,hb,hq,hv,hc,hl⟩:=encD_ok (ts:=v.ts) hX h8 hN hm
 rw [keysW_len] at hv hc
 have hF:ps.length+flagsBef ps ps.length<=14:=h14
 have hon:∀ i,i<ps.length->∀ k,k<(pkOf ps i).fs.length->(chW ps v).on i k≠0:=fun i hi k hk=>(hX.on i hi k hk).1
 have hval:=fun m=>validM_iff (m:=m) hon hN (ts:=v.ts) hm
 refine ⟨?_,hb.le,h14, ?_,fun c hcc=>⟨hb.cl c hcc,hl c hcc⟩,fun w hw hcl h0=>hb.total hw (Nat.le_refl _) hcl h0,fun m hm1=>?_,fun m0 hl0 hv0=>?_,fun m m' he h1 h2=>hb.one_ he (hb.holds.1 h1).1 (hb.holds.1 h2).1⟩
 ·show (encD (chW ps v) ps v.ts v.ms (manyC ps)).vars<=400
  unfold manyC at hv ⊢;omega
 ·show (encD (chW ps v) ps v.ts v.ms (manyC ps)).cls.length<=4000
  omega
 ·obtain ⟨g1,g2⟩:=hb.holds.1 hm1
  rw [<- hval m,<- hq m g1];exact g2
 obtain ⟨m,e1,e2,e3⟩:=hb.ext m0 hl0
 refine ⟨m,e1,e2,hb.holds.2 ⟨e3, ?_⟩⟩
 rw [hq m e3,hval m,setOfM_congr hX e2]
 exact hv0
theorem lex_first {m m':List Bool} {n:Nat} (h:∃ j,j<n/\m.getD j false≠m'.getD j false):∃ k,k<n/\m.getD k false≠m'.getD k false/\∀ j,j<k->m.getD j false=m'.getD j false:=by
 induction n with
 | zero=>obtain ⟨j,hj,_⟩:=h;omega
 | succ n ih =>
  by_cases h2:∃ j,j<n/\m.getD j false≠m'.getD j false
  ·obtain ⟨k,h1,h3⟩:=ih h2;exact ⟨k,by omega,h3⟩
  obtain ⟨j,hj,hne⟩:=h
  have:j=n:=by
   by_cases e:j<n
   ·exact absurd ⟨j,e,hne⟩ h2
   omega
  subst this
  exact ⟨j,by omega,hne,fun i hi=>Classical.byContradiction fun e=>h2 ⟨i,hi,e⟩⟩
theorem setOfM_ck {ps:List Pk} {X:Chs} {m:List Bool} (hp:∀ i,i<ps.length->True):ckMs ps none (setOfM X ps m)=0:=by
 have key:∀ (t:List Nat) (prev:Option Int),t.Pairwise (· < ·)->(∀ i∈t,i<ps.length)->(∀ q,prev=some q->∀ i∈t,q<(i:Int))->ckMs ps prev (t.map (memM X ps m))=0:=by
  intro t
  induction t with
  | nil=>intro _ _ _ _;rfl
  | cons i r ih =>
   intro prev hs hr hq
   rw [List.pairwise_cons] at hs
   rw [List.map_cons]
   show (if (i:Int)<0\/(ps.length:Int)<=(i:Int) then (5:Int) else if badPl prev (i:Int)=true then 6 else if (memM X ps m i).on.length≠(pkOf ps (i:Int)).fs.length then 4 else ckMs ps (some (i:Int)) (r.map (memM X ps m)))=0
   have hi:=hr i (List.mem_cons_self ..)
   rw [if_neg (by omega),if_neg,if_neg (by unfold memM;simp)]
   ·exact ih _ hs.2 (fun j hj=>hr j (List.mem_cons_of_mem _ hj)) (fun q hq' j hj=>by
     injection hq' with hq';have:=hs.1 j hj;omega)
   cases hpv:prev with
   | none=>simp [badPl]
   | some q =>
    have:=hq q hpv i (List.mem_cons_self ..)
    simp only [badPl,decide_eq_true_eq];omega
 exact key _ _ taken_sorted (fun i hi=>(mem_taken.1 hi).1) (fun q h=>by cases h)
theorem chVec_le {ps:List Pk} {v:Ws} (hv:WsOk ps v) {m:List Bool} {x:Nat} (hx:x<manyC ps) (h:(chVec ps v (setOfM (chW ps v) ps m)).getD x false=true):m.getD x false=true:=by
 rw [chVec_at hx] at h
 have hr:=setOfM_rise (ps:=ps) (X:=chW ps v) (m:=m)
 have hat:∀ i,i<ps.length->atP (setOfM (chW ps v) ps m) i=if litHolds m ((chW ps v).pick i)=true then some (memM (chW ps v) ps m i) else none:=by
  intro i hi
  by_cases ht:litHolds m ((chW ps v).pick i)=true
  ·rw [if_pos ht]
   have:=atP_of hr (mem_setOfM.2 ⟨i,hi,ht,rfl⟩) (by show (0:Int)<=(i:Int);omega)
   simpa [memM] using this
  rw [if_neg ht]
  cases ha:atP (setOfM (chW ps v) ps m) i with
  | none=>rfl
  | some y =>
   obtain ⟨a1,a2⟩:=atP_mem ha
   obtain ⟨j,b1,b2,rfl⟩:=mem_setOfM.1 a1
   have a2:(j:Int)=(i:Int):=a2
   obtain rfl:j=i:=by omega
   exact absurd b2 ht
 rcases var_owner hv hx with ⟨i,hi,rfl⟩ | ⟨i,k,hi,hk,rfl⟩
 ·rw [chVal_pick hv hi,hat i hi] at h
  have hp:=litHolds_pick (ps:=ps) (v:=v) (m:=m) i
  by_cases ht:litHolds m ((chW ps v).pick i)=true
  ·rw [if_pos ht] at h
   rw [ht] at hp
   revert h hp
   cases m.getD (ixP (ordP v.ins ps.length) i) false <;> cases (insP v.ins).contains i <;> simp
  rw [if_neg ht] at h
  have ht:litHolds m ((chW ps v).pick i)=false:=by simpa using ht
  rw [ht] at hp
  revert h hp
  cases m.getD (ixP (ordP v.ins ps.length) i) false <;> cases (insP v.ins).contains i <;> simp
 rw [chVal_on hi hk,hat i hi] at h
 by_cases ht:litHolds m ((chW ps v).pick i)=true
 ·rw [if_pos ht] at h
  dsimp only at h
  rw [memM_on hk,litHolds_on] at h
  revert h
  cases m.getD (ps.length+flagsBef ps i+k) false <;> cases v.on.contains ((i:Int),(k:Int)) <;> simp
 rw [if_neg ht] at h;cases h
theorem least_choices {ps:List Pk} {v:Ws} {N:Nat} {cs:List (List Int)} (E:EncOk ps v N cs) (hv:WsOk ps v) {m:List Bool} (hh:holdsF m cs=true) (hleast:∀ m':List Bool,m'.length=N->holdsF m' cs=true->LexLe m m') :
  ∀ j,j<manyC ps->m.getD j false=(chVec ps v (setOfM (chW ps v) ps m)).getD j false:=by
 have hset:=setOf_chVec hv (setOfM_ck (ps:=ps) (X:=chW ps v) (m:=m) fun _ _=>True.intro)
 obtain ⟨m',e1,e2,e3⟩:=E.ext (chVec ps v (setOfM (chW ps v) ps m)) chVec_len (by rw [hset];exact E.sound m hh)
 have hl:=hleast m' e1 e3
 intro j hj
 refine Classical.byContradiction fun hne=>?_
 obtain ⟨k,k1,k2,k3⟩:=lex_first ⟨j,hj,hne⟩
 have hm0:=hl k (fun i hi=>by rw [e2 i (by omega)];exact k3 i hi) (by rw [e2 k k1];exact k2)
 cases hc:(chVec ps v (setOfM (chW ps v) ps m)).getD k false
 ·rw [hm0,hc] at k2;exact k2 rfl
 rw [chVec_le hv k1 hc] at hm0;cases hm0
end
section
open Go.RowKit Qm
theorem ckMask_iff' {ps:List Pk}:∀ {ms:List Int} {p:Option Int},ckMask ps p ms=0↔(∀ k∈ms,0<=k/\k<ps.length)/\(∀ q,p=some q->∀ k∈ms,q<k)/\ms.Pairwise (· < ·)
 | [],p=>by simp [ckMask]
 | k :: r,p=>by
  rw [ckMask]
  by_cases h1:k<0\/(ps.length:Int)<=k
  ·rw [if_pos h1]
   refine ⟨fun h=>(by cases h),fun ⟨h,_⟩=>?_⟩
   have:=h k (List.mem_cons_self ..);omega
  rw [if_neg h1]
  by_cases h2:badPl p k=true
  ·rw [if_pos h2]
   refine ⟨fun h=>(by cases h),fun ⟨_,h,_⟩=>?_⟩
   cases p with
   | none=>cases h2
   | some q =>
    have:=h q rfl k (List.mem_cons_self ..)
    simp only [badPl,decide_eq_true_eq] at h2;omega
  rw [if_neg h2,ckMask_iff',List.forall_mem_cons,List.pairwise_cons]
  constructor
  ·rintro ⟨g1,g2,g3⟩
   refine ⟨⟨by omega,g1⟩,fun q hq x hx=>?_,fun x hx=>g2 k rfl x hx,g3⟩
   subst hq
   simp only [badPl,decide_eq_true_eq] at h2
   rcases List.mem_cons.1 hx with rfl | hx
   ·omega
   have:=g2 k rfl x hx;omega
  rintro ⟨⟨_,g1⟩,g2,g3,g4⟩
  exact ⟨g1,fun q hq x hx=>by injection hq with hq;subst hq;exact g3 x hx,g4⟩
theorem ckMask_iff {ps:List Pk} {ms:List Int}:ckMask ps none ms=0↔(∀ k∈ms,0<=k/\k<ps.length)/\ms.Pairwise (· < ·):=by
 rw [ckMask_iff']
 exact ⟨fun ⟨a,_,b⟩=>⟨a,b⟩,fun ⟨a,b⟩=>⟨a,fun q h=>(by cases h),b⟩⟩
theorem wish_of {ps:List Pk} {v:Ws} (h:WishOk ps v):ckWish ps v=0:=by
 have e:ckSet ps v.ins=0:=by unfold ckSet;rw [if_neg (by rw [h.tree];decide),h.ok.ins]
 unfold ckWish ckWishR
 rw [if_neg (by rw [e];decide),if_neg (by have:=h.ts;omega),if_neg (by rw [h.ats];decide),if_neg (by rw [h.ms];decide),h.on]
theorem wish_mask {ps:List Pk} {v:Ws} {ms:List Int} (h:ckWish ps v=0) (hm:ms.Sublist v.ms):ckWish ps { v with ms:=ms } = 0:=by
 have W:=wish_parts h
 obtain ⟨g1,g2⟩:=ckMask_iff.1 W.ms
 exact wish_of ⟨W.tree,⟨W.ok.ins⟩,W.ts,W.ats,ckMask_iff.2 ⟨fun k hk=>g1 k (hm.subset hk),g2.sublist hm⟩,W.on⟩
theorem validP_mono {ps:List Pk} {ts ts':List At} {ms ms':List Int} {l:List Mem} (ht:∀ a∈ts',a∈ts) (hm:∀ k∈ms',k∈ms) (h:validP ps ts ms l=true):validP ps ts' ms' l=true:=by
 unfold validP at h ⊢
 rw [Bool.and_eq_true] at h ⊢
 refine ⟨List.all_eq_true.2 fun a ha=>List.all_eq_true.1 h.1 a (ht a ha), ?_⟩
 refine allOk_iff.2 fun i hi=>?_
 have:=allOk_iff.1 h.2 i hi
 unfold oneOk at this ⊢
 rw [Bool.and_eq_true] at this ⊢
 refine ⟨?_,this.2⟩
 have h3:=this.1
 cases hc:ms'.contains (memAt l i).pl
 ·rfl
 have:=List.contains_iff_mem.2 (hm _ (List.contains_iff_mem.1 hc))
 rw [this] at h3;cases h3
def May (ps:List Pk) (v:Ws):Prop:=∃ l,ckMs ps none l=0/\validP ps v.ts v.ms l=true
structure Best (ps:List Pk) (v:Ws) (l:List Mem):Prop where
 ck:ckMs ps none l=0
 ok:validP ps v.ts v.ms l=true
 first:∀ l',ckMs ps none l'=0->validP ps v.ts v.ms l'=true->LexLe (chVec ps v l) (chVec ps v l')
theorem Best.may {ps:List Pk} {v:Ws} {l:List Mem} (h:Best ps v l):May ps v:=⟨l,h.ck,h.ok⟩
theorem lexEq {m m':List Bool} (hl:m.length=m'.length) (h:LexLe m m') (h':LexLe m' m):m=m':=by
 refine Classical.byContradiction fun hne=>?_
 have hd:∃ j,j<m.length/\m.getD j false≠m'.getD j false:=Classical.byContradiction fun hno=>hne (List.ext_getElem hl fun j h1 h2=>by
  have:=Classical.byContradiction fun e=>hno ⟨j,h1,e⟩
  rw [List.getD_eq_getElem?_getD,List.getD_eq_getElem?_getD,List.getElem?_eq_getElem h1,List.getElem?_eq_getElem h2] at this
  exact this)
 obtain ⟨k,hk,hn,he⟩:=lex_first hd
 have h1:=h k he hn
 have h2:=h' k (fun j hj=>(he j hj).symm) (fun e=>hn e.symm)
 rw [h1,h2] at hn;exact hn rfl
theorem Best.eq {ps:List Pk} {v:Ws} {l l':List Mem} (hv:WsOk ps v) (h:Best ps v l) (h':Best ps v l'):l=l':=by
 have e:=lexEq (chVec_len.trans chVec_len.symm) (h.first _ h'.ck h'.ok) (h'.first _ h.ck h.ok)
 rw [<- setOf_chVec hv h.ck,<- setOf_chVec hv h'.ck,e]
theorem chVec_out {ps:List Pk} {v:Ws} {l:List Mem} {k:Nat} (h:manyC ps<=k):(chVec ps v l).getD k false=false:=by
 rw [List.getD_eq_getElem?_getD,List.getElem?_eq_none (by rw [chVec_len];exact h)];rfl
theorem best_of {ps:List Pk} {v:Ws} {N:Nat} {cs:List (List Int)} (E:EncOk ps v N cs) (hv:WsOk ps v) {m:List Bool} (hh:holdsF m cs=true) (hleast:∀ m':List Bool,m'.length=N->holdsF m' cs=true->LexLe m m'):Best ps v (setOfM (chW ps v) ps m) where
 ck:=setOfM_ck fun _ _=>trivial
 ok:=E.sound m hh
 first l' h1 h2:=by
  have e:setOfM (chW ps v) ps (chVec ps v l')=l':=setOf_chVec hv h1
  obtain ⟨m',hl',ha,hh'⟩:=E.ext (chVec ps v l') chVec_len (by rw [e];exact h2)
  have ll:=least_choices E hv hh hleast
  intro k hk hne
  by_cases hkM:k<manyC ps
  ·have:=hleast m' hl' hh' k (fun j hj=>by rw [ll j (by omega),ha j (by omega)];exact hk j hj) (by rw [ll k hkM,ha k hkM];exact hne)
   rw [<- ll k hkM];exact this
  rw [chVec_out (by omega),chVec_out (by omega)] at hne;exact absurd rfl hne
theorem none_of {ps:List Pk} {v:Ws} {N:Nat} {cs:List (List Int)} (E:EncOk ps v N cs) (hv:WsOk ps v) (hno:∀ m':List Bool,m'.length=N->holdsF m' cs=true->False):¬ May ps v:=fun ⟨l',h1,h2⟩=>by
 have e:setOfM (chW ps v) ps (chVec ps v l')=l':=setOf_chVec hv h1
 obtain ⟨m',hl',ha,hh'⟩:=E.ext (chVec ps v l') chVec_len (by rw [e];exact h2)
 exact hno m' hl' hh'
theorem best_first {ps:List Pk} {v:Ws} (hv:WsOk ps v) {m:List Bool} (hl:m.length=manyC ps) (hok:validP ps v.ts v.ms (setOfM (chW ps v) ps m)=true)
  (hf:∀ m':List Bool,m'.length=manyC ps->validP ps v.ts v.ms (setOfM (chW ps v) ps m')=true->LexLe m m'):Best ps v (setOfM (chW ps v) ps m):=by
 have hck:ckMs ps none (setOfM (chW ps v) ps m)=0:=setOfM_ck fun _ _=>trivial
 have e:=setOf_chVec hv hck
 have hle:=hf (chVec ps v (setOfM (chW ps v) ps m)) chVec_len (by rw [e];exact hok)
 have heq:m=chVec ps v (setOfM (chW ps v) ps m):=by
  refine lexEq (hl.trans chVec_len.symm) hle fun k hk hne=>?_
  cases hc:(chVec ps v (setOfM (chW ps v) ps m)).getD k false
  ·rfl
  by_cases hkM:k<manyC ps
  ·exact absurd (hc.trans (chVec_le hv hkM hc).symm) hne
  rw [chVec_out (by omega)] at hc;cases hc
 refine ⟨hck,hok,fun l' h1 h2=>?_⟩
 rw [<- heq]
 exact hf _ chVec_len (by rw [setOf_chVec hv h1];exact h2)
end
section
open Go.RowKit Qm
def unmStep (q:List Int->Bool) (s:List Int×List Int) (k:Int):List Int×List Int:=if q (s.1++[k])=true then (s.1++[k],s.2) else (s.1,s.2++[k])
def unmAll (q:List Int->Bool) (ks:List Int):List Int×List Int:=ks.foldl (unmStep q) ([],[])
theorem unmAll_snoc {q:List Int->Bool} {ks:List Int} {k:Int}:unmAll q (ks++[k])=unmStep q (unmAll q ks) k:=by
 unfold unmAll;rw [List.foldl_append];rfl
theorem unmAll_take {q:List Int->Bool} {ks:List Int} {j:Nat} {k:Int} (h:ks[j]? = some k):unmAll q (ks.take (j+1))=unmStep q (unmAll q (ks.take j)) k:=by
 obtain ⟨hj,rfl⟩:=List.getElem?_eq_some_iff.1 h
 rw [List.take_succ_eq_append_getElem hj,unmAll_snoc]
structure UnmOk (q:List Int->Bool) (ks:List Int) (s:List Int×List Int):Prop where
 s1:s.1.Sublist ks
 s2:s.2.Sublist ks
 part:∀ k∈ks,k∈s.1\/k∈s.2
 may:q s.1=true
 no:∀ k∈s.2,∀ b,(∀ x∈s.1,x∈b)->k∈b->q b=false
theorem UnmOk.step {q:List Int->Bool} (hm:∀ a b,(∀ k∈b,k∈a)->q a=true->q b=true) {ks:List Int} {s:List Int×List Int} {k:Int} (h:UnmOk q ks s):UnmOk q (ks++[k]) (unmStep q s k):=by
 unfold unmStep
 by_cases hq:q (s.1++[k])=true
 ·rw [if_pos hq]
  refine ⟨h.s1.append (List.Sublist.refl _),h.s2.trans (List.sublist_append_left _ _),fun x hx=>?_,hq,fun x hx b hb hxb=>h.no x hx b (fun y hy=>hb y (List.mem_append.2 (.inl hy))) hxb⟩
  rcases List.mem_append.1 hx with hx | hx
  ·exact (h.part x hx).imp (fun g=>List.mem_append.2 (.inl g)) id
  exact .inl (List.mem_append.2 (.inr hx))
 rw [if_neg hq]
 refine ⟨h.s1.trans (List.sublist_append_left _ _),h.s2.append (List.Sublist.refl _),fun x hx=>?_,h.may,fun x hx b hb hxb=>?_⟩
 ·rcases List.mem_append.1 hx with hx | hx
  ·exact (h.part x hx).imp id fun g=>List.mem_append.2 (.inl g)
  exact .inr (List.mem_append.2 (.inr hx))
 rcases List.mem_append.1 hx with hx | hx
 ·exact h.no x hx b hb hxb
 rw [List.mem_singleton] at hx;subst hx
 cases hqb:q b
 ·rfl
 refine absurd (hm b (s.1++[x]) (fun y hy=>?_) hqb) hq
 rcases List.mem_append.1 hy with hy | hy
 ·exact hb y hy
 rw [List.mem_singleton] at hy;rw [hy];exact hxb
theorem unm_ok {q:List Int->Bool} (hm:∀ a b,(∀ k∈b,k∈a)->q a=true->q b=true) (h0:q []=true) (ks:List Int):∀ (j:Nat),UnmOk q (ks.take j) (unmAll q (ks.take j))
 | 0=>⟨List.Sublist.refl _,List.Sublist.refl _,fun k hk=>(by cases hk),h0,fun k hk=>(by cases hk)⟩
 | j+1=>by
  by_cases hj:j<ks.length
  ·rw [List.take_succ_eq_append_getElem hj,unmAll_snoc]
   exact (unm_ok hm h0 ks j).step hm
  have e:ks.take (j+1)=ks.take j:=by rw [List.take_of_length_le (by omega),List.take_of_length_le (by omega)]
  rw [e];exact unm_ok hm h0 ks j
def codeVec (n c:Nat):List Bool:=(List.range n).map fun k=>c.testBit (n - 1 - k)
theorem codeVec_len {n c:Nat}:(codeVec n c).length=n:=by unfold codeVec;simp
theorem codeVec_at {n c k:Nat} (hk:k<n):(codeVec n c).getD k false=c.testBit (n - 1 - k):=by
 unfold codeVec
 rw [List.getD_eq_getElem?_getD,List.getElem?_map,List.getElem?_range hk];rfl
theorem lt_bit {x y i:Nat} (hx:x.testBit i=false) (hy:y.testBit i=true) (h:∀ j,i<j->x.testBit j=y.testBit j):x<y:=by
 have e:x >>> (i+1)=y >>> (i+1):=Nat.eq_of_testBit_eq fun j=>by rw [Nat.testBit_shiftRight,Nat.testBit_shiftRight];exact h _ (by omega)
 rw [Nat.testBit_eq_decide_div_mod_eq] at hx hy
 rw [Nat.shiftRight_succ,Nat.shiftRight_succ,Nat.shiftRight_eq_div_pow,Nat.shiftRight_eq_div_pow] at e
 simp only [decide_eq_true_eq,decide_eq_false_iff_not] at hx hy
 refine Nat.lt_of_not_le fun hle=>?_
 have:=Nat.div_le_div_right (c:=2 ^ i) hle
 omega
theorem codeVec_le {n a b:Nat} (ha:a<2 ^ n) (hb:b<2 ^ n) (h:a<=b):LexLe (codeVec n a) (codeVec n b):=by
 intro k hk hne
 by_cases hkn:k<n
 ·rw [codeVec_at hkn,codeVec_at hkn] at hne
  rw [codeVec_at hkn]
  cases hab:a.testBit (n - 1 - k)
  ·rfl
  have hbb:b.testBit (n - 1 - k)=false:=by
   cases hbb:b.testBit (n - 1 - k)
   ·rfl
   rw [hab,hbb] at hne;exact absurd rfl hne
  have:=lt_bit (x:=b) (y:=a) (i:=n - 1 - k) hbb hab fun j hj=>by
   by_cases hjn:j<n
   ·have:=hk (n - 1 - j) (by omega)
    rw [codeVec_at (by omega),codeVec_at (by omega)] at this
    have e:n - 1 - (n - 1 - j)=j:=by omega
    rw [e] at this;exact this.symm
   have hp:2 ^ n<=2 ^ j:=Nat.pow_le_pow_right (by decide) (by omega)
   rw [Nat.testBit_lt_two_pow (by omega),Nat.testBit_lt_two_pow (by omega)]
  omega
 rw [List.getD_eq_getElem?_getD,List.getD_eq_getElem?_getD,List.getElem?_eq_none (by rw [codeVec_len];omega),List.getElem?_eq_none (by rw [codeVec_len];omega)] at hne
 exact absurd rfl hne
def numOf (m:List Bool):Nat:=m.foldl (fun c b=>2 * c+if b=true then 1 else 0) 0
theorem numOf_snoc {m:List Bool} {b:Bool}:numOf (m++[b])=2 * numOf m+if b=true then 1 else 0:=by
 unfold numOf;rw [List.foldl_append];rfl
theorem num_all:∀ (n:Nat) (m:List Bool),m.length=n->numOf m<2 ^ n/\codeVec n (numOf m)=m
 | 0,m,h=>by
  obtain rfl:=List.length_eq_zero_iff.1 h
  exact ⟨by decide,rfl⟩
 | n+1,m,h=>by
  obtain ⟨l,b,rfl⟩:∃ l b,m=l++[b]:=⟨m.dropLast,m.getLast (fun e=>by rw [e] at h;cases h),(List.dropLast_concat_getLast _).symm⟩
  have hl:l.length=n:=by simpa using h
  obtain ⟨h1,h2⟩:=num_all n l hl
  rw [numOf_snoc]
  refine ⟨by rw [Nat.pow_succ];split <;> omega,List.ext_getElem (by rw [codeVec_len,h]) fun j hj1 hj2=>?_⟩
  rw [codeVec_len] at hj1
  have e1:=codeVec_at (n:=n+1) (c:=2 * numOf l+if b=true then 1 else 0) hj1
  rw [List.getD_eq_getElem?_getD,List.getElem?_eq_getElem (by rw [codeVec_len];exact hj1)] at e1
  rw [Option.getD_some] at e1
  rw [e1]
  by_cases hjn:j<n
  ·have e2:n+1 - 1 - j=(n - 1 - j)+1:=by omega
   have e3:(2 * numOf l+if b=true then 1 else 0) / 2=numOf l:=by split <;> omega
   rw [e2,Nat.testBit_succ,e3,<- codeVec_at hjn,h2,List.getElem_append_left (by omega),List.getD_eq_getElem?_getD,List.getElem?_eq_getElem (by omega)];rfl
  have hjn:j=n:=by omega
  subst hjn
  have e2:j+1 - 1 - j=0:=by omega
  rw [e2,Nat.testBit_zero,List.getElem_append_right (by omega)]
  simp only [hl,Nat.sub_self,List.getElem_cons_zero]
  cases b <;> simp <;> omega
def okCode (ps:List Pk) (v:Ws) (c:Nat):Bool:=validP ps v.ts v.ms (setOfM (chW ps v) ps (codeVec (manyC ps) c))
theorem best_code {ps:List Pk} {v:Ws} (hv:WsOk ps v) {c:Nat} (hc:c<2 ^ manyC ps) (hno:∀ a,a<c->okCode ps v a=false) (hq:okCode ps v c=true):Best ps v (setOfM (chW ps v) ps (codeVec (manyC ps) c)):=
 best_first hv codeVec_len hq fun m' hl hm=>by
  obtain ⟨h1,h2⟩:=num_all _ m' hl
  have hge:c<=numOf m':=by
   rcases Nat.lt_or_ge (numOf m') c with h | h
   ·have:=hno _ h
    unfold okCode at this
    rw [h2,hm] at this;cases this
   exact h
  have:=codeVec_le hc h1 hge
  rwa [h2] at this
theorem none_code {ps:List Pk} {v:Ws} (hv:WsOk ps v) (hno:∀ a,a<2 ^ manyC ps->okCode ps v a=false):¬ May ps v:=fun ⟨l,h1,h2⟩=>by
 obtain ⟨g1,g2⟩:=num_all (manyC ps) (chVec ps v l) chVec_len
 have:=hno _ g1
 unfold okCode at this
 rw [g2,setOf_chVec hv h1,h2] at this;cases this
end
end Go.Proofs.YtedbhlgjcnnknaaGreatDoor
