/- Parts. -/
import Derived.Test.YtedbhlgjcnnknaaGreatDoorQ1
import Derived.Maps.RangeWalk
import Derived.Maps.OwnSet
import Derived.Deep.RegionHeld3
import Derived.Deep.AppendLies
import Derived.OwnWalk
import Derived.Maps.AppendAt
import Derived.Lib.AppendZerosOnto
import Derived.Lib.Walk
import Derived.Lib.AtoiAll
import Derived.Lib.ItoaNum
import Derived.Lib.IndexAny
import Derived.Lib.IndexLaws
import Derived.Lib.Split
import Derived.Lib.Join
import Derived.Lib.IndexBytes
import Derived.Lib.SlicesCompact
set_option linter.unusedVariables false
set_option linter.unusedSimpArgs false
set_option linter.unusedSectionVars false
set_option maxRecDepth 100000
set_option maxHeartbeats 12800000
namespace Go.Proofs.YtedbhlgjcnnknaaGreatDoor
section
open Go.RowKit
def IntSet (P:Program) (w:World) (b:Nat) (K:Int->Bool) (m:Nat):Prop:=
 ∃ D:DataW Unit,w.ownsMap P 3 (plainElem P 4) b m D/\Maps.size D=m/\∀ x:Int,(Lit.int .i64 x).wf=true->Maps.has D (.int .i64 x)=K x/\D.atKey (.int .i64 x) (.lit (.bool false))=.lit (.bool (K x))
section
variable {P : Program} {w w' : World} {b m : Nat} {K : Int → Bool}
theorem wf_of {x:Int} (h1 : -9223372036854775808<=x) (h2:x<=9223372036854775807):(Lit.int .i64 x).wf=true:=WalkArith.wf_i64 (by omega)
theorem IntSet.made (P:Program) (w:World):IntSet P (w.alloc (.map #[] 0)) w.heap.size (fun _=>false) 0:=
 ⟨.map [],World.ownsMap_made w P 3 _,rfl,fun x _=>⟨rfl,rfl⟩⟩
theorem IntSet.lt (h:IntSet P w b K m):b<w.heap.size:=by obtain ⟨D,h1,_⟩:=h;exact h1.lt
theorem IntSet.look (h:IntSet P w b K m) (hk:P.underlying 3=some (.int .i64)) (he:P.underlying 4=some .bool) (hz:(zeroValue 4).run P w=.ok (.bool false) w) {t:TypeId} (ht:P.underlying t=some (.map 3 4)) {x:Int} (hx:(Lit.int .i64 x).wf=true) :
  (Instr.lookup t (.map (some b)) (.int .i64 x) false).run P w=.ok (.bool (K x)) w:=by
 obtain ⟨D,h1,_,h3⟩:=h
 obtain ⟨v,ps,hrun,hv⟩:=h1.lookup (Maps.int_keyed hk) ht hz (plainElem_bool he false) (Maps.keyOf_int_mk hk hx)
 rw [(h3 x hx).2] at hv
 have:v=.bool (K x):=by
  unfold plainElem at hv
  rw [he] at hv
  cases v <;> simp at hv
  rw [hv.1]
 rw [hrun,this]
theorem IntSet.put (h:IntSet P w b K m) (hk:P.underlying 3=some (.int .i64)) (he:P.underlying 4=some .bool) {t:TypeId} (ht:P.underlying t=some (.map 3 4)) {x:Int} (hx:(Lit.int .i64 x).wf=true) (hm:m<maxLen) :
  ∃ w',(Instr.mapUpdate t (.map (some b)) (.int .i64 x) (.bool true)).run P w=.ok () w'/\IntSet P w' b (fun y=>y == x || K y) (if K x then m else m+1)/\w.grownBy w' (some b)/\w'.heap.size=w.heap.size:=by
 obtain ⟨D,h1,h2,h3⟩:=h
 have Kd:=Maps.int_keyed (P:=P) hk
 have hkey:=Maps.keyOf_int_mk (P:=P) hk hx
 have hkl:WideAt.IsKeyLit (.int .i64 x):=Kd.key hkey
 obtain ⟨w',hrun,h4,h5⟩:=h1.store Kd ht hm hkey (plainElem_bool he true)
 have htd:=h1.tidy Kd
 have hsz:Maps.size (D.put (.int .i64 x) (.lit (.bool true)))=if K x then m else m+1:=by
  rw [Maps.size_put htd,(h3 x hx).1,h2]
 refine ⟨w',hrun,⟨_, ?_,hsz,fun y hy=>?_⟩,h5.grown, ?_⟩
 ·have e:Maps.size (D.put (.int .i64 x) (.lit (.bool true)))<=if K x then m else m+1:=by rw [hsz];exact qr _
  obtain ⟨es,clock,hb,F,hs,hD⟩:=h4
  refine ⟨es,clock,hb,F, ?_,hD⟩
  rw [hD] at e
  simpa [Maps.size,length_sorted] using e
 ·by_cases hyx:y=x
  ·subst hyx
   rw [Maps.has_put_same htd.isMap hkl,Maps.atKey_put_same htd.isMap hkl]
   simp
  have hne:(Lit.int .i64 y)≠.int .i64 x:=by intro e;injection e with _ e;exact hyx e
  rw [Maps.has_put_other hne,Maps.atKey_put_other hne]
  have:(y == x)=false:=by simpa using hyx
  show _=(y == x || K y)/\_=DataW.lit (.bool (y == x || K y))
  rw [this,Bool.false_or]
  exact h3 y hy
 obtain ⟨es,clock,es',clock',_,rfl⟩:=h5
 simp [ChangeMaps.setBlock]
end
end
section
open Go.RowKit
end
section
open Go.RowKit
end
section
open Go.RowKit
def ckLits (c:List Int) (vars:Int):Int:=if c.any (badLit vars) then 5 else 0
end
end Go.Proofs.YtedbhlgjcnnknaaGreatDoor

namespace Qm
def litsTo (v:List Int):Nat->List Int
 | 0=>[]
 | k+1=>litsTo v k++if v.getD (k+1) 0=0 then [] else [((k+1:Nat):Int) * v.getD (k+1) 0]
theorem litsTo_succ (v:List Int) (k:Nat):litsTo v (k+1)=litsTo v k++if v.getD (k+1) 0=0 then [] else [((k+1:Nat):Int) * v.getD (k+1) 0]:=rfl
def followsV (N:Nat) (cs:List (List Int)) (az:List Int):Option (List Int):=match assume az (zeroVals N) with | none=>none | some v=>spread cs v
theorem spreadN_fine {N:Nat} {cs:List (List Int)} (hc:∀ c∈cs,IsCl N c):∀ (k:Nat) {v v':List Int},Fine N v->spreadN cs k v=some v'->Fine N v':=by
 intro k
 induction k with
 | zero=>intro v v' hf h;simp [spreadN] at h;subst h;exact hf
 | succ k ih =>
  intro v v' hf h
  simp only [spreadN] at h
  cases hp:pass cs v with
  | none=>rw [hp] at h;cases h
  | some x =>
   obtain ⟨v1,b⟩:=x
   rw [hp] at h
   have hf1:=(pass_ok hc hf hp).1
   cases b with
   | true=>exact ih hf1 h
   | false=>simp at h;subst h;exact hf1
theorem spread_fine {N:Nat} {cs:List (List Int)} (hc:∀ c∈cs,IsCl N c) {v v':List Int} (hf:Fine N v) (h:spread cs v=some v'):Fine N v':=spreadN_fine hc _ hf h
end Qm

namespace Go.Proofs.YtedbhlgjcnnknaaGreatDoor
section
open Go.RowKit
theorem own_form {w:World} {base:Nat} {e:TypeId} {v:Value} {n:Nat} {vs:List Value} (h:w.ownsRow base e 1 v n vs):∃ (A:Option Addr) (c:Nat),v=.slice A n c/\n<=c/\c<=maxLen/\Row w (fun k=>base<=k/\k<w.heap.size) A n vs:=by
 have h':=h
 rcases h'.2 with ⟨rfl,rfl⟩ | ⟨g,cap,cur,rfl,hb,hh,hc,hm,_⟩
 ·exact ⟨none,0,rfl,qr _,Nat.zero_le _,by have:=h.1;simpa using this,fun h=>absurd h (by omega)⟩
 exact ⟨_,cap,rfl,hc,hm,row_of_own h (fun g' e=>by simp [Value.ownBlock] at e;subst e;exact ⟨hb,lt_of_block hh⟩)⟩
theorem own_formK {w:World} {base:Nat} {e:TypeId} {size:Nat} {v:Value} {n:Nat} {vs:List Value} (h:w.ownsRow base e size v n vs):∃ (A:Option Addr) (c:Nat),v=.slice A n c/\n<=c/\c<=maxLen/\Row w (fun k=>v.ownBlock=some k) A (n * size) vs:=by
 rcases h.2 with ⟨rfl,rfl⟩ | ⟨g,cap,cur,rfl,hb,hh,hc,hm,hs,ht⟩
 ·exact ⟨none,0,rfl,qr _,Nat.zero_le _,by have:=h.1;simpa using this,fun h=>absurd h (by omega)⟩
 refine ⟨_,cap,rfl,hc,hm,h.1,fun hn=>⟨g,0,rfl,rfl,fun j hj=>?_⟩⟩
 have hj':j<cur.size:=by rw [hs];exact ql hj (Nat.mul_le_mul_right _ hc)
 rw [cell_of_row w g _ _ _ (0,0) hh,Nat.zero_add,<- ht,List.getElem?_take_of_lt hj]
 simp
theorem news_of_row {w:World} {S:Nat->Prop} {b o n:Nat} {vs:List Value} (h:Row w S (some ⟨b,o,none⟩) n vs):∀ j u,vs[j]? = some u->w.cell? ((⟨b,o,none⟩:Addr).add j)=some u:=by
 intro j u hj
 have hjn:j<n:=by have:=(List.getElem?_eq_some_iff.1 hj).1;rw [h.len] at this;exact this
 obtain ⟨b',o',e,_,hc⟩:=h.at_ hjn
 injection e with e;injection e with e1 e2
 subst e1 e2
 have hadd:(⟨b,o,none⟩:Addr).add j=⟨b,o+j,none⟩:=by unfold Addr.add;split <;> simp_all
 rw [hadd,hc,hj]
theorem Row.some_lit {w:World} {S:Nat->Prop} {A:Option Addr} {n:Nat} {vs:List Value} (h:Row w S A n vs) (hn:0<n):∃ b o,A=some ⟨b,o,none⟩/\S b:=by
 obtain ⟨b,o,e,hS,_⟩:=h.at_ hn
 exact ⟨b,o,e,hS⟩
theorem run_append_row {P:Program} (w:World) (base:Nat) (t ty e:TypeId) (i:TypeInfo) (z:Value) (bytes:Nat) (ht:P.underlying t=some (.slice e)) (hi:P.info? e=some i) (hz:i.zero=some z)
  (hsize:i.size=1) (hby:i.bytes=bytes) (hzs:z.cells.size=1) (v:Value) (n:Nat) (xs:List Value) (hown:w.ownsRow base e 1 v n xs)
  (A:Option Addr) (m c:Nat) (news:List Value) (S:Nat->Prop) (hrow:Row w S A m news) (h1:∀ u∈news,u.oneCell'=true)
  (h63:n+m<=maxLen) (hbytes:(n+m) * bytes<=140737488355328) (hbase:base<=w.heap.size) :
  ∃ v' w',(Builtin.append_ #[t,t] ty #[v,.slice A m c]).run P w=.ok v' w'/\w'.ownsRow base e 1 v' (n+m) (xs++news)/\w.grownBy w' v.ownBlock:=by
 cases A with
 | none =>
  obtain rfl:m=0:=by
   by_cases h0:0<m
   ·obtain ⟨b,o,e,_⟩:=hrow.some_lit h0;cases e
   omega
  obtain rfl:news=[]:=List.eq_nil_of_length_eq_zero hrow.len
  refine ⟨v,w, ?_,by simpa using hown,World.grownBy.refl _ _⟩
  rcases hown.2 with ⟨rfl,rfl⟩ | ⟨g,cap,cur,rfl,_,_,hnc,_⟩
  ·simp [Builtin.append_,run_underlying ht,sizeOf,typeInfo,hi,Builtin.lenOf,Builtin.firstCells]
  simp [Builtin.append_,run_underlying ht,sizeOf,typeInfo,hi,Builtin.lenOf,Builtin.firstCells,hnc,storeCells]
 | some ad =>
  have hnews:∀ j u,news[j]? = some u->w.cell? (ad.add j)=some u:=by
   intro j u hj
   have hjn:j<m:=by have:=(List.getElem?_eq_some_iff.1 hj).1;rw [hrow.len] at this;exact this
   obtain ⟨b,o,e,_⟩:=hrow.some_lit (by omega)
   injection e with e
   subst e
   exact news_of_row hrow j u hj
  obtain ⟨v',w',hr,h2,h3,_⟩:=run_append_own (P:=P) w base t ty e i z 1 bytes ht hi hz hsize hby hzs (by decide) v n xs hown ad m c news (by rw [hrow.len,Nat.mul_one]) hnews h1 h63 hbytes hbase
  exact ⟨v',w',hr,h2,h3⟩
theorem wpList_append_row {P:Program} {w:World} {ops:Array Oper} {rest:List Oper} {o:Oper} {a:Act} {Q:Exit->Act->World->Prop} (hgd:o.guard=none) (s x:Operand) (t:TypeId)
  (ho:o.op=.call { callee:=.builtin .append,args:=#[s,x],argTypes:=#[t,t] })
  (base:Nat) (e:TypeId) (i:TypeInfo) (z:Value) (bytes:Nat) (ht:P.underlying t=some (.slice e)) (hi:P.info? e=some i) (hz:i.zero=some z)
  (hsize:i.size=1) (hby:i.bytes=bytes) (hzs:z.cells.size=1) (v:Value) (n:Nat) (xs:List Value) (hs:a.eval s=v) (hown:w.ownsRow base e 1 v n xs)
  (A:Option Addr) (m c:Nat) (news:List Value) (hx:a.eval x=.slice A m c) (S:Nat->Prop) (hrow:Row w S A m news) (h1:∀ u∈news,u.oneCell'=true)
  (h63:n+m<=maxLen) (hbytes:(n+m) * bytes<=140737488355328) (hbase:base<=w.heap.size)
  (h:∀ A' c' w',n+m<=c'->c'<=maxLen->w'.ownsRow base e 1 (.slice A' (n+m) c') (n+m) (xs++news)->w.grownBy w' v.ownBlock->wpList P ops Q rest (a.put o.dst (.slice A' (n+m) c')) w'):wpList P ops Q (o :: rest) a w:=by
 refine wpList_plain hgd fun K hK=>?_
 obtain ⟨v',w',hr,h2,h3⟩:=run_append_row (P:=P) w base t o.type e i z bytes ht hi hz hsize hby hzs v n xs hown A m c news S hrow h1 h63 hbytes hbase
 obtain ⟨A',c',rfl,h4,h5,_⟩:=own_form h2
 unfold Oper.wp execOp
 simp only [ho,resolve,invoke,builtin,Sem.run_bind,Sem.run_pure,Result.andThen_ok,List.map_toArray,List.map_cons,List.map_nil,hs,hx,hr]
 exact hK _ _ (h A' c' w' h4 h5 h2 h3)
end
section
open Go.RowKit
def folErr (vars:Int) (cs:List (List Int)) (asm:List Int):Int:=if ckFormula vars cs≠0 then ckFormula vars cs else if 400<asm.length then 2 else ckLits asm vars
def folV (vars:Int) (cs:List (List Int)) (asm:List Int):Option (List Int):=if folErr vars cs asm≠0 then none else Qm.followsV vars.toNat cs asm
def folOk (vars:Int) (cs:List (List Int)) (asm:List Int):Bool:=(folV vars cs asm).isSome
def folL (vars:Int) (cs:List (List Int)) (asm:List Int):List Int:=match folV vars cs asm with | none=>[] | some v=>Qm.litsTo v vars.toNat
def FolPost (vars:Int) (cs:List (List Int)) (asm:List Int) (w:World) (e:Ending) (w':World):Prop:=
 ∃ (A:Option Addr) (n c:Nat),e=.returned (.tuple #[.slice A n c,.bool (folOk vars cs asm),.int .i64 (folErr vars cs asm)])/\RInts w' (fun k=>w.heap.size<=k/\k<w'.heap.size) A n (folL vars cs asm)/\n<=c/\c<=maxLen/\Below w.heap.size w w'
theorem FolPost.no {vars:Int} {cs:List (List Int)} {asm:List Int} {w w':World} {E:Int} (h:folV vars cs asm=none) (he:folErr vars cs asm=E) (hb:Below w.heap.size w w') :
  FolPost vars cs asm w (.returned (.tuple #[.slice none 0 0,.bool false,.int .i64 E])) w':=by
 refine ⟨none,0,0, ?_, ?_,qr _,Nat.zero_le _,hb⟩
 ·unfold folOk;rw [h,he];rfl
 unfold folL;rw [h];exact RInts.nil_
end
section
open Go.RowKit
def ffL (N:Nat) (cs:List (List Int)) (asm:List Int):List Int:=match Qm.followsV N cs asm with | none=>[] | some v=>Qm.litsTo v N
def FfPost (N:Nat) (cs:List (List Int)) (asm:List Int) (w:World) (e:Ending) (w':World):Prop:=
 ∃ (A:Option Addr) (n c:Nat),e=.returned (.tuple #[.slice A n c,.bool (Qm.followsV N cs asm).isSome])/\RInts w' (fun k=>w.heap.size<=k/\k<w'.heap.size) A n (ffL N cs asm)/\n<=c/\c<=maxLen/\Below w.heap.size w w'
theorem FfPost.no {N:Nat} {cs:List (List Int)} {asm:List Int} {w w':World} (h:Qm.followsV N cs asm=none) (hb:Below w.heap.size w w'):FfPost N cs asm w (.returned (.tuple #[.slice none 0 0,.bool false])) w':=by
 refine ⟨none,0,0,by rw [h];rfl,by unfold ffL;rw [h];exact RInts.nil_,qr _,Nat.zero_le _,hb⟩
end
end Go.Proofs.YtedbhlgjcnnknaaGreatDoor

namespace Qm
open Go
structure At where
 nm:List UInt8
 op:Int
 ver:Int
 slot:Int
 fl:List UInt8
 on:Bool
deriving DecidableEq
def At.zero:At:=⟨[],0,0,0,[],false⟩
def lowB (c:UInt8):Bool:=decide (97<=c.toNat/\c.toNat<=122)
def digB (c:UInt8):Bool:=decide (48<=c.toNat/\c.toNat<=57)
def okAt (i:Nat) (c:UInt8):Bool:=lowB c || (decide (0<i) && digB c)
def okFrom:Nat->List UInt8->Bool
 | _,[]=>true
 | i,c :: r=>okAt i c && okFrom (i+1) r
def isName (l:List UInt8):Bool:=decide (1<=l.length/\l.length<=8) && okFrom 0 l
def ckAtom (a:At):Int:=
 if isName a.nm=false\/a.fl≠[]/\isName a.fl=false then 1
 else if a.op<0\/3<a.op\/a.slot<0\/9<a.slot then 3
 else if a.op=0/\a.ver≠0\/a.op≠0/\(a.ver<1\/99<a.ver) then 3
 else if a.fl=[]/\a.on=true then 4 else 0
def opText (o:Int):List UInt8:=if o=1 then [61] else if o=2 then [62,61] else if o=3 then [60] else []
def textOf (a:At):List UInt8:=
 a.nm++(if a.op≠0 then opText a.op++Lib.itoa a.ver else [])++(if 0<a.slot then 58 :: Lib.itoa a.slot else []) ++
  (if a.fl≠[] then (if a.on then 43 else 45) :: a.fl else [])
def number (l:List UInt8):Option Int:=
 match Lib.atoiAll l with
 | .ok v=>if Lib.itoa v=l then some v else none
 | _=>none
def cutAt (p:UInt8->Bool):List UInt8->Option (List UInt8×UInt8×List UInt8)
 | []=>none
 | c :: r=>if p c then some ([],c,r) else match cutAt p r with
  | some (a,b,d)=>some (c :: a,b,d)
  | none=>none
def signB (c:UInt8):Bool:=c == 43 || c == 45
def opB (c:UInt8):Bool:=c == 61 || c == 60 || c == 62
def fin (a:At):At×Int:=if ckAtom a=0 then (a,0) else (At.zero,ckAtom a)
def badAt:At×Int:=(At.zero,1)
def opNum (c:UInt8) (d:List UInt8):Option (Int×Int):=
 if c=61 then (number d).map fun v=>(1,v)
 else if c=60 then (number d).map fun v=>(3,v)
 else match d with
  | []=>none
  | e :: r=>if e=61 then (number r).map fun v=>(2,v) else none
def parseOp (l fl:List UInt8) (on:Bool) (slot:Int):At×Int:=
 match cutAt opB l with
 | none=>fin ⟨l,0,0,slot,fl,on⟩
 | some (a,c,d)=>match opNum c d with
  | some (o,v)=>fin ⟨a,o,v,slot,fl,on⟩
  | none=>badAt
def parseSlot (l fl:List UInt8) (on:Bool):At×Int:=
 match cutAt (· == 58) l with
 | none=>parseOp l fl on 0
 | some (a,_,d)=>match number d with
  | some n=>if n=0 then badAt else parseOp a fl on n
  | none=>badAt
def parseFew (l:List UInt8):At×Int:=
 match cutAt signB l with
 | none=>parseSlot l [] false
 | some (a,c,d)=>if d=[] then badAt else parseSlot a d (c == 43)
def parseAt (l:List UInt8):At×Int:=if 20000<l.length then (At.zero,2) else parseFew l
theorem of_cutAt_some {p:UInt8->Bool}:∀ {l a:List UInt8} {c:UInt8} {d:List UInt8},cutAt p l=some (a,c,d)->l=a++c :: d/\p c=true/\∀ x∈a,p x=false
 | [],_,_,_,h=>by simp [cutAt] at h
 | x :: r,a,c,d,h=>by
  unfold cutAt at h
  by_cases hx:p x=true
  ·simp only [hx,if_true,Option.some.injEq,Prod.mk.injEq] at h
   obtain ⟨rfl,rfl,rfl⟩:=h
   exact ⟨rfl,hx,by simp⟩
  simp only [hx,Bool.false_eq_true,if_false] at h
  cases hr:cutAt p r with
  | none=>rw [hr] at h;cases h
  | some t =>
   obtain ⟨a',c',d'⟩:=t
   rw [hr] at h
   simp only [Option.some.injEq,Prod.mk.injEq] at h
   obtain ⟨rfl,rfl,rfl⟩:=h
   obtain ⟨h1,h2,h3⟩:=of_cutAt_some hr
   refine ⟨by rw [h1];rfl,h2, ?_⟩
   intro y hy
   rcases List.mem_cons.1 hy with rfl | hy
   ·simpa using hx
   exact h3 y hy
theorem of_cutAt_none {p:UInt8->Bool}:∀ {l:List UInt8},cutAt p l=none->∀ x∈l,p x=false
 | [],_,x,hx=>by cases hx
 | y :: r,h,x,hx=>by
  unfold cutAt at h
  by_cases hy:p y=true
  ·simp [hy] at h
  simp only [hy,Bool.false_eq_true,if_false] at h
  have hr:cutAt p r=none:=by
   cases hr:cutAt p r with
   | none=>rfl
   | some t=>rw [hr] at h;cases h
  rcases List.mem_cons.1 hx with rfl | hx
  ·simpa using hy
  exact of_cutAt_none hr x hx
theorem cutAt_indexAny (cs:List UInt8):∀ (l:List UInt8),Lib.indexAny l cs=match cutAt (fun c=>cs.contains c) l with | none=>-1 | some (a,_,_)=>(a.length:Int)
 | []=>rfl
 | c :: r=>by
  have ih:=cutAt_indexAny cs r
  by_cases hc:cs.contains c=true
  ·simp only [Lib.indexAny,cutAt,hc,if_true]
   rfl
  simp only [Lib.indexAny,cutAt,hc,Bool.false_eq_true,if_false]
  cases hr:cutAt (fun c=>cs.contains c) r with
  | none=>rw [hr] at ih;simp [ih]
  | some t =>
   obtain ⟨a,b,d⟩:=t
   rw [hr] at ih
   simp only [] at ih
   simp only [List.length_cons]
   rw [ih]
   have:((a.length:Int) == -1)=false:=by simp
   rw [this]
   simp
theorem okFrom_mem:∀ {i:Nat} {l:List UInt8},okFrom i l=true->∀ c∈l,lowB c=true\/digB c=true
 | _,[],_,c,hc=>by cases hc
 | i,x :: r,h,c,hc=>by
  simp only [okFrom,Bool.and_eq_true] at h
  rcases List.mem_cons.1 hc with rfl | hc
  ·have:=h.1
   simp only [okAt,Bool.or_eq_true,Bool.and_eq_true] at this
   rcases this with h1 | h1
   ·exact .inl h1
   exact .inr h1.2
  exact okFrom_mem h.2 c hc
theorem isName_mem {l:List UInt8} (h:isName l=true):∀ c∈l,lowB c=true\/digB c=true:=by
 simp only [isName,Bool.and_eq_true] at h
 exact okFrom_mem h.2
theorem isName_len {l:List UInt8} (h:isName l=true):1<=l.length/\l.length<=8:=by
 simp only [isName,Bool.and_eq_true,decide_eq_true_eq] at h
 exact h.1
theorem decDigits_mem (u:Nat):∀ c∈Lib.decDigits u,digB c=true:=by
 induction u using Nat.strongRecOn with
 | _ u ih =>
  intro c hc
  rw [Lib.decDigits] at hc
  split at hc
  ·rename_i h
   simp only [List.mem_singleton] at hc
   subst hc
   simp only [digB,decide_eq_true_eq,UInt8.toNat_ofNat']
   omega
  rename_i h
  rcases List.mem_append.1 hc with hc | hc
  ·exact ih (u / 10) (by omega) c hc
  simp only [List.mem_singleton] at hc
  subst hc
  simp only [digB,decide_eq_true_eq,UInt8.toNat_ofNat']
  omega
theorem itoa_mem {n:Int} (h:0<=n):∀ c∈Lib.itoa n,digB c=true:=by
 unfold Lib.itoa
 rw [if_neg (by omega)]
 exact decDigits_mem _
theorem decDigits_one {n:Nat} (h:n<10):Lib.decDigits n=[UInt8.ofNat (48+n)]:=by rw [Lib.decDigits,dif_pos h]
theorem decDigits_two {n:Nat} (h:¬ n<10) (h2:n<100):Lib.decDigits n=[UInt8.ofNat (48+n / 10),UInt8.ofNat (48+n % 10)]:=by
 rw [Lib.decDigits,dif_neg h,decDigits_one (by omega)];rfl
theorem itoa_len {n:Int} (h0:0<=n) (h:n<=99):1<=(Lib.itoa n).length/\(Lib.itoa n).length<=2:=by
 unfold Lib.itoa
 rw [if_neg (by omega)]
 by_cases h1:n.toNat<10
 ·rw [decDigits_one h1];simp
 rw [decDigits_two h1 (by omega)];simp
theorem number_itoa {n:Int} (h0:0<=n) (h:n<=99):number (Lib.itoa n)=some n:=by
 have key:Lib.atoiAll (Lib.itoa n)=.ok n:=by
  have e:Lib.itoa n=Lib.decDigits n.toNat:=by unfold Lib.itoa;rw [if_neg (by omega)]
  rw [e]
  obtain ⟨m,rfl⟩:∃ m:Nat,n=m:=⟨n.toNat,by omega⟩
  simp only [Int.toNat_natCast]
  have hm:m<100:=by omega
  by_cases h1:m<10
  ·rw [decDigits_one h1]
   have:∀ m:Fin 10,Lib.atoiAll [UInt8.ofNat (48+m.val)]=.ok (m.val:Int):=by decide
   exact this ⟨m,h1⟩
  rw [decDigits_two h1 hm]
  have:∀ m:Fin 100,10<=m.val->Lib.atoiAll [UInt8.ofNat (48+m.val / 10),UInt8.ofNat (48+m.val % 10)]=.ok (m.val:Int):=by decide
  exact this ⟨m,hm⟩ (by show 10<=m;omega)
 unfold number
 rw [key]
 simp
theorem of_number {l:List UInt8} {v:Int} (h:number l=some v):Lib.itoa v=l:=by
 unfold number at h
 split at h
 ·split at h
  ·cases h;assumption
  cases h
 cases h
end Qm

namespace Qm
open Go
structure AtOk (a:At):Prop where
 nm:isName a.nm=true
 fl:a.fl≠[]->isName a.fl=true
 op:0<=a.op/\a.op<=3
 slot:0<=a.slot/\a.slot<=9
 none:a.op=0->a.ver=0
 some:a.op≠0->1<=a.ver/\a.ver<=99
 on:a.fl=[]->a.on=false
theorem atOk {a:At} (h:ckAtom a=0):AtOk a:=by
 unfold ckAtom at h
 split at h
 ·simp at h
 rename_i h1
 split at h
 ·simp at h
 rename_i h2
 split at h
 ·simp at h
 rename_i h3
 split at h
 ·simp at h
 rename_i h4
 refine ⟨?_, ?_,by omega,by omega,by omega,by omega, ?_⟩
 ·cases e:isName a.nm
  ·exact absurd (.inl e) h1
  rfl
 ·intro e
  cases e':isName a.fl
  ·exact absurd (.inr ⟨e,e'⟩) h1
  rfl
 intro e
 cases e':a.on
 ·rfl
 exact absurd ⟨e,e'⟩ h4
def opPart (a:At):List UInt8:=if a.op≠0 then opText a.op++Lib.itoa a.ver else []
def slotPart (a:At):List UInt8:=if 0<a.slot then 58 :: Lib.itoa a.slot else []
theorem of_fin {a x:At} (h:fin a=(x,0)):x=a/\ckAtom a=0:=by
 unfold fin at h
 split at h
 ·rename_i hk
  exact ⟨(Prod.mk.inj h).1.symm,hk⟩
 rename_i hk
 exact absurd (Prod.mk.inj h).2 hk
theorem not_bad {x:At}:¬ badAt=(x,0):=by
 intro h
 have:=(Prod.mk.inj h).2
 simp at this
theorem of_parseOp {l fl:List UInt8} {on:Bool} {slot:Int} {x:At} (h:parseOp l fl on slot=(x,0)) :
  ckAtom x=0/\x.slot=slot/\x.fl=fl/\x.on=on/\x.nm++opPart x=l:=by
 unfold parseOp at h
 split at h
 ·obtain ⟨rfl,hk⟩:=of_fin h
  exact ⟨hk,rfl,rfl,rfl,by simp [opPart]⟩
 rename_i a c d hc
 obtain ⟨e,hp,_⟩:=of_cutAt_some hc
 split at h
 ·rename_i o v ho
  obtain ⟨rfl,hk⟩:=of_fin h
  refine ⟨hk,rfl,rfl,rfl, ?_⟩
  rw [e]
  congr 1
  unfold opNum at ho
  split at ho
  ·rename_i hc1
   cases hn:number d with
   | none=>rw [hn] at ho;cases ho
   | some w =>
    rw [hn] at ho
    simp only [Option.map_some,Option.some.injEq,Prod.mk.injEq] at ho
    obtain ⟨rfl,rfl⟩:=ho
    have:=of_number hn
    simp [opPart,opText,this,hc1]
  split at ho
  ·rename_i hc1
   cases hn:number d with
   | none=>rw [hn] at ho;cases ho
   | some w =>
    rw [hn] at ho
    simp only [Option.map_some,Option.some.injEq,Prod.mk.injEq] at ho
    obtain ⟨rfl,rfl⟩:=ho
    have:=of_number hn
    simp [opPart,opText,this,hc1]
  rename_i hc1 hc2
  have hc3:c=62:=by
   have:(c == 61)=false:=by simpa using hc1
   have:(c == 60)=false:=by simpa using hc2
   simpa [opB, *] using hp
  cases d with
  | nil=>cases ho
  | cons y r =>
   simp only [] at ho
   split at ho
   ·rename_i hy
    cases hn:number r with
    | none=>rw [hn] at ho;cases ho
    | some w =>
     rw [hn] at ho
     simp only [Option.map_some,Option.some.injEq,Prod.mk.injEq] at ho
     obtain ⟨rfl,rfl⟩:=ho
     have:=of_number hn
     simp [opPart,opText,this,hc3,hy]
   cases ho
 exact absurd h not_bad
theorem of_parseSlot {l fl:List UInt8} {on:Bool} {x:At} (h:parseSlot l fl on=(x,0)) :
  ckAtom x=0/\x.fl=fl/\x.on=on/\x.nm++opPart x++slotPart x=l:=by
 unfold parseSlot at h
 split at h
 ·obtain ⟨h1,h2,h3,h4,h5⟩:=of_parseOp h
  refine ⟨h1,h3,h4, ?_⟩
  rw [h5]
  simp [slotPart,h2]
 rename_i a c d hc
 obtain ⟨e,hp,_⟩:=of_cutAt_some hc
 split at h
 ·rename_i n hn
  split at h
  ·exact absurd h not_bad
  rename_i hn0
  obtain ⟨h1,h2,h3,h4,h5⟩:=of_parseOp h
  refine ⟨h1,h3,h4, ?_⟩
  have hs:=(atOk h1).slot
  have hp':c=58:=by simpa using hp
  rw [h5,e]
  unfold slotPart
  rw [if_pos (by omega),h2,of_number hn,hp']
 exact absurd h not_bad
theorem parse_back {l:List UInt8} {x:At} (h:parseAt l=(x,0)):ckAtom x=0/\textOf x=l:=by
 unfold parseAt at h
 split at h
 ·have:=(Prod.mk.inj h).2
  simp at this
 unfold parseFew at h
 split at h
 ·obtain ⟨h1,h2,h3,h4⟩:=of_parseSlot h
  refine ⟨h1, ?_⟩
  show x.nm++opPart x++slotPart x++_=l
  rw [h4,h2]
  simp
 rename_i a c d hc
 obtain ⟨e,hp,_⟩:=of_cutAt_some hc
 split at h
 ·exact absurd h not_bad
 rename_i hd
 obtain ⟨h1,h2,h3,h4⟩:=of_parseSlot h
 refine ⟨h1, ?_⟩
 show x.nm++opPart x++slotPart x++_=l
 rw [h4,h2,h3,e,if_pos hd]
 congr 2
 have hp':c=43\/c=45:=by simpa [signB] using hp
 rcases hp' with rfl | rfl <;> rfl
end Qm

namespace Qm
open Go
abbrev W:=List UInt8
inductive Nd where
 | mk (kind:Int) (a:At) (fl:W) (no:Bool) (kids:List Nd)
def Nd.kind:Nd->Int | .mk k _ _ _ _=>k
def Nd.a:Nd->At | .mk _ a _ _ _=>a
def Nd.fl:Nd->W | .mk _ _ f _ _=>f
def Nd.no:Nd->Bool | .mk _ _ _ n _=>n
def Nd.kids:Nd->List Nd | .mk _ _ _ _ ks=>ks
def Nd.zero:Nd:=.mk 0 At.zero [] false []
theorem Nd.ind {P:Nd->Prop} (h:∀ k a f no ks,(∀ x∈ks,P x)->P (.mk k a f no ks)):∀ n,P n
 | .mk k a f no ks=>h k a f no ks fun x _=>Nd.ind h x
mutual
def Nd.nodes:Nd->Nat
 | .mk _ _ _ _ ks=>1+nodesL ks
def nodesL:List Nd->Nat
 | []=>0
 | k :: r=>k.nodes+nodesL r
end
mutual
def Nd.deep:Nd->Nat
 | .mk _ _ _ _ ks=>1+deepL ks
def deepL:List Nd->Nat
 | []=>0
 | k :: r=>max k.deep (deepL r)
end
mutual
def cnt:Nd->Nat->Int->Option Int
 | .mk _ _ _ _ ks,d,m=>if 4<d then none else cntL ks d m 1
def cntL:List Nd->Nat->Int->Int->Option Int
 | [],_,_,all=>some all
 | k :: r,d,m,all=>if m<all then some all else match cnt k (d+1) (m - all) with
  | none=>none
  | some c=>cntL r d m (all+c)
end
theorem cntL_spec {ks:List Nd} (ih:∀ x∈ks,∀ (d:Nat) (m:Int),1<=d->(∀ c,cnt x d m=some c->1<=c/\(c<=m->c=x.nodes/\d+x.deep<=5))/\((x.nodes:Int)<=m->d+x.deep<=5->cnt x d m=some (x.nodes:Int))/\(cnt x d m=none->5<d+x.deep)) :
  ∀ (d:Nat) (m all:Int),1<=d->1<=all->d<=4->(∀ c,cntL ks d m all=some c->all<=c/\(c<=m->c=all+nodesL ks/\d+deepL ks<=4))/\(all+nodesL ks<=m->d+deepL ks<=4->cntL ks d m all=some (all+(nodesL ks:Int)))/\(cntL ks d m all=none->4<d+deepL ks):=by
 induction ks with
 | nil =>
  intro d m all hd ha hd4
  refine ⟨?_, ?_, ?_⟩
  ·intro c hc
   simp only [cntL,Option.some.injEq] at hc
   simp only [nodesL,deepL]
   omega
  ·intro _ _;simp [cntL,nodesL]
  intro h;simp [cntL] at h
 | cons k r ihr =>
  intro d m all hd ha hd4
  have ik:=ih k (List.mem_cons_self ..) (d+1) (m - all) (by omega)
  have ir:=ihr fun x hx=>ih x (List.mem_cons_of_mem _ hx)
  simp only [cntL,nodesL,deepL]
  by_cases hm:m<all
  ·rw [if_pos hm]
   refine ⟨?_, ?_, ?_⟩
   ·intro c hc
    simp only [Option.some.injEq] at hc
    omega
   ·intro h;omega
   intro h;cases h
  rw [if_neg hm]
  obtain ⟨i1,i2,i3⟩:=ik
  cases hk:cnt k (d+1) (m - all) with
  | none =>
   have:=i3 hk
   refine ⟨fun c hc=>(by cases hc),fun h1 h2=>?_,fun _=>by omega⟩
   have:=i2 (by omega) (by omega)
   rw [hk] at this;cases this
  | some c =>
   obtain ⟨h1,h2⟩:=i1 c hk
   obtain ⟨r1,r2,r3⟩:=ir d m (all+c) hd (by omega) hd4
   simp only []
   refine ⟨?_, ?_, ?_⟩
   ·intro e he
    obtain ⟨q1,q2⟩:=r1 e he
    refine ⟨by omega,fun hem=>?_⟩
    obtain ⟨p1,p2⟩:=q2 hem
    obtain ⟨s1,s2⟩:=h2 (by omega)
    omega
   ·intro q1 q2
    have hc':=i2 (by omega) (by omega)
    rw [hk] at hc'
    simp only [Option.some.injEq] at hc'
    rw [r2 (by omega) (by omega)]
    congr 1;omega
   intro e
   have:=r3 e
   omega
theorem cnt_spec:∀ (n:Nd) (d:Nat) (m:Int),1<=d->(∀ c,cnt n d m=some c->1<=c/\(c<=m->c=n.nodes/\d+n.deep<=5))/\((n.nodes:Int)<=m->d+n.deep<=5->cnt n d m=some (n.nodes:Int))/\(cnt n d m=none->5<d+n.deep):=by
 refine Nd.ind fun k a f no ks ih=>?_
 intro d m hd
 simp only [cnt,Nd.nodes,Nd.deep]
 by_cases h:4<d
 ·rw [if_pos h]
  exact ⟨fun c hc=>(by cases hc),fun _ h2=>by omega,fun _=>by omega⟩
 rw [if_neg h]
 obtain ⟨r1,r2,r3⟩:=cntL_spec ih d m 1 hd (by omega) (by omega)
 refine ⟨?_, ?_, ?_⟩
 ·intro c hc
  obtain ⟨q1,q2⟩:=r1 c hc
  refine ⟨q1,fun h=>?_⟩
  obtain ⟨p1,p2⟩:=q2 h
  omega
 ·intro h1 h2
  rw [r2 (by omega) (by omega)]
  congr 1
 intro h
 have:=r3 h
 omega
theorem cntL_le {ks:List Nd} (ih:∀ x∈ks,∀ (d:Nat) (m c:Int),0<=m->cnt x d m=some c->c<=m+1) :
  ∀ (d:Nat) (m all c:Int),all<=m+1->cntL ks d m all=some c->c<=m+1:=by
 induction ks with
 | nil=>intro d m all c h1 h;simp only [cntL,Option.some.injEq] at h;omega
 | cons k r ihr =>
  intro d m all c h1 h
  simp only [cntL] at h
  split at h
  ·simp only [Option.some.injEq] at h;omega
  split at h
  ·cases h
  rename_i c' hc'
  have:=ih k (List.mem_cons_self ..) _ _ _ (by omega) hc'
  exact ihr (fun x hx=>ih x (List.mem_cons_of_mem _ hx)) d m _ c (by omega) h
theorem cnt_le:∀ (n:Nd) (d:Nat) (m c:Int),0<=m->cnt n d m=some c->c<=m+1:=by
 refine Nd.ind fun k a f no ks ih=>?_
 intro d m c hm h
 simp only [cnt] at h
 split at h
 ·cases h
 exact cntL_le ih d m 1 c (by omega) h
def tooMany (n:Nd):Prop:=4<n.deep\/20<n.nodes
instance (n:Nd):Decidable (tooMany n):=by unfold tooMany;exact inferInstance
theorem cnt_many (n:Nd):(∀ c,cnt n 1 20=some c->(20<c↔tooMany n))/\(cnt n 1 20=none->tooMany n):=by
 obtain ⟨r1,r2,r3⟩:=cnt_spec n 1 20 (by omega)
 unfold tooMany
 refine ⟨?_, ?_⟩
 ·intro c hc
  obtain ⟨q1,q2⟩:=r1 c hc
  constructor
  ·intro h
   by_cases h1:(n.nodes:Int)<=20/\1+n.deep<=5
   ·have:=r2 h1.1 h1.2
    rw [hc] at this
    simp only [Option.some.injEq] at this
    omega
   omega
  intro h
  by_cases h1:c<=20
  ·obtain ⟨p1,p2⟩:=q2 h1
   omega
  omega
 intro h
 have:=r3 h
 omega
def leafK (k:Int):Bool:=decide (k=1\/k=2)
mutual
def ckNd:Nd->Int
 | .mk k a f no ks =>
  if k<1\/5<k then 4
  else if leafK k=true/\ks.length≠0 then 4
  else if leafK k=false/\a≠At.zero then 4
  else if k≠5/\(f≠[]\/no=true) then 4
  else if k=5/\isName f=false then 1
  else if leafK k=true then ckAtom a
  else ckKids ks
def ckKids:List Nd->Int
 | []=>0
 | k :: r=>if ckNd k=0 then ckKids r else ckNd k
end
def ckNeed (n:Nd):Int:=if tooMany n then 2 else ckNd n
def prAtom (a:At):W:=if ckAtom a=0 then textOf a else []
def headW (k:Int) (f:W) (no:Bool):List W:=if k=4 then [[124,124]] else if k=5 then [(if no then [33] else [])++(f++[63])] else []
mutual
def wordsN:Nd->List W
 | .mk k a f no ks=>if k=1 then [prAtom a] else if k=2 then [33 :: prAtom a] else headW k f no++[40] :: (wordsL ks++[[41]])
def wordsL:List Nd->List W
 | []=>[]
 | k :: r=>wordsN k++wordsL r
end
def joinB (c:UInt8):List W->W
 | []=>[]
 | w :: r=>match r with
  | []=>w
  | _=>w++c :: joinB c r
def splitGo (c:UInt8):W->W->List W
 | acc,[]=>[acc]
 | acc,x :: r=>if x=c then acc :: splitGo c [] r else splitGo c (acc++[x]) r
def splitB (c:UInt8) (l:W):List W:=splitGo c [] l
def readKids (rd:List W->Option (Nd×List W)):Nat->List W->Option (List Nd×List W)
 | 0,_=>none
 | f+1,ws=>match ws with
  | []=>some ([],[])
  | w :: r=>if w=[41] then some ([],w :: r) else match rd (w :: r) with
   | none=>none
   | some (k,ws')=>match readKids rd f ws' with
    | none=>none
    | some (ks,ws'')=>some (k :: ks,ws'')
def closeB (k:Int) (fl:W) (no:Bool):Option (List Nd×List W)->Option (Nd×List W)
 | none=>none
 | some (ks,ws')=>match ws' with
  | []=>none
  | w :: r=>if w=[41] then some (.mk k At.zero fl no ks,r) else none
def readBody (rd:List W->Option (Nd×List W)) (k:Int) (fl:W) (no:Bool) (ws:List W):Option (Nd×List W):=
 closeB k fl no (readKids rd (ws.length+1) ws)
def openB (rd:List W->Option (Nd×List W)) (k:Int) (fl:W) (no:Bool):List W->Option (Nd×List W)
 | []=>none
 | w :: r=>if w=[40] then readBody rd k fl no r else none
def cutBang:W->W×Bool
 | []=>([],false)
 | c :: r=>if c=33 then (r,true) else (c :: r,false)
def leafB (t:W) (b:Bool) (r:List W):Option (Nd×List W):=
 if (parseAt t).2=0 then some (.mk (if b then 2 else 1) (parseAt t).1 [] false [],r) else none
def readS (rd:List W->Option (Nd×List W)) (s:W) (r:List W):Option (Nd×List W):=
 if s=[40] then readBody rd 3 [] false r
 else if s=[124,124] then openB rd 4 [] false r
 else if s.getLast? = some 63 then
  (if isName (cutBang s.dropLast).1 then openB rd 5 (cutBang s.dropLast).1 (cutBang s.dropLast).2 r else none)
 else leafB (cutBang s).1 (cutBang s).2 r
def readN:Nat->List W->Option (Nd×List W)
 | 0,_=>none
 | d+1,ws=>readS (readN d) (ws.headD []) ws.tail
theorem readN_cons (d:Nat) (s:W) (r:List W):readN (d+1) (s :: r)=readS (readN d) s r:=rfl
def finNd (n:Nd):Nd×Int:=if ckNeed n=0 then (n,0) else (Nd.zero,ckNeed n)
def toldNd:Option (Nd×List W)->Nd×Int
 | some (n,[])=>finNd n
 | _=>(Nd.zero,1)
def parseNd (l:W):Nd×Int:=if 20000<l.length then (Nd.zero,2) else toldNd (readN 4 (splitB 32 l))
end Qm

namespace Qm
open Go
theorem splitGo_none {c:UInt8}:∀ {l acc:W},(∀ x∈l,x≠c)->splitGo c acc l=[acc++l]
 | [],acc,_=>by simp [splitGo]
 | x :: r,acc,h=>by
  rw [splitGo,if_neg (h x (List.mem_cons_self ..)),splitGo_none fun y hy=>h y (List.mem_cons_of_mem _ hy)]
  simp
theorem splitGo_some {c:UInt8} {r:W}:∀ {l acc:W},(∀ x∈l,x≠c)->splitGo c acc (l++c :: r)=(acc++l) :: splitGo c [] r
 | [],acc,_=>by simp [splitGo]
 | x :: l,acc,h=>by
  rw [List.cons_append,splitGo,if_neg (h x (List.mem_cons_self ..)),splitGo_some fun y hy=>h y (List.mem_cons_of_mem _ hy)]
  simp
def plainB (c:UInt8):Bool:=c != 32 && c != 33 && c != 40 && c != 41 && c != 63 && c != 124 && c != 10 && c != 44
theorem low_plain {c:UInt8} (h:lowB c=true\/digB c=true):plainB c=true:=by
 have h':(97<=c.toNat/\c.toNat<=122)\/(48<=c.toNat/\c.toNat<=57):=by simpa [lowB,digB] using h
 have k:∀ d:UInt8,d.toNat<48\/(57<d.toNat/\d.toNat<97)\/122<d.toNat->(c != d)=true:=by
  intro d hd
  rw [bne_iff_ne]
  rintro rfl
  omega
 unfold plainB
 rw [k 32 (by decide),k 33 (by decide),k 40 (by decide),k 41 (by decide),k 63 (by decide),k 124 (by decide),k 10 (by decide),k 44 (by decide)];rfl
theorem name_plain {l:W} (h:isName l=true):∀ c∈l,plainB c=true:=fun c hc=>low_plain (isName_mem h c hc)
theorem text_plain {a:At} (h:ckAtom a=0):∀ c∈textOf a,plainB c=true:=by
 have hk:=atOk h
 intro c hc
 unfold textOf at hc
 rcases List.mem_append.1 hc with hc | hc
 ·rcases List.mem_append.1 hc with hc | hc
  ·rcases List.mem_append.1 hc with hc | hc
   ·exact name_plain hk.nm c hc
   split at hc
   ·rename_i h0
    rcases List.mem_append.1 hc with hc | hc
    ·have:c=61\/c=62\/c=60:=by
      unfold opText at hc
      split at hc
      ·simp at hc;exact .inl hc
      split at hc
      ·simp at hc;rcases hc with hc | hc
       ·exact .inr (.inl hc)
       exact .inl hc
      split at hc
      ·simp at hc;exact .inr (.inr hc)
      cases hc
     rcases this with rfl | rfl | rfl <;> decide
    exact low_plain (.inr (itoa_mem (by have:=hk.some h0;omega) c hc))
   cases hc
  split at hc
  ·rcases List.mem_cons.1 hc with rfl | hc
   ·decide
   exact low_plain (.inr (itoa_mem (by omega) c hc))
  cases hc
 split at hc
 ·rename_i h0
  rcases List.mem_cons.1 hc with rfl | hc
  ·split <;> decide
  exact name_plain (hk.fl h0) c hc
 cases hc
theorem text_ne {a:At} (h:ckAtom a=0):∃ c r,textOf a=c :: r/\plainB c=true:=by
 have hl:=(isName_len (atOk h).nm).1
 have hp:=text_plain h
 have:textOf a≠[]:=by
  intro e
  unfold textOf at e
  simp only [List.append_assoc,List.append_eq_nil_iff] at e
  rw [e.1] at hl;simp at hl
 cases e:textOf a with
 | nil=>exact absurd e this
 | cons c r=>rw [e] at hp;exact ⟨c,r,rfl,hp c (List.mem_cons_self ..)⟩
theorem words_ne:∀ (n:Nd),wordsN n≠[]
 | .mk k a f no ks=>by
  unfold wordsN
  split
  ·simp
  split <;> simp
theorem leaf_of_parse {t:W} {x:At} (h:(parseAt t).2=0) (hx:(parseAt t).1=x):ckAtom x=0/\textOf x=t:=parse_back (by rw [<- hx,<- h])
theorem cut_bang {s t:W} {b:Bool} (h:cutBang s=(t,b)):s=if b then 33 :: t else t:=by
 cases s with
 | nil=>simp [cutBang] at h;obtain ⟨rfl,rfl⟩:=h;rfl
 | cons c r =>
  by_cases hc:c=33
  ·rw [cutBang,if_pos hc,Prod.mk.injEq] at h
   obtain ⟨rfl,rfl⟩:=h;simp [hc]
  rw [cutBang,if_neg hc,Prod.mk.injEq] at h
  obtain ⟨rfl,rfl⟩:=h;simp
theorem of_readKids {rd:List W->Option (Nd×List W)} {d:Nat} (hrd:∀ ws n r,rd ws=some (n,r)->ws=wordsN n++r/\ckNd n=0/\n.deep<=d) :
  ∀ {f:Nat} {ws:List W} {ks:List Nd} {r:List W},readKids rd f ws=some (ks,r)->ws=wordsL ks++r/\ckKids ks=0/\deepL ks<=d
 | 0,_,_,_,h=>by simp [readKids] at h
 | f+1,[],ks,r,h=>by
  simp only [readKids,Option.some.injEq,Prod.mk.injEq] at h
  obtain ⟨rfl,rfl⟩:=h
  simp [wordsL,ckKids,deepL]
 | f+1,w :: ws,ks,r,h=>by
  unfold readKids at h
  simp only [] at h
  split at h
  ·simp only [Option.some.injEq,Prod.mk.injEq] at h
   obtain ⟨rfl,rfl⟩:=h
   simp [wordsL,ckKids,deepL]
  split at h
  ·cases h
  rename_i k ws' hk
  split at h
  ·cases h
  rename_i ks' ws'' hks
  simp only [Option.some.injEq,Prod.mk.injEq] at h
  obtain ⟨rfl,rfl⟩:=h
  obtain ⟨e1,c1,d1⟩:=hrd _ _ _ hk
  obtain ⟨e2,c2,d2⟩:=of_readKids hrd hks
  refine ⟨?_, ?_, ?_⟩
  ·rw [e1,e2];simp [wordsL]
  ·simp only [ckKids];rw [if_pos c1];exact c2
  simp only [deepL];exact Nat.max_le.2 ⟨d1,d2⟩
theorem of_readBody {rd:List W->Option (Nd×List W)} {d:Nat} (hrd:∀ ws n r,rd ws=some (n,r)->ws=wordsN n++r/\ckNd n=0/\n.deep<=d) {k:Int} {fl:W} {no:Bool} {ws:List W} {n:Nd} {r:List W}
  (h:readBody rd k fl no ws=some (n,r)):∃ ks,n=.mk k At.zero fl no ks/\ws=wordsL ks++[41] :: r/\ckKids ks=0/\deepL ks<=d:=by
 unfold readBody at h
 cases hk:readKids rd (ws.length+1) ws with
 | none=>rw [hk] at h;cases h
 | some q =>
  obtain ⟨ks,ws'⟩:=q
  rw [hk] at h
  obtain ⟨e1,c1,d1⟩:=of_readKids hrd hk
  unfold closeB at h
  cases ws' with
  | nil=>cases h
  | cons w ws'' =>
   simp only [] at h
   split at h
   ·rename_i hw
    simp only [Option.some.injEq,Prod.mk.injEq] at h
    obtain ⟨rfl,rfl⟩:=h
    subst hw
    exact ⟨ks,rfl,e1,c1,d1⟩
   cases h
theorem of_openB {rd:List W->Option (Nd×List W)} {d:Nat} (hrd:∀ ws n r,rd ws=some (n,r)->ws=wordsN n++r/\ckNd n=0/\n.deep<=d) {k:Int} {fl:W} {no:Bool} {ws:List W} {n:Nd} {r:List W}
  (h:openB rd k fl no ws=some (n,r)):∃ ks,n=.mk k At.zero fl no ks/\ws=[40] :: (wordsL ks++[41] :: r)/\ckKids ks=0/\deepL ks<=d:=by
 cases ws with
 | nil=>cases h
 | cons w ws' =>
  have h':(if w=[40] then readBody rd k fl no ws' else none)=some (n,r):=h
  by_cases hw:w=[40]
  ·rw [if_pos hw] at h'
   obtain ⟨ks,e0,e1,e2⟩:=of_readBody hrd h'
   exact ⟨ks,e0,by rw [hw,e1],e2⟩
  rw [if_neg hw] at h';cases h'
theorem of_readN:∀ (d:Nat) (ws:List W) (n:Nd) (r:List W),readN d ws=some (n,r)->ws=wordsN n++r/\ckNd n=0/\n.deep<=d
 | 0,_,_,_,h=>by cases h
 | d+1,ws,n,r,h=>by
  have hrd:=of_readN d
  have hne:ws≠[]:=by
   rintro rfl
   have h':readS (readN d) [] []=some (n,r):=h
   clear h
   have h:=h'
   rw [readS,if_neg (by simp),if_neg (by simp),if_neg (by simp)] at h
   unfold leafB at h
   by_cases h0:(parseAt []).2=0
   ·obtain ⟨h1,h2⟩:=leaf_of_parse h0 rfl
    obtain ⟨c,r,e,_⟩:=text_ne h1
    rw [h2] at e;cases e
   have h':(if (parseAt []).2=0 then _ else none)=some (n,r):=h
   rw [if_neg h0] at h';cases h'
  cases ws with
  | nil=>exact absurd rfl hne
  | cons s t =>
   rw [readN_cons] at h
   unfold readS at h
   split at h
   ·rename_i hs
    obtain ⟨ks,rfl,e1,e2,e3⟩:=of_readBody hrd h
    refine ⟨?_, ?_,by simp only [Nd.deep];omega⟩
    ·rw [hs,e1];simp [wordsN,headW]
    simp [ckNd,leafK,e2]
   split at h
   ·rename_i hs
    obtain ⟨ks,rfl,e1,e2,e3⟩:=of_openB hrd h
    refine ⟨?_, ?_,by simp only [Nd.deep];omega⟩
    ·rw [hs,e1];simp [wordsN,headW]
    simp [ckNd,leafK,e2]
   split at h
   ·rename_i hs
    split at h
    ·rename_i hn
     obtain ⟨ks,rfl,e1,e2,e3⟩:=of_openB hrd h
     have hc:=cut_bang (s:=s.dropLast) (t:=(cutBang s.dropLast).1) (b:=(cutBang s.dropLast).2) rfl
     have hsd:s=s.dropLast++[63]:=by
      cases s with
      | nil=>simp at hs
      | cons x y =>
       have h1:=List.dropLast_concat_getLast (l:=x :: y) (by simp)
       rw [List.getLast?_eq_some_getLast (by simp)] at hs
       simp only [Option.some.injEq] at hs
       rw [hs] at h1
       exact h1.symm
     refine ⟨?_, ?_,by simp only [Nd.deep];omega⟩
     ·simp only [wordsN,headW,show ((5:Int)=1)=False by simp,show ((5:Int)=2)=False by simp,show ((5:Int)=4)=False by simp,if_false,if_true]
      rw [e1]
      simp only [List.cons_append,List.nil_append,List.append_assoc]
      congr 1
      generalize (cutBang s.dropLast).1=q1 at *
      generalize (cutBang s.dropLast).2=q2 at *
      rw [hsd,hc]
      cases q2 <;> simp
     simp [ckNd,leafK,e2,hn]
    cases h
   unfold leafB at h
   split at h
   ·rename_i h0
    simp only [Option.some.injEq,Prod.mk.injEq] at h
    obtain ⟨rfl,rfl⟩:=h
    obtain ⟨h1,h2⟩:=leaf_of_parse h0 rfl
    have hc:=cut_bang (s:=s) (t:=(cutBang s).1) (b:=(cutBang s).2) rfl
    generalize (cutBang s).1=q1 at *
    generalize (cutBang s).2=q2 at *
    refine ⟨?_, ?_,by simp [Nd.deep,deepL]⟩
    ·cases q2
     ·simp [wordsN,prAtom,h1,h2,hc]
     simp [wordsN,prAtom,h1,h2,hc]
    cases q2 <;> simp [ckNd,leafK,h1]
   cases h
theorem ckNeed_zero {n:Nd} (h:ckNeed n=0):n.deep<=4/\n.nodes<=20/\ckNd n=0:=by
 unfold ckNeed at h
 split at h
 ·cases h
 rename_i h1
 unfold tooMany at h1
 exact ⟨by omega,by omega,h⟩
end Qm

namespace Qm
open Go
theorem index_cut (c:UInt8):∀ (l:List UInt8),Lib.index l [c]=match cutAt (· == c) l with | none=>-1 | some (a,_,_)=>(a.length:Int):=by
 intro l
 rw [Lib.index_one]
 induction l with
 | nil=>rfl
 | cons b l ih =>
  unfold Lib.indexByte cutAt
  by_cases h:(b == c)=true
  ·simp [h]
  simp only [h,Bool.false_eq_true,if_false,ih]
  cases hr:cutAt (· == c) l with
  | none=>simp
  | some t =>
   obtain ⟨a,d,e⟩:=t
   simp only [List.length_cons]
   have:((a.length:Int) == -1)=false:=by simp
   rw [this];simp
theorem splitB_cut {c:UInt8} {l:W}:splitB c l=match cutAt (· == c) l with | none=>[l] | some (a,_,d)=>a :: splitB c d:=by
 cases h:cutAt (· == c) l with
 | none =>
  have:=of_cutAt_none h
  unfold splitB
  rw [splitGo_none fun x hx=>by have:=this x hx;simpa using this];rfl
 | some t =>
  obtain ⟨a,b,d⟩:=t
  obtain ⟨e,hb,ha⟩:=of_cutAt_some h
  have hb':b=c:=by simpa using hb
  subst hb'
  unfold splitB
  rw [e,splitGo_some fun x hx=>by have:=ha x hx;simpa using this];rfl
theorem splitK_eq (c:UInt8):∀ (k:Nat) (l:W),Lib.count l [c]<=k->Lib.splitK [c] 0 k l=splitB c l
 | k,l,hk=>by
  rw [splitB_cut]
  have hi:=index_cut c l
  cases h:cutAt (· == c) l with
  | none =>
   rw [h] at hi
   cases k with
   | zero=>rfl
   | succ k=>unfold Lib.splitK;rw [hi];rfl
  | some t =>
   obtain ⟨a,b,d⟩:=t
   obtain ⟨e,hb,ha⟩:=of_cutAt_some h
   rw [h] at hi
   simp only [] at hi
   have hc:=Lib.count_hit (by simp) hi
   have hd:l.drop (a.length+[c].length)=d:=by rw [e];simp [List.drop_append]
   rw [hd] at hc
   obtain ⟨k,rfl⟩:∃ j,k=j+1:=⟨k - 1,by omega⟩
   unfold Lib.splitK
   rw [hi]
   have h1:((a.length:Int) == -1)=false:=by simp
   rw [h1]
   simp only [Bool.false_eq_true,if_false,Int.toNat_natCast,Nat.add_zero]
   rw [hd,splitK_eq c k d (by omega)]
   rw [e];simp
theorem split_eq (c:UInt8) (l:W):Lib.split l [c]=splitB c l:=splitK_eq c _ l (Nat.le_refl _)
theorem splitB_bytes (c:UInt8) (s s':ByteArray):(Lib.splitB s' 0 (Lib.countB s s') s).map (·.data.toList)=splitB c s.data.toList\/s'.data.toList≠[c]:=by
 by_cases h:s'.data.toList=[c]
 ·left
  rw [Lib.splitB_data,h]
  have:Lib.countB s s'=Lib.count s.data.toList [c]:=by unfold Lib.countB;rw [h]
  rw [this];exact split_eq c _
 exact .inr h
mutual
def sameNd:Nd->Nd->Bool
 | .mk k a f no ks,m=>decide (k=m.kind) && (decide (a=m.a) && (decide (f=m.fl) && (decide (no=m.no) && sameL ks m.kids)))
def sameL:List Nd->List Nd->Bool
 | [],ms=>ms.isEmpty
 | n :: r,ms=>match ms with
  | []=>false
  | m :: s=>sameNd n m && sameL r s
end
mutual
def flagsN:Nd->List W
 | .mk k _ f _ ks=>(if k=5 then [f] else [])++flagsL ks
def flagsL:List Nd->List W
 | []=>[]
 | k :: r=>flagsN k++flagsL r
end
theorem flagsL_snoc:∀ (ks:List Nd) (y:Nd),flagsL (ks++[y])=flagsL ks++flagsN y
 | [],y=>by simp [flagsL]
 | k :: r,y=>by simp only [List.cons_append,flagsL,flagsL_snoc r y,List.append_assoc]
theorem flagsN_le:∀ (y:Nd),(flagsN y).length<=y.nodes:=by
 refine Nd.ind fun k a f no ks ih=>?_
 have hL:∀ {l:List Nd},(∀ y∈l,(flagsN y).length<=y.nodes)->(flagsL l).length<=nodesL l:=by
  intro l
  induction l with
  | nil=>intro _;simp [flagsL,nodesL]
  | cons y l ihl =>
   intro hl
   have h1:=hl y (List.mem_cons_self ..)
   have h2:=ihl fun z hz=>hl z (List.mem_cons_of_mem _ hz)
   simp only [flagsL,nodesL,List.length_append];omega
 have:=hL ih
 simp only [flagsN,Nd.nodes,List.length_append]
 split <;> simp <;> omega
theorem flagsL_take:∀ (ks:List Nd) (j:Nat),(flagsL (ks.take j)).length<=(flagsL ks).length
 | [],j=>by simp [flagsL]
 | k :: r,0=>by simp [flagsL]
 | k :: r,j+1=>by
  have:=flagsL_take r j
  simp only [List.take_succ_cons,flagsL,List.length_append];omega
end Qm

namespace Qm
open Go
structure Pk where
 nm:W
 ver:Int
 slot:Int
 fs:List W
 nd:Nd
def badNext:Option W->W->Bool
 | none,_=>false
 | some p,f=>decide (f<=p)
def ckFlags:Option W->List W->Int
 | _,[]=>0
 | prev,f :: r=>if isName f=false then 1 else if badNext prev f=true then 6 else ckFlags (some f) r
def ckPk (p:Pk):Int:=
 if isName p.nm=false then 1
 else if p.ver<1\/99<p.ver\/p.slot<1\/9<p.slot then 3
 else if 2<p.fs.length then 2
 else if ckFlags none p.fs≠0 then ckFlags none p.fs
 else if p.nd.kind≠3 then 4
 else if ckNeed p.nd≠0 then ckNeed p.nd
 else if (flagsN p.nd).all (fun f=>p.fs.contains f)=true then 0 else 5
def beforeP (a b:Pk):Bool:=decide (a.nm<b.nm) || (decide (a.nm=b.nm) && decide (a.ver<b.ver))
def badPk:Option Pk->Pk->Bool
 | none,_=>false
 | some q,p=>!beforeP q p
def ckT:Option Pk->Nat->List Pk->Int
 | _,_,[]=>0
 | prev,n,p :: r=>if ckPk p≠0 then ckPk p else if badPk prev p=true then 6 else if 14<n+p.fs.length then 2 else ckT (some p) (n+p.fs.length) r
def ckTree (ps:List Pk):Int:=if 8<ps.length then 2 else ckT none ps.length ps
def cut4 (l:W):Option (W×W×W×W×W):=
 match cutAt (· == 32) l with
 | none=>none
 | some (a,_,l1)=>match cutAt (· == 32) l1 with
  | none=>none
  | some (b,_,l2)=>match cutAt (· == 32) l2 with
   | none=>none
   | some (c,_,l3)=>match cutAt (· == 32) l3 with
    | none=>none
    | some (d,_,e)=>some (a,b,c,d,e)
def fsOf (d:W):List W:=if d=[] then [] else splitB 44 d
def parseLine (l:W):Except Int Pk:=
 match cut4 l with
 | none=>.error 1
 | some (a,b,c,d,e)=>match number b,number c with
  | some v,some k=>if (parseNd e).2=1 then .error 1 else if (parseNd e).2≠0 then .error (parseNd e).2 else .ok ⟨a,v,k,fsOf d,(parseNd e).1⟩
  | _,_=>.error 1
def parseLines:Nat->Nat->W->Except (Nat×Int) (List Pk)
 | 0,_,_=>.ok []
 | f+1,i,s=>if s=[] then .ok [] else match cutAt (· == 10) s with
  | none=>.error (i,1)
  | some (l,_,rest)=>match parseLine l with
   | .error e=>.error (i,e)
   | .ok p=>match parseLines f (i+1) rest with
    | .error e=>.error e
    | .ok ps=>.ok (p :: ps)
def parseTree (s:W):List Pk×Nat×Int:=
 if 20000<s.length then ([],0,2) else match parseLines (s.length+1) 0 s with
  | .error (i,e)=>([],i,e)
  | .ok ps=>if ckTree ps=0 then (ps,0,0) else ([],0,ckTree ps)
theorem ckT_mem:∀ {ps:List Pk} {prev:Option Pk} {n:Nat},ckT prev n ps=0->∀ p∈ps,ckPk p=0
 | [],_,_,_,p,hp=>by cases hp
 | q :: r,prev,n,h,p,hp=>by
  simp only [ckT] at h
  by_cases h1:ckPk q=0
  ·rw [if_neg (by simpa using h1)] at h
   split at h
   ·cases h
   split at h
   ·cases h
   rcases List.mem_cons.1 hp with rfl | hp
   ·exact h1
   exact ckT_mem h p hp
  rw [if_pos h1] at h
  exact absurd h h1
theorem ckTree_mem {ps:List Pk} (h:ckTree ps=0):∀ p∈ps,ckPk p=0:=by
 unfold ckTree at h
 split at h
 ·cases h
 exact ckT_mem h
structure PkOk (p:Pk):Prop where
 nm:isName p.nm=true
 ver:1<=p.ver/\p.ver<=99
 slot:1<=p.slot/\p.slot<=9
 len:p.fs.length<=2
 fs:ckFlags none p.fs=0
 kind:p.nd.kind=3
 nd:ckNeed p.nd=0
 sub:∀ f∈flagsN p.nd,f∈p.fs
theorem pkOk {p:Pk} (h:ckPk p=0):PkOk p:=by
 unfold ckPk at h
 split at h
 ·cases h
 split at h
 ·cases h
 split at h
 ·cases h
 split at h
 ·rename_i h4;exact absurd h h4
 split at h
 ·cases h
 split at h
 ·rename_i h6;exact absurd h h6
 split at h
 ·rename_i h1 h2 h3 h4 h5 h6 h7
  refine ⟨by simpa using h1,by omega,by omega,by omega,by simpa using h4,by simpa using h5,by simpa using h6,fun f hf=>?_⟩
  have:=List.all_eq_true.1 h7 f hf
  simpa using this
 cases h
theorem ckFlags_names:∀ {fs:List W} {prev:Option W},ckFlags prev fs=0->∀ f∈fs,isName f=true
 | [],_,_,f,hf=>by cases hf
 | g :: r,prev,h,f,hf=>by
  simp only [ckFlags] at h
  split at h
  ·cases h
  rename_i h1
  split at h
  ·cases h
  rcases List.mem_cons.1 hf with rfl | hf
  ·simpa using h1
  exact ckFlags_names h f hf
theorem cut4_back {l a b c d e:W} (h:cut4 l=some (a,b,c,d,e)):l=a++(32 :: b++(32 :: c++(32 :: d++(32 :: e)))):=by
 unfold cut4 at h
 split at h
 ·cases h
 rename_i a' x1 l1 h1
 split at h
 ·cases h
 rename_i b' x2 l2 h2
 split at h
 ·cases h
 rename_i c' x3 l3 h3
 split at h
 ·cases h
 rename_i d' x4 l4 h4
 simp only [Option.some.injEq,Prod.mk.injEq] at h
 obtain ⟨rfl,rfl,rfl,rfl,rfl⟩:=h
 obtain ⟨e1,p1,_⟩:=of_cutAt_some h1
 obtain ⟨e2,p2,_⟩:=of_cutAt_some h2
 obtain ⟨e3,p3,_⟩:=of_cutAt_some h3
 obtain ⟨e4,p4,_⟩:=of_cutAt_some h4
 have p1':x1=32:=by simpa using p1
 have p2':x2=32:=by simpa using p2
 have p3':x3=32:=by simpa using p3
 have p4':x4=32:=by simpa using p4
 subst p1' p2' p3' p4'
 rw [e1,e2,e3,e4]
 simp
end Qm

namespace Qm
open Go
section
variable {α : Type} [Inhabited α] [DecidableEq α]
theorem mem_compactUpTo {d:Array α} {x:α}:∀ {m:Nat},m<=d.size->(x∈Lib.compactUpTo d m↔∃ j,j<m/\d[j]! = x)
 | 0,_=>by simp [Lib.compactUpTo]
 | m+1,h=>by
  have ih:=mem_compactUpTo (d:=d) (x:=x) (m:=m) (by omega)
  rw [Lib.compactUpTo_succ,List.mem_append,ih]
  by_cases hk:Lib.keeps d m=true
  ·rw [if_pos hk,List.mem_singleton]
   constructor
   ·rintro (⟨j,hj,rfl⟩ | rfl)
    ·exact ⟨j,by omega,rfl⟩
    exact ⟨m,by omega,rfl⟩
   rintro ⟨j,hj,rfl⟩
   by_cases hjm:j=m
   ·right;rw [hjm]
   left;exact ⟨j,by omega,rfl⟩
  rw [if_neg hk]
  have hk':m≠0/\d[m]! = d[m - 1]! := by
   simp only [Lib.keeps,decide_eq_true_eq,not_or,Decidable.not_not] at hk
   exact hk
  constructor
  ·rintro (⟨j,hj,rfl⟩ | h)
   ·exact ⟨j,by omega,rfl⟩
   cases h
  rintro ⟨j,hj,rfl⟩
  left
  by_cases hjm:j=m
  ·exact ⟨m - 1,by omega,by rw [hjm,hk'.2]⟩
  exact ⟨j,by omega,rfl⟩
theorem mem_compact {l:List α} {x:α}:x∈Lib.compact l↔x∈l:=by
 unfold Lib.compact
 rw [mem_compactUpTo (by simp),List.mem_iff_getElem]
 constructor
 ·rintro ⟨j,hj,h⟩
  refine ⟨j,hj, ?_⟩
  rw [<- h]
  simp [hj]
 rintro ⟨j,hj,h⟩
 refine ⟨j,hj, ?_⟩
 rw [<- h]
 simp [hj]
end
theorem all_mem {α:Type} {a b:List α} (p:α->Bool) (h:∀ x,x∈a↔x∈b):a.all p=b.all p:=by
 rw [Bool.eq_iff_iff,List.all_eq_true,List.all_eq_true]
 exact ⟨fun k x hx=>k x ((h x).2 hx),fun k x hx=>k x ((h x).1 hx)⟩
def prevOf {α:Type} (l:List α) (j:Nat):Option α:=if j=0 then none else l[j - 1]?
theorem prevOf_zero {α:Type} (l:List α):prevOf l 0=none:=rfl
theorem prevOf_succ {α:Type} {l:List α} {j:Nat} {x:α} (h:l[j]? = some x):prevOf l (j+1)=some x:=by unfold prevOf;rw [if_neg (by omega)];exact h
theorem ckFlags_step {fs:List W} {j:Nat} {f:W} (h:fs[j]? = some f) :
  ckFlags (prevOf fs j) (fs.drop j)=if isName f=false then 1 else if badNext (prevOf fs j) f=true then 6 else ckFlags (prevOf fs (j+1)) (fs.drop (j+1)):=by
 rw [prevOf_succ h]
 obtain ⟨hj,rfl⟩:=List.getElem?_eq_some_iff.1 h
 rw [List.drop_eq_getElem_cons hj]
 rfl
theorem ckFlags_done {fs:List W} {j:Nat} (h:fs.length<=j) {p:Option W}:ckFlags p (fs.drop j)=0:=by
 rw [List.drop_eq_nil_of_le h];rfl
theorem ckT_step {ps:List Pk} {j n:Nat} {p:Pk} (h:ps[j]? = some p) :
  ckT (prevOf ps j) n (ps.drop j)=if ckPk p≠0 then ckPk p else if badPk (prevOf ps j) p=true then 6 else if 14<n+p.fs.length then 2 else ckT (prevOf ps (j+1)) (n+p.fs.length) (ps.drop (j+1)):=by
 rw [prevOf_succ h]
 obtain ⟨hj,rfl⟩:=List.getElem?_eq_some_iff.1 h
 rw [List.drop_eq_getElem_cons hj]
 rfl
theorem ckT_done {ps:List Pk} {j n:Nat} (h:ps.length<=j) {p:Option Pk}:ckT p n (ps.drop j)=0:=by
 rw [List.drop_eq_nil_of_le h];rfl
end Qm

namespace Go.Proofs.YtedbhlgjcnnknaaGreatDoor
open Go.RowKit Qm
def fitsP (a:At) (v sl:Int):Bool:=
 if a.slot≠0/\a.slot≠sl then false
 else if a.op=1 then decide (v=a.ver) else if a.op=2 then decide (a.ver<=v) else if a.op=3 then decide (v<a.ver) else true
end Go.Proofs.YtedbhlgjcnnknaaGreatDoor
