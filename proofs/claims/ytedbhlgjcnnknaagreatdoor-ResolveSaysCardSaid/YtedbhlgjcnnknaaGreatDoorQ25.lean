/- Parts. -/
import Derived.Test.YtedbhlgjcnnknaaGreatDoorQ24
import Derived.Test.YtedbhlgjcnnknaaGreatDoorQ22
import Derived.StringKeys
set_option linter.unusedVariables false
set_option linter.unusedSimpArgs false
set_option linter.unusedSectionVars false
set_option maxRecDepth 100000
set_option maxHeartbeats 12800000
namespace Go.Proofs.YtedbhlgjcnnknaaGreatDoor
section
open Go.RowKit Qm
theorem rfits_any (s f:ByteArray) (op ver slot v sl:Int) (on:Bool) (w:World) :
  Calls Tryz.prog 122 #[atv s op ver slot f on,.int .i64 v,.int .i64 sl] w fun e w'=>e=.returned (.bool (fitsP (atOf s op ver slot f on) v sl))/\Below w.heap.size w w':=by
 have BN:=qh (Boxed.new w s op ver slot f on (t:=75))
 unfold atv
 by_cases z:slot=0
 ·subst z
  by_cases a1:op=1
  ·subst a1
   go_enter Tryz.func122,Tryz.ntmps122
   go_wp2
   go_ret
   exact ⟨ret_bool (by rw [Bool.eq_iff_iff];simp [fitsP,atOf, *] <;> exact decide_eq_true_iff.symm),(qbr _ _).alloc (qr _) _⟩
  have b1:(op == 1)=false:=by simpa using a1
  by_cases a2:op=2
  ·subst a2
   go_enter Tryz.func122,Tryz.ntmps122
   go_wp2
   go_ret
   exact ⟨ret_bool (by rw [Bool.eq_iff_iff];simp [fitsP,atOf, *] <;> exact decide_eq_true_iff.symm),(qbr _ _).alloc (qr _) _⟩
  have b2:(op == 2)=false:=by simpa using a2
  by_cases a3:op=3
  ·subst a3
   go_enter Tryz.func122,Tryz.ntmps122
   go_wp2
   go_ret
   exact ⟨ret_bool (by rw [Bool.eq_iff_iff];simp [fitsP,atOf, *] <;> exact decide_eq_true_iff.symm),(qbr _ _).alloc (qr _) _⟩
  have b3:(op == 3)=false:=by simpa using a3
  go_enter Tryz.func122,Tryz.ntmps122
  go_wp2
  go_ret
  exact ⟨ret_bool (by rw [Bool.eq_iff_iff];simp [fitsP,atOf, *] <;> exact decide_eq_true_iff.symm),(qbr _ _).alloc (qr _) _⟩
 have z1:(slot == 0)=false:=by simpa using z
 by_cases y:slot=sl
 ·have y1:(slot == sl)=true:=by simpa using y
  by_cases a1:op=1
  ·subst a1
   go_enter Tryz.func122,Tryz.ntmps122
   go_wp2
   go_ret
   exact ⟨ret_bool (by rw [Bool.eq_iff_iff];simp [fitsP,atOf, *] <;> exact decide_eq_true_iff.symm),(qbr _ _).alloc (qr _) _⟩
  have b1:(op == 1)=false:=by simpa using a1
  by_cases a2:op=2
  ·subst a2
   go_enter Tryz.func122,Tryz.ntmps122
   go_wp2
   go_ret
   exact ⟨ret_bool (by rw [Bool.eq_iff_iff];simp [fitsP,atOf, *] <;> exact decide_eq_true_iff.symm),(qbr _ _).alloc (qr _) _⟩
  have b2:(op == 2)=false:=by simpa using a2
  by_cases a3:op=3
  ·subst a3
   go_enter Tryz.func122,Tryz.ntmps122
   go_wp2
   go_ret
   exact ⟨ret_bool (by rw [Bool.eq_iff_iff];simp [fitsP,atOf, *] <;> exact decide_eq_true_iff.symm),(qbr _ _).alloc (qr _) _⟩
  have b3:(op == 3)=false:=by simpa using a3
  go_enter Tryz.func122,Tryz.ntmps122
  go_wp2
  go_ret
  exact ⟨ret_bool (by rw [Bool.eq_iff_iff];simp [fitsP,atOf, *] <;> exact decide_eq_true_iff.symm),(qbr _ _).alloc (qr _) _⟩
 have y1:(slot == sl)=false:=by simpa using y
 by_cases a1:op=1
 ·subst a1
  go_enter Tryz.func122,Tryz.ntmps122
  go_wp2
  go_ret
  exact ⟨ret_bool (by rw [Bool.eq_iff_iff];simp [fitsP,atOf, *] <;> exact decide_eq_true_iff.symm),(qbr _ _).alloc (qr _) _⟩
 have b1:(op == 1)=false:=by simpa using a1
 by_cases a2:op=2
 ·subst a2
  go_enter Tryz.func122,Tryz.ntmps122
  go_wp2
  go_ret
  exact ⟨ret_bool (by rw [Bool.eq_iff_iff];simp [fitsP,atOf, *] <;> exact decide_eq_true_iff.symm),(qbr _ _).alloc (qr _) _⟩
 have b2:(op == 2)=false:=by simpa using a2
 by_cases a3:op=3
 ·subst a3
  go_enter Tryz.func122,Tryz.ntmps122
  go_wp2
  go_ret
  exact ⟨ret_bool (by rw [Bool.eq_iff_iff];simp [fitsP,atOf, *] <;> exact decide_eq_true_iff.symm),(qbr _ _).alloc (qr _) _⟩
 have b3:(op == 3)=false:=by simpa using a3
 go_enter Tryz.func122,Tryz.ntmps122
 go_wp2
 go_ret
 exact ⟨ret_bool (by rw [Bool.eq_iff_iff];simp [fitsP,atOf, *] <;> exact decide_eq_true_iff.symm),(qbr _ _).alloc (qr _) _⟩
end
section
open Go.RowKit Qm
theorem ixOf_found {f:Qm.W}:∀ {l:List Qm.W} {i:Nat},(∀ x∈l.take i,x≠f)->l[i]? = some f->ixOf f l=some i
 | [],i,_,h=>by simp at h
 | g :: r,0,_,h=>by
  simp only [qgz,Option.some.injEq] at h
  simp [ixOf,h]
 | g :: r,i+1,h,h2=>by
  rw [qgs] at h2
  have hg:g≠f:=h g (by simp)
  have:=ixOf_found (f:=f) (l:=r) (i:=i) (fun x hx=>h x (by simp [hx])) h2
  simp only [ixOf]
  rw [if_neg hg,this];rfl
theorem ixOf_all {f:Qm.W} {l:List Qm.W} {n:Nat} (hn:l.length<=n) (h:∀ x∈l.take n,x≠f):ixOf f l=none:=by
 rw [List.take_of_length_le hn] at h
 exact ixOf_none.2 fun hf=>h f hf rfl
theorem take_ne {f g:Qm.W} {l:List Qm.W} {i:Nat} (h:∀ x∈l.take i,x≠f) (hg:l[i]? = some g) (hne:g≠f):∀ x∈l.take (i+1),x≠f:=by
 obtain ⟨hi,rfl⟩:=List.getElem?_eq_some_iff.1 hg
 intro x hx
 rw [List.take_succ_eq_append_getElem hi,List.mem_append,List.mem_singleton] at hx
 rcases hx with hx | rfl
 ·exact h x hx
 exact hne
theorem ris_any (ps:List Pk) (m:Mem) (a:At) (S:Nat->Prop) (A B:Option Addr) (n c k d:Nat) (w:World) (hT:RTree w S A n ps) (hB:RBools w S B k m.on) (hkd:k<=d) (hm:MemOk ps m) (hS:∀ k,S k->k<w.heap.size) (hn8:n<=8) (hfs:∀ p∈ps,∀ f∈p.fs,f≠[]) (h1:a.nm.length<=maxLen) (h2:a.fl.length<=maxLen) :
  Calls Tryz.prog 99 #[.agg #[.slice A n c],.agg #[.int .i64 m.pl,.slice B k d],.agg #[.string ⟨a.nm.toArray⟩,.int .i64 a.op,.int .i64 a.ver,.int .i64 a.slot,.string ⟨a.fl.toArray⟩,.bool a.on]] w fun e w'=>e=.returned (.bool (isA ps m a))/\Below w.heap.size w w':=by
 obtain ⟨hm0,hm1,hm2⟩:=hm
 have hl:=hT.len
 obtain ⟨pl,on⟩:=m
 dsimp only at hm0 hm1 hm2 hB ⊢
 obtain ⟨j,rfl⟩:∃ j:Nat,pl=j:=⟨pl.toNat,by omega⟩
 have hjn:j<n:=by omega
 obtain ⟨b,o,p,D,q,c',kd,pa,f,no,E,r,d',rfl,hbS,hp,hP,hcell⟩:=hT.at_ hjn
 rw [pkOf_at hp] at hm2
 have HNE:=qh (hfs p (List.mem_of_getElem? hp))
 clear hfs
 have HC:Hid (isA ps ⟨(j:Int),on⟩ a=(decide (p.nm=a.nm) && (fitsP a p.ver p.slot && (decide (a.fl=[]) || flagIs p ⟨(j:Int),on⟩ a)))):=qh (by unfold isA;rw [pkOf_at hp])
 have HF:Hid (flagIs p ⟨(j:Int),on⟩ a=match ixOf a.fl p.fs with | some i=>onOf on i == a.on | none=>false):=qh rfl
 generalize isA ps ⟨(j:Int),on⟩ a=R at HC ⊢
 generalize flagIs p ⟨(j:Int),on⟩ a=fl at HC HF
 obtain ⟨g0,g1,g2,g3,g4,g5,g6,g7,g8,g9,g10,g11,g12,g13⟩:=cb14 hcell (by decide)
 unfold pkRow ndRow at g0 g1 g2 g3 g4 g5 g6 g7 g8 g9 g10 g11 g12 g13
 simp only [qgz,qgs,Nat.add_zero] at g0 g1 g2 g3 g4 g5 g6 g7 g8 g9 g10 g11 g12 g13
 clear hcell hp
 have hbl:b<w.heap.size:=hS b hbS
 have hbl_1:b<w.heap.size+1:=by omega
 have hbl_2:b<w.heap.size+1+1:=by omega
 have I0:=qh (Ib.new w (some ⟨b,o,none⟩) n c [.int .i64 (j:Int),.slice B k d] [.string ⟨a.nm.toArray⟩,.int .i64 a.op,.int .i64 a.ver,.int .i64 a.slot,.string ⟨a.fl.toArray⟩,.bool a.on])
 have P1:=qh (Whole.new (((w.alloc (.cells #[.slice (some ⟨b,o,none⟩) n c] 24)).alloc (.cells #[.int .i64 (j:Int),.slice B k d] 85)).alloc (.cells #[.string ⟨a.nm.toArray⟩,.int .i64 a.op,.int .i64 a.ver,.int .i64 a.slot,.string ⟨a.fl.toArray⟩,.bool a.on] 75)) (w.heap.size+1+1+1) 101 (pkRow p D q c' (ndRow kd pa f no E r d')) (by simp))
 have I1:=qh (I0.out.move ((qbr _ (((w.alloc (.cells #[.slice (some ⟨b,o,none⟩) n c] 24)).alloc (.cells #[.int .i64 (j:Int),.slice B k d] 85)).alloc (.cells #[.string ⟨a.nm.toArray⟩,.int .i64 a.op,.int .i64 a.ver,.int .i64 a.slot,.string ⟨a.fl.toArray⟩,.bool a.on] 75))).alloc (qr _) (.cells (pkRow p D q c' (ndRow kd pa f no E r d')).toArray 101)))
 have HFS:=qh hP.fs.row
 have HBO:=qh hB
 have HPm:=qh (qlt hP.cap hP.max)
 have HBl:=qh hB.len
 have HFl:=qh hP.fs.len
 have HS:=qh hS
 have hft:=fun wx=>rfits_any ⟨a.nm.toArray⟩ ⟨a.fl.toArray⟩ a.op a.ver a.slot p.ver p.slot a.on wx
 rw [atOf_mk] at hft
 unfold atv at hft
 have Hft:=qh hft
 clear hT hB hP hS hft I0
 obtain ⟨nm,ver,slot,fs,nd⟩:=p
 unfold pkRow ndRow at P1 I1
 dsimp only at g0 g1 g2 g3 g4 g5 g6 g7 g8 g9 g10 g11 g12 g13 P1 I1 HFS Hft HC HF HFl hm2
 generalize fitsP a ver slot=ft at Hft HC
 have hj1:(j:Int)<n:=by omega
 by_cases hn:nm=a.nm
 ·subst hn
  have H1:Hid (R=(ft && (decide (a.fl=[]) || fl))):=qh (by rw [HC.out];simp)
  clear HC
  cases ft
  ·have HE:Hid (R=false):=qh (by rw [H1.out];rfl)
   go_enter Tryz.func99,Tryz.ntmps99
   go_wp2_with (first | (go_at_call 122;refine (Hft.out _).mono ?_;rintro e w4 ⟨rfl,hb4⟩;refine Hid.out ?_))
   refine qh ?_
   have P4:=qh (P1.out.below hb4 P1.out.lt)
   have I4:=qh (I1.out.move hb4)
   clear hb4
   go_wp2
   go_ret
   exact ⟨ret_bool HE.out.symm,I4.out.bel⟩
  have H2:Hid (R=(decide (a.fl=[]) || fl)):=qh (by rw [H1.out];rfl)
  clear H1
  have hqm:q<=9223372036854775807:=by have:=HPm.out;unfold maxLen at this;omega
  go_enter Tryz.func99,Tryz.ntmps99
  go_wp2_with (first | (go_at_call 122;refine (Hft.out _).mono ?_;rintro e w4 ⟨rfl,hb4⟩;refine Hid.out ?_))
  refine qh ?_
  have P4:=qh (P1.out.below hb4 P1.out.lt)
  have I4:=qh (I1.out.move hb4)
  clear hb4
  have p3:=P4.out.cell 3
  simp only [qgz,qgs] at p3
  have plt:=P4.out.lt
  go_wp2
  clear p3 plt
  go_loopg [33] q (fun g iv wr=>∃ i:Nat,Hid (i+g=q)/\iv=.int .i64 i/\Hid (∀ x∈fs.take i,x≠a.fl)/\Hid (Below w4.heap.size w4 wr))
  case atStart=>exact ⟨0,qh (Nat.zero_add _),rfl,qh (fun x hx=>by simp at hx),qh (qbr _ _)⟩
  case round =>
   obtain ⟨i,Hi,rfl,Hne,HB⟩:=hrel
   have IR:=qh (I4.out.move HB.out)
   by_cases hi:i<q
   ·obtain ⟨b3,o3,rfl,hb3,hc3⟩:=(HFS.out.below (w':=wr) IR.out.bel HS.out).at_ hi
    have hlb3:b3<wr.heap.size:=ql (HS.out _ hb3) IR.out.bel.size
    have hgi:fs[i]? = some (fs[i]'(by rw [HFl.out];exact hi)):=qge _
    generalize fs[i]'(by rw [HFl.out];exact hi)=g at hgi
    rw [strs,qgm,hgi] at hc3
    dsimp only [Option.map_some] at hc3
    have HG:=qh hgi
    clear hgi
    have a4:=IR.out.a.cell 4;have a5:=IR.out.a.cell 5
    have m1:=IR.out.m.cell 1
    simp only [qgz,qgs] at a4 a5 m1
    have alt:=IR.out.a.lt
    by_cases hg:g=a.fl
    ·subst hg
     have hix:=ixOf_found Hne.out HG.out
     have hne:=HNE.out _ (List.mem_of_getElem? HG.out)
     obtain ⟨b2,o2,rfl,hb2,hbc⟩:=HBO.out.at_ (k:=i) (by rw [<- HBl.out,hm2,HFl.out];exact hi)
     have hik:(i:Int)<k:=by have:=HBl.out;have:=HFl.out;omega
     have hbl2:=HS.out b2 hb2
     have HE:Hid (R=(on.getD i false == a.on)):=qh (by rw [H2.out,HF.out,hix,qdf hne];rfl)
     generalize on.getD i false=ob at hbc HE
     have ob4:=(IR.out.bel.cell (p:=⟨b2,o2+i,none⟩) hbl2).trans hbc
     have hgg:(a.fl == a.fl)=true:=by simp
     have hi0:(0:Int)<=(i:Int):=by omega
     clear hix hne hbc hm2
     go_wp2
     go_quiet (fail)
     go_wp2
     go_ret
     exact ⟨ret_bool HE.out.symm,below_drewN IR.out.bel _⟩
    have hgg:(g == a.fl)=false:=by simpa using hg
    have HN:=qh (take_ne Hne.out HG.out hg)
    clear hg
    go_wp2
    go_roundg (gk - 1)
    case measure=>have:=Hi.out;omega
    case rel=>exact ⟨i+1,qh (by have:=Hi.out;omega),by go_num,HN,HB⟩
   obtain rfl:q=i:=by have:=Hi.out;omega
   have hix:=ixOf_all (f:=a.fl) (l:=fs) (Nat.le_of_eq HFl.out) Hne.out
   have HE0:Hid (R=decide (a.fl=[])):=qh (by rw [H2.out,HF.out,hix];simp)
   have a4:=IR.out.a.cell 4
   simp only [qgz,qgs] at a4
   have alt:=IR.out.a.lt
   clear hix
   by_cases hfl:a.fl=[]
   ·have HE:Hid (R=true):=qh (by rw [HE0.out,qdt hfl])
    have Hfl:=qh hfl;clear hfl
    rw [Hfl.out] at a4
    go_wp2
    go_ret
    exact ⟨ret_bool HE.out.symm,IR.out.bel⟩
   have HE:Hid (R=false):=qh (by rw [HE0.out,qdf hfl])
   have hf1:(a.fl == [])=false:=by simpa using hfl
   have hf2:a.fl.isEmpty=false:=by simpa using hfl
   clear hfl
   go_wp2
   go_ret
   exact ⟨ret_bool HE.out.symm,IR.out.bel⟩
 have hn':(a.nm == nm)=false:=by rw [beq_eq_false_iff_ne];exact fun e=>hn e.symm
 have HE:Hid (R=false):=qh (by rw [HC.out,qdf hn];rfl)
 go_enter Tryz.func99,Tryz.ntmps99
 go_wp2
 go_ret
 exact ⟨ret_bool HE.out.symm,I1.out.bel⟩
end
section
open Go.RowKit Qm
def cntM (q:Mem->Bool) (but:Int):Nat->List Mem->Nat
 | _,[]=>0
 | i,m :: r=>(if (i:Int)≠but/\q m=true then 1 else 0)+cntM q but (i+1) r
theorem cntM_step {q:Mem->Bool} {but:Int} {l:List Mem} {i:Nat} {m:Mem} (h:l[i]? = some m):cntM q but i (l.drop i)=(if (i:Int)≠but/\q m=true then 1 else 0)+cntM q but (i+1) (l.drop (i+1)):=by
 obtain ⟨hi,rfl⟩:=List.getElem?_eq_some_iff.1 h
 rw [List.drop_eq_getElem_cons hi];rfl
theorem cntM_le {q:Mem->Bool} {but:Int}:∀ {l:List Mem} {i:Nat},cntM q but i l<=l.length
 | [],_=>qr _
 | m :: r,i=>by
  have:=cntM_le (q:=q) (but:=but) (l:=r) (i:=i+1)
  simp only [cntM,List.length_cons];split <;> omega
theorem cntM_any {q:Mem->Bool}:∀ {l:List Mem} {i:Nat},0<cntM q (-1) i l↔l.any q=true
 | [],_=>by simp [cntM]
 | m :: r,i=>by
  have ih:=cntM_any (q:=q) (l:=r) (i:=i+1)
  have hi:(i:Int) ≠ -1:=by omega
  rw [List.any_cons,Bool.or_eq_true,<- ih]
  show 0<(if (i:Int) ≠ -1/\q m=true then 1 else 0)+cntM q (-1) (i+1) r↔_
  by_cases hq:q m=true
  ·rw [if_pos ⟨hi,hq⟩];constructor
   ·intro _;exact .inl hq
   intro _;omega
  rw [if_neg (fun e=>hq e.2),Nat.zero_add];constructor
  ·intro h;exact .inr h
  intro h;exact h.resolve_left hq
theorem cntM_block {q:Mem->Bool} {k:Nat}:∀ {l:List Mem} {i:Nat},cntM q (k:Int) i l=0↔blockB q k i l=true
 | [],_=>by simp [cntM,blockB]
 | m :: r,i=>by
  have ih:=cntM_block (q:=q) (k:=k) (l:=r) (i:=i+1)
  show (if (i:Int)≠(k:Int)/\q m=true then 1 else 0)+cntM q (k:Int) (i+1) r=0↔(if i≠k/\q m=true then false else blockB q k (i+1) r)=true
  by_cases h:i≠k/\q m=true
  ·rw [if_pos h,if_pos (show (i:Int)≠(k:Int)/\q m=true from ⟨by omega,h.2⟩)]
   constructor
   ·intro h;omega
   intro h;cases h
  rw [if_neg h,if_neg (fun e=>h ⟨by omega,e.2⟩),Nat.zero_add,ih]
structure Mb (bt bl:Nat) (A B:Option Addr) (n c k d:Nat) (wx:World):Prop where
 t:Whole wx bt 24 [.slice A n c]
 l:Whole wx bl 26 [.slice B k d]
theorem Mb.move {bt bl:Nat} {A B:Option Addr} {n c k d:Nat} {wx wy:World} (h:Mb bt bl A B n c k d wx) (hb:Below wx.heap.size wx wy):Mb bt bl A B n c k d wy:=⟨h.t.below hb h.t.lt,h.l.below hb h.l.lt⟩
theorem rmany_any (ps:List Pk) (l:List Mem) (a:At) (but:Int) (S:Nat->Prop) (A B:Option Addr) (n c k d bt bl:Nat) (w:World) (hT:RTree w S A n ps) (hL:RSet w S B k l) (hk:k<=maxLen) (hok:∀ m∈l,MemOk ps m) (hS:∀ k,S k->k<w.heap.size) (hn8:n<=8) (hfs:∀ p∈ps,∀ f∈p.fs,f≠[])
  (h1:a.nm.length<=maxLen) (h2:a.fl.length<=maxLen) (hM:Mb bt bl A B n c k d w) (hbut : -1<=but) :
  Calls Tryz.prog 124 #[.agg #[.string ⟨a.nm.toArray⟩,.int .i64 a.op,.int .i64 a.ver,.int .i64 a.slot,.string ⟨a.fl.toArray⟩,.bool a.on],.int .i64 but,.pointer (some ⟨bl,0,none⟩),.pointer (some ⟨bt,0,none⟩)] w fun e w'=>e=.returned (.int .i64 (cntM (fun m=>isA ps m a) but 0 l))/\Below w.heap.size w w':=by
 have Hll:=qh hL.len
 have hba:=(qbr w.heap.size w).alloc (qr _) (.cells #[.string ⟨a.nm.toArray⟩,.int .i64 a.op,.int .i64 a.ver,.int .i64 a.slot,.string ⟨a.fl.toArray⟩,.bool a.on] 75)
 have M1:=qh (hM.move hba)
 have A1:=qh (Whole.new w w.heap.size 75 [.string ⟨a.nm.toArray⟩,.int .i64 a.op,.int .i64 a.ver,.int .i64 a.slot,.string ⟨a.fl.toArray⟩,.bool a.on] rfl)
 have HB1:=qh hba
 have HT:=qh hT;have HL:=qh hL;have HS:=qh hS;have HOK:=qh hok
 have His:=qh (fun m B k d wx h1x h2x h3x h4x h5x=>ris_any ps m a S A B n c k d wx h1x h2x h3x h4x h5x hn8 hfs h1 h2)
 have HC:Hid (cntM (fun m=>isA ps m a) but 0 l=cntM (fun m=>isA ps m a) but 0 (l.drop 0)):=qh rfl
 obtain ⟨R,hR⟩:∃ R,R=cntM (fun m=>isA ps m a) but 0 l:=⟨_,rfl⟩
 rw [<- hR]
 have HR:=qh hR
 have hRk:R<=k:=by rw [hR,<- Hll.out];exact cntM_le
 clear hba hT hL hS hok hM hR hfs HC
 unfold maxLen at hk
 have l0:=M1.out.l.cell 0
 simp only [qgz] at l0
 go_enter Tryz.func124,Tryz.ntmps124
 go_wp2
 clear l0
 generalize w.alloc _=w1 at M1 A1 HB1 ⊢
 go_loopg [7,12] k (fun g cv iv wr=>∃ i z:Nat,Hid (i+g=k)/\iv=.int .i64 i/\cv=.int .i64 z/\Hid (R=z+cntM (fun m=>isA ps m a) but i (l.drop i))/\Hid (Below w1.heap.size w1 wr))
 case atStart=>exact ⟨0,0,qh (Nat.zero_add _),rfl,rfl,qh (by rw [HR.out,Nat.zero_add];rfl),qh (qbr _ _)⟩
 case round =>
  obtain ⟨i,z,Hi,rfl,rfl,HZ,HB⟩:=hrel
  have MR:=qh (M1.out.move HB.out)
  have AR:=qh (A1.out.below HB.out A1.out.lt)
  have HBw:=qh (HB1.out.trans (HB.out.mono HB1.out.size))
  by_cases hi:i<k
  ·obtain ⟨b,o,m,E,q,r,rfl,hbS,hm,hqr,hr,hon,g0,g1⟩:=(HL.out.under HBw.out HS.out).at_ hi
   have Hst:=qh (cntM_step (q:=fun m=>isA ps m a) (but:=but) hm)
   have hmo:=HOK.out m (List.mem_of_getElem? hm)
   have hbl:b<wr.heap.size:=ql (HS.out _ hbS) HBw.out.size
   have hzk:z<=k:=by have:=HZ.out;omega
   have hb2:=(qbr wr.heap.size wr).alloc (qr _) (.cells #[.int .i64 m.pl,.slice E q r] 85)
   have HB2:=qh hb2
   have hc:=His.out m E q r _ (HT.out.under (HBw.out.trans (hb2.mono HBw.out.size)) HS.out) (Row.keep hon fun p hp=>hb2.cell (ql (HS.out _ hp) HBw.out.size)) hqr hmo (fun x hx=>ql (HS.out x hx) (qlt HBw.out.size hb2.size))
   obtain ⟨pl,on⟩:=m
   dsimp only at g0 g1 hc hb2 HB2
   generalize isA ps ⟨pl,on⟩ a=x at hc Hst
   have Hc:=qh hc
   clear hc hb2 hm hmo hon
   have t0:=MR.out.t.cell 0
   have l0:=MR.out.l.cell 0
   obtain ⟨a0,a1,a2,a3,a4,a5⟩:=ch6 AR.out.cell
   simp only [qgz,qgs] at t0 l0 a0 a1 a2 a3 a4 a5
   have tlt:=MR.out.t.lt;have llt:=MR.out.l.lt;have alt:=AR.out.lt
   by_cases hib:(i:Int)=but
   ·have h3:((i:Int) != but)=false:=by simpa using hib
    have HN:Hid (R=z+cntM (fun m=>isA ps m a) but (i+1) (l.drop (i+1))):=qh (by rw [HZ.out,Hst.out,if_neg (fun e=>e.1 hib)];omega)
    clear hib
    go_wp2
    go_roundg (gk - 1)
    case measure=>have:=Hi.out;omega
    case rel=>exact ⟨i+1,z,qh (by have:=Hi.out;omega),by go_num,rfl,HN,qh (HB.out.trans (HB2.out.mono HB.out.size))⟩
   have h3:((i:Int) != but)=true:=by simpa using hib
   cases x
   ·have HN:Hid (R=z+cntM (fun m=>isA ps m a) but (i+1) (l.drop (i+1))):=qh (by rw [HZ.out,Hst.out,if_neg (fun e=>by simp at e)];omega)
    clear hib
    go_wp2_with (first | (go_at_call 99;refine Hc.out.mono ?_;rintro e w3 ⟨rfl,hb3⟩;refine Hid.out ?_))
    refine qh ?_
    have HB3:=qh (HB2.out.trans (hb3.mono HB2.out.size))
    clear hb3
    go_wp2
    go_roundg (gk - 1)
    case measure=>have:=Hi.out;omega
    case rel=>exact ⟨i+1,z,qh (by have:=Hi.out;omega),by go_num,rfl,HN,qh (HB.out.trans (HB3.out.mono HB.out.size))⟩
   have HN:Hid (R=z+1+cntM (fun m=>isA ps m a) but (i+1) (l.drop (i+1))):=qh (by rw [HZ.out,Hst.out,if_pos ⟨hib,rfl⟩];omega)
   have hz1:z+1<=k:=by have:=HN.out;omega
   clear hib
   go_wp2_with (first | (go_at_call 99;refine Hc.out.mono ?_;rintro e w3 ⟨rfl,hb3⟩;refine Hid.out ?_))
   refine qh ?_
   have HB3:=qh (HB2.out.trans (hb3.mono HB2.out.size))
   clear hb3
   go_wp2
   go_roundg (gk - 1)
   case measure=>have:=Hi.out;omega
   case rel=>exact ⟨i+1,z+1,qh (by have:=Hi.out;omega),by go_num,by go_num,HN,qh (HB.out.trans (HB3.out.mono HB.out.size))⟩
  obtain rfl:k=i:=by have:=Hi.out;omega
  have HE:Hid (R=z):=qh (by rw [HZ.out,List.drop_eq_nil_of_le (by have:=Hll.out;omega)];rfl)
  go_wp2
  go_ret
  exact ⟨ret_int (by rw [HE.out]),HBw.out⟩
end
section
open Go.RowKit Qm
def cntH (P:Nd->Bool) (ks:List Nd) (i:Nat):Nat:=((ks.take i).filter P).length
theorem cntH_step {P:Nd->Bool} {ks:List Nd} {i:Nat} {y:Nd} (h:ks[i]? = some y):cntH P ks (i+1)=cntH P ks i+(if P y=true then 1 else 0):=by
 obtain ⟨hi,rfl⟩:=List.getElem?_eq_some_iff.1 h
 unfold cntH
 rw [List.take_succ_eq_append_getElem hi,List.filter_append,List.length_append,List.filter_cons]
 split <;> rfl
theorem cntH_le {P:Nd->Bool} {ks:List Nd} {i:Nat}:cntH P ks i<=ks.length:=by
 unfold cntH
 have:=List.length_filter_le P (ks.take i)
 rw [List.length_take] at this;omega
theorem cntH_ix {P:Nd->Bool} {ks:List Nd} {i:Nat}:cntH P ks i<=i:=by
 unfold cntH
 have:=List.length_filter_le P (ks.take i)
 rw [List.length_take] at this;omega
theorem cntH_any {P:Nd->Bool} {ks:List Nd} {i:Nat} (hi:ks.length<=i):decide (0<(cntH P ks i:Int))=ks.any P:=by
 unfold cntH
 rw [List.take_of_length_le hi]
 by_cases h:ks.any P=true
 ·rw [h]
  obtain ⟨x,hx,hp⟩:=List.any_eq_true.1 h
  have:=List.length_pos_of_mem (List.mem_filter.2 ⟨hx,hp⟩)
  exact qdt (by omega)
 have hf:ks.any P=false:=by simpa using h
 rw [hf]
 have:ks.filter P=[]:=List.filter_eq_nil_iff.2 fun x hx hp=>h (List.any_eq_true.2 ⟨x,hx,hp⟩)
 rw [this];rfl
theorem cntH_all {P:Nd->Bool} {ks:List Nd} {i:Nat} (hi:ks.length<=i):((cntH P ks i:Int) == (ks.length:Int))=ks.all P:=by
 unfold cntH
 rw [List.take_of_length_le hi,Bool.eq_iff_iff,beq_iff_eq,List.all_eq_true]
 constructor
 ·intro h x hx
  have:(ks.filter P).length=ks.length:=by omega
  exact List.length_filter_eq_length_iff.1 this x hx
 intro h
 rw [List.filter_eq_self.2 h]
structure Rb (w:World) (A:Option Addr) (n c:Nat) (B:Option Addr) (q d:Nat) (nr:List Value) (wx:World):Prop where
 t:Whole wx w.heap.size 24 [.slice A n c]
 l:Whole wx (w.heap.size+1) 26 [.slice B q d]
 n:Whole wx (w.heap.size+1+1) 99 nr
 bel:Below w.heap.size w wx
theorem Rb.move {w:World} {A:Option Addr} {n c:Nat} {B:Option Addr} {q d:Nat} {nr:List Value} {wx wy:World} (h:Rb w A n c B q d nr wx) (hb:Below wx.heap.size wx wy):Rb w A n c B q d nr wy:=
 ⟨h.t.below hb h.t.lt,h.l.below hb h.l.lt,h.n.below hb h.n.lt,h.bel.trans (hb.mono h.bel.size)⟩
theorem Rb.new (w:World) (A:Option Addr) (n c:Nat) (B:Option Addr) (q d:Nat) (nr:List Value) :
  Rb w A n c B q d nr (((w.alloc (.cells #[.slice A n c] 24)).alloc (.cells #[.slice B q d] 26)).alloc (.cells nr.toArray 99)):=by
 have h1:=Whole.new w _ 24 [.slice A n c] rfl
 have h2:=Whole.new (w.alloc (.cells #[.slice A n c] 24)) (w.heap.size+1) 26 [.slice B q d] (by simp)
 exact ⟨(h1.alloc _).alloc _,h2.alloc _,Whole.new _ _ _ nr (by simp),(((qbr _ w).alloc (qr _) _).alloc (by simp) _).alloc (by simp;omega) _⟩
theorem ifOff_found {ps:List Pk} {m:Mem} {f:Qm.W} {no:Bool} {i:Nat} (h1:(pkOf ps m.pl).fs[i]? = some f) (hn:(pkOf ps m.pl).fs.Nodup):ifOff ps m f no=(onOf m.on i == no):=by
 have:ixOf f (pkOf ps m.pl).fs=some i:=ixOf_found (fun x hx e=>by
  subst e
  obtain ⟨j,hj,e2⟩:=List.mem_take_iff_getElem.1 hx
  obtain ⟨q1,q2⟩:=List.getElem?_eq_some_iff.1 h1
  have:=List.pairwise_iff_getElem.1 hn j i (by omega) q1 (by omega)
  exact this (e2.trans q2.symm)) h1
 unfold ifOff;rw [this]
theorem rholds_any (ps:List Pk) (l:List Mem) (S:Nat->Prop) (A:Option Addr) (n c:Nat) (B:Option Addr) (q d:Nat) (hfs:∀ p∈ps,∀ f∈p.fs,f≠[]) (hnd:∀ p∈ps,p.fs.Nodup):∀ (y:Nd) (k:Nat) (cx:List Value) (w:World),Cx ps l S A n c B q d w->k<q->RNd w S cx y->(∀ f∈flagsN y,f∈(pkOf ps (memAt l k).pl).fs) ->
  Calls Tryz.prog 101 #[.agg #[.slice A n c],.slice B q d,.int .i64 (k:Int),.agg cx.toArray] w fun e w'=>e=.returned (.bool (holdsN ps l k (memAt l k) y))/\Below w.heap.size w w':=by
 refine Nd.ind fun kd a f no ks ih=>?_
 intro k cx w C hkq hx hfl
 obtain ⟨D,r,e,rfl,hre,he,h1,h2,h3,hK⟩:=hx.open_
 have HC:Hid (holdsN ps l k (memAt l k) (.mk kd a f no ks)=if kd=1 then l.any (fun m=>isA ps m a) else if kd=2 then blockB (fun m=>isA ps m a) k 0 l else if kd=4 then someN ps l k (memAt l k) ks else if kd=5/\ifOff ps (memAt l k) f no=true then true else allN ps l k (memAt l k) ks):=qh rfl
 generalize holdsN ps l k (memAt l k) (.mk kd a f no ks)=R at HC ⊢
 have H5:=qh (Rb.new w A n c B q d (ndRow kd a f no D r e))
 have hll:=C.s.len
 have hkl:k<l.length:=by omega
 have Heach:=qh (fun x (hx:x∈ks) cx' (W:World) (hb:Below w.heap.size w W) (hr:RNd W S cx' x)=>ih x hx k cx' W (C.under hb) hkq hr (fun g hg=>hfl g (by unfold flagsN;exact List.mem_append_right _ (flagsN_kid (k:=kd) (a:=a) (f:=f) (no:=no) hx g hg))))
 have HKD:=qh hK
 have HCX:=qh C
 have HE:=qh he
 have Hkl:=qh hK.len
 have Hmany:=qh (fun (wx:World) (hb:Below w.heap.size w wx) (hM:Mb w.heap.size (w.heap.size+1) A B n c q d wx) (but:Int) (hbut : -1<=but)=>rmany_any ps l a but S A B n c q d w.heap.size (w.heap.size+1) wx (C.under hb).t (C.under hb).s (qlt C.qd C.dm) C.ok (C.under hb).lt C.n8 hfs h1 h2 hM hbut)
 have henter:∀ (args:Array Value) (W:World),(callFunc 124 args).run Tryz.prog W=.ok (.enter 124 args) W:=fun args W=>by kernel_rfl
 have Hll:=qh hll
 have HSK:Hid (∀ i,ks.length<=i->decide (0<(cntH (holdsN ps l k (memAt l k)) ks i:Int))=someN ps l k (memAt l k) ks/\((cntH (holdsN ps l k (memAt l k)) ks i:Int) == (ks.length:Int))=allN ps l k (memAt l k) ks):=qh fun i hi=>⟨by rw [cntH_any hi,someN_eq],by rw [cntH_all hi,allN_eq]⟩
 have HND:=qh hnd
 have HMA:Hid (∀ but,cntM (fun m=>isA ps m a) but 0 l<=l.length):=qh fun but=>cntM_le
 have HM1:Hid (decide (0<(cntM (fun m=>isA ps m a) (-1) 0 l:Int))=l.any (fun m=>isA ps m a)):=qh (by
  rw [Bool.eq_iff_iff,decide_eq_true_eq,<- cntM_any (q:=fun m=>isA ps m a) (l:=l) (i:=0)];omega)
 have HM2:Hid (((cntM (fun m=>isA ps m a) (k:Int) 0 l:Int) == 0)=blockB (fun m=>isA ps m a) k 0 l):=qh (by
  rw [Bool.eq_iff_iff,beq_iff_eq,<- cntM_block (q:=fun m=>isA ps m a) (k:=k) (l:=l) (i:=0)];omega)
 clear hx hfl ih h1 h2 h3 hK hfs hnd hll
 have hqd:=C.qd
 have hdm:=C.dm
 clear C
 unfold maxLen at hdm he
 unfold ndRow at H5 ⊢
 have e9:=H5.out.n.cell 9
 simp only [qgz,qgs] at e9
 go_enter Tryz.func101,Tryz.ntmps101
 go_wp2
 clear e9
 generalize World.alloc (World.alloc (World.alloc w _) _) _=w5 at H5 ⊢
 go_loopg [10,19] r (fun g gv iv wr=>∃ i:Nat,Hid (i+g=r)/\iv=.int .i64 i/\gv=.int .i64 (cntH (holdsN ps l k (memAt l k)) ks i:Int)/\Hid (Rb w A n c B q d [.int .i64 kd,.string ⟨a.nm.toArray⟩,.int .i64 a.op,.int .i64 a.ver,.int .i64 a.slot,.string ⟨a.fl.toArray⟩,.bool a.on,.string ⟨f.toArray⟩,.bool no,.slice D r e] wr))
 case atStart=>exact ⟨0,qh (Nat.zero_add _),rfl,rfl,H5⟩
 case round =>
  obtain ⟨i,Hi,rfl,rfl,HR5⟩:=hrel
  clear H5
  have hcz:cntH (holdsN ps l k (memAt l k)) ks i<=r:=by have:=cntH_le (P:=holdsN ps l k (memAt l k)) (ks:=ks) (i:=i);have:=Hkl.out;omega
  by_cases hi:i<r
  ·obtain ⟨b,o,x,y,rfl,hbS,hy,hxy,hcell⟩:=(HKD.out.under HR5.out.bel HCX.out.lt).at_ hi
   have Hst:=qh (cntH_step (P:=holdsN ps l k (memAt l k)) hy)
   have hyk:=List.mem_of_getElem? hy
   have hbl:b<wr.heap.size:=ql (HCX.out.lt _ hbS) HR5.out.bel.size
   obtain ⟨k2,a2,f2,no2,ks2⟩:=y
   obtain ⟨D2,r2,e2,rfl,_,_,_,_,_,_⟩:=hxy.open_
   have g0:=hcell 0 (by omega);have g1:=hcell 1 (by omega);have g2:=hcell 2 (by omega);have g3:=hcell 3 (by omega);have g4:=hcell 4 (by omega);have g5:=hcell 5 (by omega);have g6:=hcell 6 (by omega);have g7:=hcell 7 (by omega);have g8:=hcell 8 (by omega);have g9:=hcell 9 (by omega)
   have hal:Below wr.heap.size wr (wr.alloc (.cells (ndRow k2 a2 f2 no2 D2 r2 e2).toArray 99)):=(qbr _ _).alloc (qr _) _
   have H6:=qh (HR5.out.move hal)
   have hh:=Heach.out _ hyk (ndRow k2 a2 f2 no2 D2 r2 e2) _ H6.out.bel (hxy.keep fun p hp=>hal.cell (ql (HCX.out.lt _ hp) HR5.out.bel.size))
   unfold ndRow at g0 g1 g2 g3 g4 g5 g6 g7 g8 g9 H6 hh
   simp only [qgz,qgs,Nat.add_zero] at g0 g1 g2 g3 g4 g5 g6 g7 g8 g9
   generalize holdsN ps l k (memAt l k) (.mk k2 a2 f2 no2 ks2)=v at hh Hst
   have Hh:=qh hh
   have HN:Hid (cntH (holdsN ps l k (memAt l k)) ks (i+1)=cntH (holdsN ps l k (memAt l k)) ks i+(if v=true then 1 else 0)):=Hst
   clear hcell hxy hh hy hyk hal Hst
   have hci:=cntH_ix (P:=holdsN ps l k (memAt l k)) (ks:=ks) (i:=i)
   generalize cntH (holdsN ps l k (memAt l k)) ks i=z at hcz HN hci ⊢
   have t0:=HR5.out.t.cell 0
   have l0:=HR5.out.l.cell 0
   simp only [qgz,qgs] at t0 l0
   have tlt:=HR5.out.t.lt
   have llt:=HR5.out.l.lt
   cases v
   ·go_wp2_with (first | (go_at_call 101;refine Hh.out.mono ?_;rintro e w7 ⟨rfl,hb7⟩;refine Hid.out ?_))
    refine qh ?_
    have H7:=qh (H6.out.move hb7)
    clear hb7
    go_wp2
    go_roundg (gk - 1)
    case measure=>have:=Hi.out;omega
    case rel=>exact ⟨i+1,qh (by have:=Hi.out;omega),by go_num,by rw [HN.out];rfl,H7⟩
   have HN2:Hid (cntH (holdsN ps l k (memAt l k)) ks (i+1)=z+1):=qh (by rw [HN.out];rfl)
   go_wp2_with (first | (go_at_call 101;refine Hh.out.mono ?_;rintro e w7 ⟨rfl,hb7⟩;refine Hid.out ?_))
   refine qh ?_
   have H7:=qh (H6.out.move hb7)
   clear hb7
   go_wp2
   go_roundg (gk - 1)
   case measure=>have:=Hi.out;omega
   case rel=>exact ⟨i+1,qh (by have:=Hi.out;omega),by go_num,by rw [HN2.out];go_num,H7⟩
  obtain rfl:r=i:=by have:=Hi.out;omega
  have hsk:=HSK.out r (by have:=Hkl.out;omega)
  rw [Hkl.out] at hsk
  have HSO:=qh hsk.1
  have HAL:=qh hsk.2
  clear hsk HSK
  generalize cntH (holdsN ps l k (memAt l k)) ks r=z at hcz HSO HAL ⊢
  have HR6:=qh HR5.out
  have Hmb:Hid (Mb w.heap.size (w.heap.size+1) A B n c q d wr):=qh ⟨HR5.out.t,HR5.out.l⟩
  have t0:=HR5.out.t.cell 0
  have l0:=HR5.out.l.cell 0
  obtain ⟨n0,n1,n2,n3,n4,n5,n6,n7,n8,n9⟩:=ch10 HR5.out.n.cell
  simp only [qgz,qgs] at t0 l0 n0 n1 n2 n3 n4 n5 n6 n7 n8 n9
  have nlt:=HR5.out.n.lt
  have llt:=HR5.out.l.lt
  have tlt:=HR5.out.t.lt
  by_cases k1:kd=1
  ·subst k1
   have HR:Hid (R=l.any (fun m=>isA ps m a)):=qh (by rw [HC.out,if_pos rfl])
   have hma:=Hmany.out wr HR5.out.bel Hmb.out (-1) (by omega)
   have hcl:=HMA.out (-1)
   rw [Hll.out] at hcl
   generalize cntM (fun m=>isA ps m a) (-1) 0 l=cm at hma HM1 hcl
   have Hma:=qh hma
   clear hma
   go_wp2_with (first | (go_at_call 124;refine Hma.out.mono ?_;rintro e w7 ⟨rfl,hb7⟩;refine Hid.out ?_))
   refine qh ?_
   have H7:=qh (HR6.out.move hb7)
   clear hb7
   go_wp2
   go_ret
   exact ⟨ret_bool (by rw [HR.out,<- HM1.out];exact decide_eq_decide.2 (by omega)),H7.out.bel⟩
  have k1':(kd == 1)=false:=by simpa using k1
  by_cases k2:kd=2
  ·subst k2
   have HR:Hid (R=blockB (fun m=>isA ps m a) k 0 l):=qh (by rw [HC.out,if_neg (by decide),if_pos rfl])
   have hma:=Hmany.out wr HR5.out.bel Hmb.out (k:Int) (by omega)
   have hcl:=HMA.out (k:Int)
   rw [Hll.out] at hcl
   generalize cntM (fun m=>isA ps m a) (k:Int) 0 l=cm at hma HM2 hcl
   have Hma:=qh hma
   clear hma
   go_wp2_with (first | (go_at_call 124;refine Hma.out.mono ?_;rintro e w7 ⟨rfl,hb7⟩;refine Hid.out ?_))
   refine qh ?_
   have H7:=qh (HR6.out.move hb7)
   clear hb7
   go_wp2
   go_ret
   exact ⟨ret_bool (by rw [HR.out,<- HM2.out]),H7.out.bel⟩
  have k2':(kd == 2)=false:=by simpa using k2
  by_cases k4:kd=4
  ·subst k4
   have HR:Hid (R=someN ps l k (memAt l k) ks):=qh (by rw [HC.out,if_neg (by decide),if_neg (by decide),if_pos rfl])
   go_wp2
   go_ret
   exact ⟨ret_bool (by rw [HR.out,<- HSO.out];exact decide_eq_decide.2 (by omega)),HR6.out.bel⟩
  have k4':(kd == 4)=false:=by simpa using k4
  by_cases k5:kd=5
  ·subst k5
   have HOF:Hid (ifOff ps (memAt l k) f no=true->R=true):=qh fun h=>by rw [HC.out,if_neg (by decide),if_neg (by decide),if_neg (by decide),if_pos ⟨rfl,h⟩]
   have HON:Hid (ifOff ps (memAt l k) f no=false->R=allN ps l k (memAt l k) ks):=qh fun h=>by rw [HC.out,if_neg (by decide),if_neg (by decide),if_neg (by decide),if_neg (fun e=>by rw [h] at e;cases e.2)]
   obtain ⟨b,o,m,E,u,v,rfl,hbS,hm,huv,hv,hon,g0,g1⟩:=HCX.out.s.at_ hkq
   have hme:memAt l k=m:=memAt_at hm
   obtain ⟨hp0,hp1,hp2⟩:=HCX.out.ok m (List.mem_of_getElem? hm)
   rw [hme] at HOF HON HAL
   have HIF:=qh (fun i h1 h2=>ifOff_found (ps:=ps) (m:=m) (f:=f) (no:=no) (i:=i) h1 h2)
   have HIN:Hid (f ∉ (pkOf ps m.pl).fs->ifOff ps m f no=false):=qh fun h=>by unfold ifOff;rw [ixOf_none.2 h]
   generalize ifOff ps m f no=io at HOF HON HIF HIN
   generalize allN ps l k m ks=AL at HON HAL
   obtain ⟨pl,on⟩:=m
   dsimp only at g0 g1 hon hp0 hp1 hp2 HIF HIN
   have hpl:=HCX.out.t.len
   obtain ⟨j,rfl⟩:∃ j:Nat,pl=j:=⟨pl.toNat,by omega⟩
   have hjn:j<n:=by omega
   obtain ⟨b2,o2,p,F,fn,fc,kq,pa,pf,pno,G,gq,gd,rfl,hbS2,hp,hP,hcell⟩:=HCX.out.t.at_ hjn
   rw [pkOf_at hp] at hp2 HIF HIN
   have hnd:=HND.out p (List.mem_of_getElem? hp)
   have h3:=hcell 3 (by omega)
   unfold pkRow ndRow at h3
   simp only [qgz,qgs] at h3
   have HFS:=qh hP.fs
   have hfc:=qlt hP.cap hP.max
   unfold maxLen at hfc
   have HON2:=qh hon
   have hbl:b<w.heap.size:=HCX.out.lt _ hbS
   have hbl2:b2<w.heap.size:=HCX.out.lt _ hbS2
   have HLO:Hid (u=fn):=qh (by have:=hon.len;have:=hP.fs.len;omega)
   have HNDp:=qh hnd
   clear hP hcell hp hon hm hp0 hp1 hp2 hnd hme k1 k2 k4 HC HM1 HM2
   have q0:=(HR5.out.bel.cell (p:=⟨b,o+k * 2,none⟩) hbl).trans g0
   have q1:=(HR5.out.bel.cell (p:=⟨b,o+k * 2+1,none⟩) hbl).trans g1
   have q3:=(HR5.out.bel.cell (p:=⟨b2,o2+j * 14+3,none⟩) hbl2).trans h3
   have hjn1:(j:Int)<n:=by omega
   have hjn0:(0:Int)<=(j:Int):=by omega
   have hkq1:(k:Int)<q:=by omega
   have hk0:(0:Int)<=(k:Int):=by omega
   clear g0 g1 h3 HR5
   go_wp2
   go_quiet (fail)
   rename_i nq
   go_wp2
   have H7:=qh (HR6.out.move (below_drewN (qbr _ _) nq))
   have r1:(wr.drewN nq).cell? ⟨b,o+k * 2+1,none⟩=some (.slice E u v):=q1
   clear q0 q1 q3 t0 l0 n0 n1 n2 n3 n4 n5 n6 n7 n8 n9 nlt llt tlt HR6 Hmb
   generalize wr.drewN nq=w7 at H7 r1 ⊢
   have R1:=qh r1
   clear r1
   go_loopg [65] fn (fun g iv wr=>∃ y:Nat,Hid (y+g=fn)/\iv=.int .i64 y/\Hid (∀ x,x<y->p.fs[x]? = some f->onOf on x≠no)/\Hid (Below w7.heap.size w7 wr))
   case atStart=>exact ⟨0,qh (Nat.zero_add _),rfl,qh (fun x hx=>by omega),qh (qbr _ _)⟩
   case round =>
    obtain ⟨y,Hy,rfl,Hno,HB⟩:=hrel
    have HY:=qh (H7.out.move HB.out)
    by_cases hy:y<fn
    ·obtain ⟨b4,o4,fj,rfl,hb4,hfj,_,hc4⟩:=(HFS.out.under HY.out.bel HCX.out.lt).at_ hy
     obtain ⟨b5,o5,rfl,hb5,hc5⟩:=RBools.at_ (w:=wr) (S:=S) (n:=u) (xs:=on) (k:=y) (Row.below HON2.out HY.out.bel HCX.out.lt) (by rw [HLO.out];exact hy)
     have hl4:b4<wr.heap.size:=ql (HCX.out.lt _ hb4) HY.out.bel.size
     have hl5:b5<wr.heap.size:=ql (HCX.out.lt _ hb5) HY.out.bel.size
     have hlb:b<wr.heap.size:=ql hbl HY.out.bel.size
     have r1:=(HB.out.cell (p:=⟨b,o+k * 2+1,none⟩) (ql hbl H7.out.bel.size)).trans R1.out
     have l0:=HY.out.l.cell 0
     have n7:=HY.out.n.cell 7;have n8:=HY.out.n.cell 8
     simp only [qgz,qgs] at l0 n7 n8
     have nlt:=HY.out.n.lt
     have llt:=HY.out.l.lt
     have hyu:(y:Int)<u:=by have:=HLO.out;omega
     have hyf:(y:Int)<fn:=by omega
     have hy0:(0:Int)<=(y:Int):=by omega
     have HFJ:=qh hfj
     have HOV:Hid (onOf on y=on.getD y false):=qh rfl
     generalize on.getD y false=ov at hc5 HOV
     clear hfj
     by_cases hgf:fj=f
     ·have hg1:(fj == f)=true:=by simpa using hgf
      have HX:=qh (HIF.out y (by rw [HFJ.out,hgf]) HNDp.out)
      clear hgf
      by_cases hov:ov=no
      ·have hg2:(ov == no)=true:=by subst hov;cases ov <;> rfl
       have HE:Hid (R=true):=qh (HOF.out (by rw [HX.out,HOV.out];exact hg2))
       clear hov
       go_wp2
       go_quiet (fail)
       go_wp2
       go_ret
       exact ⟨ret_bool HE.out.symm,below_drewN HY.out.bel _⟩
      have hg2:(ov == no)=false:=by cases ov <;> cases no <;> simp_all
      have HN:Hid (∀ x,x<y+1->p.fs[x]? = some f->onOf on x≠no):=qh fun x hx hxf=>by
       by_cases e:x=y
       ·subst e;rw [HOV.out];exact hov
       exact Hno.out x (by omega) hxf
      clear hov
      go_wp2
      go_quiet (fail)
      go_wp2
      go_roundg (gk - 1)
      case measure=>have:=Hy.out;omega
      case rel=>exact ⟨y+1,qh (by have:=Hy.out;omega),by go_num,HN,qh (below_drewN HB.out _)⟩
     have hg1:(fj == f)=false:=by simpa using hgf
     have HN:Hid (∀ x,x<y+1->p.fs[x]? = some f->onOf on x≠no):=qh fun x hx hxf=>by
      by_cases e:x=y
      ·subst e;rw [HFJ.out] at hxf;injection hxf with hxf;exact absurd hxf hgf
      exact Hno.out x (by omega) hxf
     clear hgf
     go_wp2
     go_quiet (fail)
     go_wp2
     go_roundg (gk - 1)
     case measure=>have:=Hy.out;omega
     case rel=>exact ⟨y+1,qh (by have:=Hy.out;omega),by go_num,HN,qh (below_drewN HB.out _)⟩
    obtain rfl:fn=y:=by have:=Hy.out;omega
    have HE:Hid (R=AL):=qh (by
     refine HON.out ?_
     by_cases hm:f∈p.fs
     ·obtain ⟨x,hx,e⟩:=List.mem_iff_getElem.1 hm
      have hx2:p.fs[x]? = some f:=by rw [qge hx,e]
      have:=Hno.out x (by have:=HFS.out.len;omega) hx2
      rw [HIF.out x hx2 HNDp.out]
      simpa using this
     exact HIN.out hm)
    have n9:=HY.out.n.cell 9
    simp only [qgz,qgs] at n9
    have nlt:=HY.out.n.lt
    go_wp2
    go_ret
    exact ⟨ret_bool (by rw [HE.out,<- HAL.out]),HY.out.bel⟩
  have k5':(kd == 5)=false:=by simpa using k5
  have HR:Hid (R=allN ps l k (memAt l k) ks):=qh (by rw [HC.out,if_neg k1,if_neg k2,if_neg k4,if_neg (fun h=>k5 h.1)])
  clear k1 k2 k4 k5
  go_wp2
  go_ret
  exact ⟨ret_bool (by rw [HR.out,<- HAL.out]),HR6.out.bel⟩
end
section
open Go.RowKit Qm
def keyW (p:Pk):Qm.W:=p.nm++(58 :: Lib.itoa p.slot)
def keyS (ps:List Pk) (o:Mem):Qm.W:=keyW (pkOf ps o.pl)
theorem app_sep {c:UInt8} {x y:Qm.W}:∀ {a b:Qm.W},(∀ z∈a,(z == c)=false)->(∀ z∈b,(z == c)=false)->a++c :: x=b++c :: y->a=b/\x=y
 | [],[],_,_,h=>by simpa using h
 | [],d :: b,_,hb,h=>by
  simp only [List.nil_append,List.cons_append,List.cons.injEq] at h
  have:=hb d (List.mem_cons_self ..)
  rw [<- h.1] at this;simp at this
 | d :: a,[],ha,_,h=>by
  simp only [List.nil_append,List.cons_append,List.cons.injEq] at h
  have:=ha d (List.mem_cons_self ..)
  rw [h.1] at this;simp at this
 | d :: a,e :: b,ha,hb,h=>by
  simp only [List.cons_append,List.cons.injEq] at h
  obtain ⟨h1,h2⟩:=app_sep (fun z hz=>ha z (List.mem_cons_of_mem _ hz)) (fun z hz=>hb z (List.mem_cons_of_mem _ hz)) h.2
  exact ⟨by rw [h.1,h1],h2⟩
theorem name_no58 {l:Qm.W} (h:isName l=true):∀ x∈l,(x == 58)=false:=fun x hx=>by
 rcases isName_mem h x hx with h1 | h1
 ·cases hc:x == 58
  ·rfl
  rw [eq_of_beq hc] at h1;exact absurd h1 (by decide)
 cases hc:x == 58
 ·rfl
 rw [eq_of_beq hc] at h1;exact absurd h1 (by decide)
theorem keyW_inj {p q:Pk} (hp:PkOk p) (hq:PkOk q):keyW p=keyW q↔p.nm=q.nm/\p.slot=q.slot:=by
 unfold keyW
 constructor
 ·intro h
  obtain ⟨h1,h2⟩:=app_sep (name_no58 hp.nm) (name_no58 hq.nm) h
  refine ⟨h1, ?_⟩
  have e1:=number_itoa (n:=p.slot) (by have:=hp.slot;omega) (by have:=hp.slot;omega)
  have e2:=number_itoa (n:=q.slot) (by have:=hq.slot;omega) (by have:=hq.slot;omega)
  rw [h2,e2] at e1
  injection e1 with e1
  exact e1.symm
 rintro ⟨h1,h2⟩;rw [h1,h2]
theorem keyW_len {p:Pk} (hp:PkOk p):(keyW p).length<=100:=by
 unfold keyW
 have h1:=(isName_len hp.nm).2
 have h2:=(itoa_len (n:=p.slot) (by have:=hp.slot;omega) (by have:=hp.slot;omega)).2
 simp;omega
theorem flags_nodup {p:Pk} (h:PkOk p):p.fs.Nodup:=by
 have h1:=h.fs;have h2:=h.len
 revert h1 h2
 generalize p.fs=fs
 intro h1 h2
 match fs,h1,h2 with
 | [],_,_=>exact List.nodup_nil
 | [a],_,_=>simp
 | [a,b],h1,_ =>
  have hne:a≠b:=by
   rintro rfl
   simp only [ckFlags,badNext] at h1
   split at h1
   ·cases h1
   rw [if_neg (by simp)] at h1
   simp only [decide_eq_true (List.le_refl a)] at h1
   simp at h1
  simp [hne]
 | a :: b :: c :: r,_,h2=>simp at h2
def seenB (ps:List Pk) (l:List Mem) (i:Nat) (x:Qm.W):Bool:=(l.take i).any fun o=>keyS ps o == x
theorem seenB_step {ps:List Pk} {l:List Mem} {i:Nat} {m:Mem} (h:l[i]? = some m) (x:Qm.W):seenB ps l (i+1) x=(x == keyS ps m || seenB ps l i x):=by
 obtain ⟨hi,rfl⟩:=List.getElem?_eq_some_iff.1 h
 unfold seenB
 rw [List.take_succ_eq_append_getElem hi,List.any_append,Bool.or_comm]
 simp only [List.any_cons,List.any_nil,Bool.or_false]
 congr 1
 rw [Bool.eq_iff_iff,beq_iff_eq,beq_iff_eq];exact eq_comm
theorem pkOf_ok {ps:List Pk} (h:ckTree ps=0) {m:Mem} (hm:MemOk ps m):PkOk (pkOf ps m.pl):=by
 obtain ⟨h0,h1,_⟩:=hm
 have hj:m.pl.toNat<ps.length:=by omega
 have:pkOf ps m.pl=ps[m.pl.toNat]:=by
  unfold pkOf
  rw [List.getD_eq_getElem?_getD,List.getElem?_eq_getElem hj];rfl
 rw [this]
 exact pkOk (ckTree_mem h _ (List.getElem_mem hj))
theorem seen_lone {ps:List Pk} (h:ckTree ps=0) {l:List Mem} (hl:∀ m∈l,MemOk ps m) {m:Mem} (hm:MemOk ps m) (i:Nat):(!seenB ps l i (keyS ps m))=loneB ps (pkOf ps m.pl) (l.take i):=by
 unfold seenB
 have hl':∀ o∈l.take i,MemOk ps o:=fun o ho=>hl o (List.mem_of_mem_take ho)
 generalize l.take i=t at hl'
 induction t with
 | nil=>rfl
 | cons o r ih =>
  rw [List.any_cons,Bool.not_or,ih fun x hx=>hl' x (List.mem_cons_of_mem _ hx)]
  show _=(if (pkOf ps o.pl).nm=(pkOf ps m.pl).nm/\(pkOf ps o.pl).slot=(pkOf ps m.pl).slot then false else loneB ps (pkOf ps m.pl) r)
  have hi:=keyW_inj (pkOf_ok h (hl' o (List.mem_cons_self ..))) (pkOf_ok h hm)
  by_cases hc:(pkOf ps o.pl).nm=(pkOf ps m.pl).nm/\(pkOf ps o.pl).slot=(pkOf ps m.pl).slot
  ·rw [if_pos hc]
   have:(keyS ps o == keyS ps m)=true:=by rw [beq_iff_eq];exact hi.2 hc
   rw [this];rfl
  rw [if_neg hc]
  have:(keyS ps o == keyS ps m)=false:=by rw [beq_eq_false_iff_ne];exact fun e=>hc (hi.1 e)
  rw [this];rfl
end
section
open Go.RowKit Qm
def StrSet (P:Program) (w:World) (b:Nat) (K:Qm.W->Bool) (m:Nat):Prop:=
 ∃ D:DataW Unit,w.ownsMap P 9 (plainElem P 4) b m D/\Maps.size D=m/\∀ x:Qm.W,x.length<=maxLen->Maps.has D (.string x)=K x/\D.atKey (.string x) (.lit (.bool false))=.lit (.bool (K x))
theorem skey_ {P:Program} {k:TypeId} (hk:P.underlying k=some .string) {x:Qm.W} (hx:x.length<=maxLen):keyOf P k (.string ⟨x.toArray⟩)=some (.string x):=by
 rw [WideMaps.keyOf_string_mk hk (by simpa [ByteArray.size] using hx)]
section
variable {P : Program} {w w' : World} {b m : Nat} {K : Qm.W → Bool}
theorem StrSet.made (P:Program) (w:World):StrSet P (w.alloc (.map #[] 0)) w.heap.size (fun _=>false) 0:=
 ⟨.map [],World.ownsMap_made w P 9 _,rfl,fun x _=>⟨rfl,rfl⟩⟩
theorem StrSet.kept {row:Option Nat} (h:StrSet P w b K m) (hg:w.grownBy w' row) (hne:some b≠row):StrSet P w' b K m:=by
 obtain ⟨D,h1,h2⟩:=h
 exact ⟨D,h1.kept hg hne,h2⟩
theorem StrSet.lt (h:StrSet P w b K m):b<w.heap.size:=by obtain ⟨D,h1,_⟩:=h;exact h1.lt
theorem StrSet.congr {K':Qm.W->Bool} {m':Nat} (h:StrSet P w b K m) (hm:m=m') (hK:∀ x:Qm.W,x.length<=maxLen->K x=K' x):StrSet P w b K' m':=by
 subst hm
 obtain ⟨D,h1,h2,h3⟩:=h
 exact ⟨D,h1,h2,fun x hx=>by rw [<- hK x hx];exact h3 x hx⟩
theorem StrSet.look (h:StrSet P w b K m) (hk:P.underlying 9=some .string) (he:P.underlying 4=some .bool) (hz:(zeroValue 4).run P w=.ok (.bool false) w) {t:TypeId} (ht:P.underlying t=some (.map 9 4)) {x:Qm.W} (hx:x.length<=maxLen) :
  (Instr.lookup t (.map (some b)) (.string ⟨x.toArray⟩) false).run P w=.ok (.bool (K x)) w:=by
 obtain ⟨D,h1,_,h3⟩:=h
 obtain ⟨v,ps,hrun,hv⟩:=h1.lookup (Maps.string_keyed hk) ht hz (plainElem_bool he false) (skey_ hk hx)
 rw [(h3 x hx).2] at hv
 have:v=.bool (K x):=by
  unfold plainElem at hv
  rw [he] at hv
  cases v <;> simp at hv
  rw [hv.1]
 rw [hrun,this]
theorem StrSet.put (h:StrSet P w b K m) (hk:P.underlying 9=some .string) (he:P.underlying 4=some .bool) {t:TypeId} (ht:P.underlying t=some (.map 9 4)) {x:Qm.W} (hx:x.length<=maxLen) (hm:m<maxLen) :
  ∃ w',(Instr.mapUpdate t (.map (some b)) (.string ⟨x.toArray⟩) (.bool true)).run P w=.ok () w'/\StrSet P w' b (fun y=>y == x || K y) (if K x then m else m+1)/\w.grownBy w' (some b)/\w'.heap.size=w.heap.size:=by
 obtain ⟨D,h1,h2,h3⟩:=h
 have Kd:=Maps.string_keyed (P:=P) hk
 have hkey:=skey_ (P:=P) hk hx
 have hkl:WideAt.IsKeyLit (.string x):=Kd.key hkey
 obtain ⟨w',hrun,h4,h5⟩:=h1.store Kd ht hm hkey (plainElem_bool he true)
 have htd:=h1.tidy Kd
 have hsz:Maps.size (D.put (.string x) (.lit (.bool true)))=if K x then m else m+1:=by
  rw [Maps.size_put htd,(h3 x hx).1,h2]
 refine ⟨w',hrun,⟨_, ?_,hsz,fun y hy=>?_⟩,h5.grown, ?_⟩
 ·have e:Maps.size (D.put (.string x) (.lit (.bool true)))<=if K x then m else m+1:=by rw [hsz];exact qr _
  obtain ⟨es,clock,hb,F,hs,hD⟩:=h4
  refine ⟨es,clock,hb,F, ?_,hD⟩
  rw [hD] at e
  simpa [Maps.size,length_sorted] using e
 ·by_cases hyx:y=x
  ·subst hyx
   rw [Maps.has_put_same htd.isMap hkl,Maps.atKey_put_same htd.isMap hkl]
   simp
  have hne:(Lit.string y)≠.string x:=by intro e;injection e with e;exact hyx e
  rw [Maps.has_put_other hne,Maps.atKey_put_other hne]
  have:(y == x)=false:=by simpa using hyx
  show _=(y == x || K y)/\_=DataW.lit (.bool (y == x || K y))
  rw [this,Bool.false_or]
  exact h3 y hy
 obtain ⟨es,clock,es',clock',_,rfl⟩:=h5
 simp [ChangeMaps.setBlock]
end
end
end Go.Proofs.YtedbhlgjcnnknaaGreatDoor
