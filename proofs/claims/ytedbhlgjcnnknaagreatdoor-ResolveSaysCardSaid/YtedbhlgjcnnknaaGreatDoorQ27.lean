/- Parts. -/
import Derived.Test.YtedbhlgjcnnknaaGreatDoorQ25
set_option linter.unusedVariables false
set_option linter.unusedSimpArgs false
set_option linter.unusedSectionVars false
set_option maxRecDepth 100000
set_option maxHeartbeats 12800000
namespace Qm
open Go
mutual
def szd:Nd->Nat->Int×Int
 | .mk _ _ _ _ ks,l=>if l=0 then (0,99) else szdL ks (l - 1) 1 0
def szdL:List Nd->Nat->Int->Int->Int×Int
 | [],_,all,dp=>(all,dp+1)
 | k :: r,l,all,dp=>if 100<all+(szd k l).1\/50<(szd k l).2 then (101,99) else szdL r l (all+(szd k l).1) (max dp (szd k l).2)
end
theorem Nd.deep_pos (n:Nd):1<=n.deep:=by cases n;simp only [Nd.deep];omega
theorem szdL_spec {ks:List Nd} {l:Nat} (ih:∀ x∈ks,((x.deep<=l/\x.nodes<=100)/\szd x l=((x.nodes:Int),(x.deep:Int)))\/(¬ (x.deep<=l/\x.nodes<=100)/\(szd x l).2=99/\0<=(szd x l).1/\(szd x l).1<=101)) (hl:l<=50) :
  ∀ (all dp:Nat),1<=all->all<=100->dp<=l->((max dp (deepL ks)<=l/\all+nodesL ks<=100)/\szdL ks l all dp=(((all+nodesL ks:Nat):Int),((max dp (deepL ks)+1:Nat):Int)))\/(¬ (max dp (deepL ks)<=l/\all+nodesL ks<=100)/\szdL ks l all dp=(101,99)):=by
 induction ks with
 | nil=>intro all dp h1 h2 h3;exact .inl ⟨by simp only [deepL,nodesL];omega,by simp only [szdL,nodesL,deepL];congr 1 <;> omega⟩
 | cons k r ihr =>
  intro all dp h1 h2 h3
  have ir:=ihr fun x hx=>ih x (List.mem_cons_of_mem _ hx)
  simp only [szdL,nodesL,deepL]
  rcases ih k (List.mem_cons_self ..) with ⟨⟨q1,q2⟩,e⟩ | ⟨q,e,_,_⟩
  ·rw [e]
   by_cases hc:100<all+k.nodes
   ·rw [if_pos (by simp only;omega)]
    exact .inr ⟨by omega,rfl⟩
   rw [if_neg (by simp only;omega)]
   have em:(max (dp:Int) (k.deep:Int))=((max dp k.deep:Nat):Int):=by omega
   have ea:((all:Int)+(k.nodes:Int))=((all+k.nodes:Nat):Int):=by omega
   simp only [em,ea]
   rcases ir (all+k.nodes) (max dp k.deep) (by omega) (by omega) (by omega) with ⟨a,b⟩ | ⟨a,b⟩
   ·refine .inl ⟨by omega, ?_⟩
    rw [b];congr 2 <;> omega
   exact .inr ⟨by omega,b⟩
  rw [if_pos (.inr (by omega))]
  exact .inr ⟨by omega,rfl⟩
theorem szd_spec:∀ (n:Nd) (l:Nat),l<=50->((n.deep<=l/\n.nodes<=100)/\szd n l=((n.nodes:Int),(n.deep:Int)))\/(¬ (n.deep<=l/\n.nodes<=100)/\(szd n l).2=99/\0<=(szd n l).1/\(szd n l).1<=101):=by
 refine Nd.ind fun k a f no ks ih=>?_
 intro l hl
 simp only [szd,Nd.nodes,Nd.deep]
 by_cases h:l=0
 ·rw [if_pos h];exact .inr ⟨by omega,rfl,by simp only;omega,by simp only;omega⟩
 rw [if_neg h]
 have e1:((1:Int))=((1:Nat):Int):=rfl
 rcases szdL_spec (l:=l - 1) (fun x hx=>ih x hx (l - 1) (by omega)) (by omega) 1 0 (by omega) (by omega) (by omega) with ⟨a,b⟩ | ⟨a,b⟩
 ·refine .inl ⟨by omega, ?_⟩
  have b':szdL ks (l - 1) 1 0=_:=b
  rw [b'];congr 2 <;> omega
 have b':szdL ks (l - 1) 1 0=_:=b
 rw [b']
 exact .inr ⟨by omega,rfl,by simp only;omega,by simp only;omega⟩
theorem szd_le (n:Nd) (l:Nat) (hl:l<=50):0<=(szd n l).1/\(szd n l).1<=101/\0<=(szd n l).2/\(szd n l).2<=99:=by
 rcases szd_spec n l hl with ⟨⟨a,b⟩,e⟩ | ⟨_,e,h1,h2⟩
 ·rw [e];simp only;omega
 omega
theorem szd_many (n:Nd):(20<(szd n 4).1\/4<(szd n 4).2)↔tooMany n:=by
 unfold tooMany
 rcases szd_spec n 4 (by omega) with ⟨⟨a,b⟩,e⟩ | ⟨h,e,_,_⟩
 ·rw [e];simp only;omega
 rw [e];have:=n.deep_pos;omega
end Qm
namespace Go.Proofs.YtedbhlgjcnnknaaGreatDoor
open Go.RowKit Qm
theorem sized_any:∀ (n:Nd) (S:Nat->Prop) (x:List Value) (l:Nat) (w:World),RNd w S x n->(∀ k,S k->k<w.heap.size)->l<=4 ->
  Calls Tryz.prog 118 #[.agg x.toArray,.int .i64 l] w fun e w'=>e=.returned (.tuple #[.int .i64 (szd n l).1,.int .i64 (szd n l).2])/\Below w.heap.size w w':=by
 refine Nd.ind fun k a f no ks ih=>?_
 intro S x l w hR hS hl
 have HI:=qh ih;clear ih
 obtain ⟨A,n,c,rfl,hnc,hc,h1,h2,h3,hK⟩:=hR.open_
 clear hR
 have HS:=qh hS;clear hS
 have HK:=qh hK;clear hK
 unfold maxLen at hc
 clear h1 h2 h3
 unfold ndRow
 have HW:=qh (Whole.new w _ 99 [.int .i64 k,.string ⟨a.nm.toArray⟩,.int .i64 a.op,.int .i64 a.ver,.int .i64 a.slot,.string ⟨a.fl.toArray⟩,.bool a.on,.string ⟨f.toArray⟩,.bool no,.slice A n c] rfl)
 have HB:=qh ((qbr _ w).alloc (qr _) (.cells #[.int .i64 k,.string ⟨a.nm.toArray⟩,.int .i64 a.op,.int .i64 a.ver,.int .i64 a.slot,.string ⟨a.fl.toArray⟩,.bool a.on,.string ⟨f.toArray⟩,.bool no,.slice A n c] 99))
 by_cases h4:l=0
 ·subst h4
  have HC:Hid (szd (.mk k a f no ks) 0=(0,99)):=qh (by simp [szd])
  generalize szd (.mk k a f no ks) 0=R at HC ⊢
  go_enter Tryz.func118,Tryz.ntmps118
  go_wp2
  go_ret2
  exact ⟨by rw [HC.out];rfl,HB.out⟩
 have h4':((l:Int) == 0)=false:=by simp;omega
 have HC:Hid (szd (.mk k a f no ks) l=szdL ks (l - 1) 1 0):=qh (by simp [szd,h4])
 generalize szd (.mk k a f no ks) l=R at HC ⊢
 go_enter Tryz.func118,Tryz.ntmps118
 go_wp2
 go_loopg [4,5,15] n (fun g av dv iv wr=>∃ (j:Nat) (z d:Int),Hid (j+g=n)/\iv=.int .i64 j/\av=.int .i64 z/\dv=.int .i64 d/\1<=z/\z<=100/\0<=d/\d<=50/\Hid (szdL ks (l - 1) 1 0=szdL (ks.drop j) (l - 1) z d)/\Below w.heap.size w wr)
 case atStart=>exact ⟨0,1,0,qh (Nat.zero_add _),rfl,rfl,rfl,by omega,by omega,by omega,by omega,qh rfl,HB.out⟩
 case round =>
  obtain ⟨j,z,d,Hj,rfl,rfl,rfl,hz1,hz2,hd1,hd2,Hcl,hb⟩:=hrel
  have HBr:=qh hb;clear hb
  by_cases hj:j<n
  ·obtain ⟨b,o,x,y,rfl,hb,hy,hxy,hcell⟩:=(HK.out.under HBr.out HS.out).at_ hj
   have Hdr:=qh (drop_step hy)
   have hmem:=List.mem_of_getElem? hy
   obtain ⟨yk,ya,yf,yn,yks⟩:=y
   obtain ⟨A',n',c',rfl,-⟩:=hxy.open_
   have g0:=hcell 0 (by omega);have g1:=hcell 1 (by omega);have g2:=hcell 2 (by omega);have g3:=hcell 3 (by omega);have g4:=hcell 4 (by omega);have g5:=hcell 5 (by omega);have g6:=hcell 6 (by omega);have g7:=hcell 7 (by omega);have g8:=hcell 8 (by omega);have g9:=hcell 9 (by omega)
   clear hcell
   unfold ndRow at g0 g1 g2 g3 g4 g5 g6 g7 g8 g9
   simp only [qgz,qgs,Nat.add_zero] at g0 g1 g2 g3 g4 g5 g6 g7 g8 g9
   clear hy
   have hxy2:=(hxy.under (qbr _ wr |>.alloc (qr _) (.cells #[.int .i64 yk,.string ⟨ya.nm.toArray⟩,.int .i64 ya.op,.int .i64 ya.ver,.int .i64 ya.slot,.string ⟨ya.fl.toArray⟩,.bool ya.on,.string ⟨yf.toArray⟩,.bool yn,.slice A' n' c'] 99)) fun q hq=>ql (HS.out q hq) HBr.out.size)
   clear hxy
   have hcall:=HI.out _ hmem S _ (l - 1) _ hxy2 (fun q hq=>by have:=HS.out q hq;have:=HBr.out.size;simp;omega) (by omega)
   have e:((l - 1:Nat):Int)=(l:Int) - 1:=by omega
   rw [e] at hcall
   unfold ndRow at hcall
   have Hle:=szd_le (.mk yk ya yf yn yks) (l - 1) (by omega)
   have HX:Hid (szdL (ks.drop j) (l - 1) z d=if 100<z+(szd (.mk yk ya yf yn yks) (l - 1)).1\/50<(szd (.mk yk ya yf yn yks) (l - 1)).2 then (101,99) else szdL (ks.drop (j+1)) (l - 1) (z+(szd (.mk yk ya yf yn yks) (l - 1)).1) (max d (szd (.mk yk ya yf yn yks) (l - 1)).2)):=qh (by rw [Hdr.out];simp only [szdL])
   generalize hq:szd (.mk yk ya yf yn yks) (l - 1)=q at hcall Hle HX
   obtain ⟨m,dd⟩:=q
   simp only at hcall Hle HX
   obtain ⟨m1,m2,d1,d2⟩:=Hle
   have HBn:=qh (HBr.out.alloc HBr.out.size (.cells #[.int .i64 yk,.string ⟨ya.nm.toArray⟩,.int .i64 ya.op,.int .i64 ya.ver,.int .i64 ya.slot,.string ⟨ya.fl.toArray⟩,.bool ya.on,.string ⟨yf.toArray⟩,.bool yn,.slice A' n' c'] 99))
   clear hq e hxy2 Hdr hmem
   have Hcall:=qh hcall;clear hcall
   by_cases hm:100<z+m
   ·have HX2:=qh (HX.out.trans (if_pos (.inl hm)))
    clear HX
    go_wp2_with (first | (go_at_call 118;refine Hcall.out.mono ?_;rintro e w' ⟨rfl,hb'⟩;refine Hid.out ?_))
    refine qh ?_
    have HB':=qh (HBn.out.trans (hb'.mono HBn.out.size));clear hb'
    go_wp2
    go_ret2
    exact ⟨by rw [HC.out,Hcl.out,HX2.out];rfl,HB'.out⟩
   have hm':decide (100<z+m)=false:=by simpa using hm
   by_cases hd:50<dd
   ·have HX2:=qh (HX.out.trans (if_pos (.inr hd)))
    clear HX
    go_wp2_with (first | (go_at_call 118;refine Hcall.out.mono ?_;rintro e w' ⟨rfl,hb'⟩;refine Hid.out ?_))
    refine qh ?_
    have HB':=qh (HBn.out.trans (hb'.mono HBn.out.size));clear hb'
    go_wp2
    go_ret2
    exact ⟨by rw [HC.out,Hcl.out,HX2.out];rfl,HB'.out⟩
   have hd':decide (50<dd)=false:=by simpa using hd
   have HX2:=qh (HX.out.trans (if_neg (by omega)))
   clear HX
   go_wp2_with (first | (go_at_call 118;refine Hcall.out.mono ?_;rintro e w' ⟨rfl,hb'⟩;refine Hid.out ?_))
   refine qh ?_
   have HB':=qh (HBn.out.trans (hb'.mono HBn.out.size));clear hb'
   go_wp2
   all_goals (
    go_roundg (gk - 1)
    case measure=>have:=Hj.out;omega
    case rel=>exact ⟨j+1,z+m,max d dd,qh (by have:=Hj.out;omega),by go_num,rfl,(by first | rfl | (congr 1;omega)),by omega,by omega,by omega,by omega,qh (by rw [Hcl.out,HX2.out]),HB'.out⟩)
  go_wp2
  go_ret2
  refine ⟨?_,HBr.out⟩
  rw [HC.out,Hcl.out,List.drop_of_length_le (by have:=HK.out.len;omega)];rfl
end Go.Proofs.YtedbhlgjcnnknaaGreatDoor

namespace Go.Proofs.YtedbhlgjcnnknaaGreatDoor
section
open Go.RowKit Qm
def selfC (bx:Nat):Value:=.func (.func 119) #[] #[.pointer (some ⟨bx,0,none⟩)]
theorem rwalk_bad (nm fl f:Qm.W) (op ver slot k:Int) (on no:Bool) (A:Option Addr) (n c:Nat) (ks:List Nd) (w:World) (bx:Nat) (k1:3<=k) (k2:k<=5) (ha:¬ (nm=[]/\op=0/\ver=0/\slot=0/\fl=[]/\on=false)) :
  Calls Tryz.prog 119 #[.agg (ndRow k ⟨nm,op,ver,slot,fl,on⟩ f no A n c).toArray,.pointer (some ⟨bx,0,none⟩)] w fun e w'=>e=.returned (.int .i64 (ckNd (.mk k ⟨nm,op,ver,slot,fl,on⟩ f no ks)))/\Below w.heap.size w w':=by
 unfold ndRow
 have HC:Hid (ckNd (.mk k ⟨nm,op,ver,slot,fl,on⟩ f no ks)=4):=qh (by
  have hl:leafK k=false:=by simp [leafK];omega
  simp only [ckNd];rw [if_neg (by omega),if_neg (by simp [hl]),if_pos ⟨hl,by simpa [At.zero] using ha⟩])
 have e1:(k == 1)=false:=by simp;omega
 have e2:(k == 2)=false:=by simp;omega
 have e3:decide (k<1)=false:=by simp;omega
 have e4:decide (5<k)=false:=by simp;omega
 have HB:=qh ((qbr _ w).alloc (qr _) (.cells #[.int .i64 k,.string ⟨nm.toArray⟩,.int .i64 op,.int .i64 ver,.int .i64 slot,.string ⟨fl.toArray⟩,.bool on,.string ⟨f.toArray⟩,.bool no,.slice A n c] 99))
 by_cases c1:nm=[]
 ·subst c1
  by_cases c2:op=0
  ·subst c2
   by_cases c3:ver=0
   ·subst c3
    by_cases c4:slot=0
    ·subst c4
     by_cases c5:fl=[]
     ·subst c5
      cases on
      ·exact absurd ⟨rfl,rfl,rfl,rfl,rfl,rfl⟩ ha
      clear ha
      go_enter Tryz.func119,Tryz.ntmps119
      go_wp2
      go_ret
      exact ⟨ret_int HC.out.symm,HB.out⟩
     clear ha
     go_enter Tryz.func119,Tryz.ntmps119
     go_wp2
     go_ret
     exact ⟨ret_int HC.out.symm,HB.out⟩
    clear ha
    go_enter Tryz.func119,Tryz.ntmps119
    go_wp2
    go_ret
    exact ⟨ret_int HC.out.symm,HB.out⟩
   clear ha
   go_enter Tryz.func119,Tryz.ntmps119
   go_wp2
   go_ret
   exact ⟨ret_int HC.out.symm,HB.out⟩
  clear ha
  go_enter Tryz.func119,Tryz.ntmps119
  go_wp2
  go_ret
  exact ⟨ret_int HC.out.symm,HB.out⟩
 clear ha
 go_enter Tryz.func119,Tryz.ntmps119
 go_wp2
 go_ret
 exact ⟨ret_int HC.out.symm,HB.out⟩
theorem rwalk_out (nm fl f:Qm.W) (op ver slot k:Int) (on no:Bool) (A:Option Addr) (n c:Nat) (ks:List Nd) (w:World) (bx:Nat) (hk:k<1\/5<k) :
  Calls Tryz.prog 119 #[.agg (ndRow k ⟨nm,op,ver,slot,fl,on⟩ f no A n c).toArray,.pointer (some ⟨bx,0,none⟩)] w fun e w'=>e=.returned (.int .i64 (ckNd (.mk k ⟨nm,op,ver,slot,fl,on⟩ f no ks)))/\Below w.heap.size w w':=by
 unfold ndRow
 have HC:Hid (ckNd (.mk k ⟨nm,op,ver,slot,fl,on⟩ f no ks)=4):=qh (by simp only [ckNd];rw [if_pos hk])
 have HB:=qh ((qbr _ w).alloc (qr _) (.cells #[.int .i64 k,.string ⟨nm.toArray⟩,.int .i64 op,.int .i64 ver,.int .i64 slot,.string ⟨fl.toArray⟩,.bool on,.string ⟨f.toArray⟩,.bool no,.slice A n c] 99))
 have e1:(k == 1)=false:=by simp;omega
 have e2:(k == 2)=false:=by simp;omega
 rcases hk with hk | hk
 ·
  go_enter Tryz.func119,Tryz.ntmps119
  go_wp2
  go_ret
  exact ⟨ret_int HC.out.symm,HB.out⟩
 have e3:decide (k<1)=false:=by simp;omega
 go_enter Tryz.func119,Tryz.ntmps119
 go_wp2
 go_ret
 exact ⟨ret_int HC.out.symm,HB.out⟩
theorem rwalk_leaf1 (nm fl f:Qm.W) (op ver slot:Int) (on no:Bool) (A:Option Addr) (n c:Nat) (ks:List Nd) (w:World) (bx:Nat) (hc:n<=c) (hc2:c<=maxLen) (h1:nm.length<=maxLen) (h2:fl.length<=maxLen) (hlen:ks.length=n) :
  Calls Tryz.prog 119 #[.agg (ndRow 1 ⟨nm,op,ver,slot,fl,on⟩ f no A n c).toArray,.pointer (some ⟨bx,0,none⟩)] w fun e w'=>e=.returned (.int .i64 (ckNd (.mk 1 ⟨nm,op,ver,slot,fl,on⟩ f no ks)))/\Below w.heap.size w w':=by
 unfold ndRow
 unfold maxLen at hc2
 have HB:=qh ((qbr _ w).alloc (qr _) (.cells #[.int .i64 1,.string ⟨nm.toArray⟩,.int .i64 op,.int .i64 ver,.int .i64 slot,.string ⟨fl.toArray⟩,.bool on,.string ⟨f.toArray⟩,.bool no,.slice A n c] 99))
 by_cases hn:0<n
 ·have HC:Hid (ckNd (.mk 1 ⟨nm,op,ver,slot,fl,on⟩ f no ks)=4):=qh (by
   simp only [ckNd];rw [if_neg (by omega),if_pos ⟨rfl,by omega⟩])
  have hn':((n:Int) != 0)=true:=by simp;omega
  go_enter Tryz.func119,Tryz.ntmps119
  go_wp2
  go_ret
  exact ⟨ret_int HC.out.symm,HB.out⟩
 obtain rfl:n=0:=by omega
 clear hn
 by_cases hf:f=[]/\no=false
 ·obtain ⟨rfl,rfl⟩:=hf
  have HC:Hid (ckNd (.mk 1 ⟨nm,op,ver,slot,fl,on⟩ [] false ks)=ckAtom ⟨nm,op,ver,slot,fl,on⟩):=qh (by
   simp only [ckNd];rw [if_neg (by omega),if_neg (by simp [hlen]),if_neg (by simp [leafK]),if_neg (by simp),if_neg (by simp),if_pos (by rfl)])
  have hck:=fun wx=>rcheck_any ⟨nm.toArray⟩ ⟨fl.toArray⟩ op ver slot on wx (by rw [bsz];exact h1) (by rw [bsz];exact h2)
  rw [show atOf ⟨nm.toArray⟩ op ver slot ⟨fl.toArray⟩ on=⟨nm,op,ver,slot,fl,on⟩ from by simp [atOf]] at hck
  unfold atv at hck
  have Hck:=qh hck;clear hck
  generalize ckAtom _=q at Hck HC
  clear h1 h2
  go_enter Tryz.func119,Tryz.ntmps119
  go_wp2_with (first | (go_at_call 93;refine (Hck.out _).mono ?_;rintro e w1 ⟨rfl,hb1⟩;refine Hid.out ?_))
  refine qh ?_
  have HB1:=qh (HB.out.trans (hb1.mono HB.out.size));clear hb1
  go_wp2
  go_ret
  exact ⟨ret_int HC.out.symm,HB1.out⟩
 have HC:Hid (ckNd (.mk 1 ⟨nm,op,ver,slot,fl,on⟩ f no ks)=4):=qh (by
  simp only [ckNd];rw [if_neg (by omega),if_neg (by simp [hlen]),if_neg (by simp [leafK]),if_pos ⟨by omega,by cases no <;> simp_all⟩])
 cases no
 ·have hf0:¬ f=[]:=fun e=>hf ⟨e,rfl⟩
  have hf1:(!List.isEmpty f)=true:=by cases f with | nil=>exact absurd rfl hf0 | cons=>rfl
  clear hf
  go_enter Tryz.func119,Tryz.ntmps119
  go_wp2
  go_ret
  exact ⟨ret_int HC.out.symm,HB.out⟩
 clear hf
 go_enter Tryz.func119,Tryz.ntmps119
 go_wp2
 go_ret
 exact ⟨ret_int HC.out.symm,HB.out⟩
theorem rwalk_leaf2 (nm fl f:Qm.W) (op ver slot:Int) (on no:Bool) (A:Option Addr) (n c:Nat) (ks:List Nd) (w:World) (bx:Nat) (hc:n<=c) (hc2:c<=maxLen) (h1:nm.length<=maxLen) (h2:fl.length<=maxLen) (hlen:ks.length=n) :
  Calls Tryz.prog 119 #[.agg (ndRow 2 ⟨nm,op,ver,slot,fl,on⟩ f no A n c).toArray,.pointer (some ⟨bx,0,none⟩)] w fun e w'=>e=.returned (.int .i64 (ckNd (.mk 2 ⟨nm,op,ver,slot,fl,on⟩ f no ks)))/\Below w.heap.size w w':=by
 unfold ndRow
 unfold maxLen at hc2
 have HB:=qh ((qbr _ w).alloc (qr _) (.cells #[.int .i64 2,.string ⟨nm.toArray⟩,.int .i64 op,.int .i64 ver,.int .i64 slot,.string ⟨fl.toArray⟩,.bool on,.string ⟨f.toArray⟩,.bool no,.slice A n c] 99))
 by_cases hn:0<n
 ·have HC:Hid (ckNd (.mk 2 ⟨nm,op,ver,slot,fl,on⟩ f no ks)=4):=qh (by
   simp only [ckNd];rw [if_neg (by omega),if_pos ⟨rfl,by omega⟩])
  have hn':((n:Int) != 0)=true:=by simp;omega
  go_enter Tryz.func119,Tryz.ntmps119
  go_wp2
  go_ret
  exact ⟨ret_int HC.out.symm,HB.out⟩
 obtain rfl:n=0:=by omega
 clear hn
 by_cases hf:f=[]/\no=false
 ·obtain ⟨rfl,rfl⟩:=hf
  have HC:Hid (ckNd (.mk 2 ⟨nm,op,ver,slot,fl,on⟩ [] false ks)=ckAtom ⟨nm,op,ver,slot,fl,on⟩):=qh (by
   simp only [ckNd];rw [if_neg (by omega),if_neg (by simp [hlen]),if_neg (by simp [leafK]),if_neg (by simp),if_neg (by simp),if_pos (by rfl)])
  have hck:=fun wx=>rcheck_any ⟨nm.toArray⟩ ⟨fl.toArray⟩ op ver slot on wx (by rw [bsz];exact h1) (by rw [bsz];exact h2)
  rw [show atOf ⟨nm.toArray⟩ op ver slot ⟨fl.toArray⟩ on=⟨nm,op,ver,slot,fl,on⟩ from by simp [atOf]] at hck
  unfold atv at hck
  have Hck:=qh hck;clear hck
  generalize ckAtom _=q at Hck HC
  clear h1 h2
  go_enter Tryz.func119,Tryz.ntmps119
  go_wp2_with (first | (go_at_call 93;refine (Hck.out _).mono ?_;rintro e w1 ⟨rfl,hb1⟩;refine Hid.out ?_))
  refine qh ?_
  have HB1:=qh (HB.out.trans (hb1.mono HB.out.size));clear hb1
  go_wp2
  go_ret
  exact ⟨ret_int HC.out.symm,HB1.out⟩
 have HC:Hid (ckNd (.mk 2 ⟨nm,op,ver,slot,fl,on⟩ f no ks)=4):=qh (by
  simp only [ckNd];rw [if_neg (by omega),if_neg (by simp [hlen]),if_neg (by simp [leafK]),if_pos ⟨by omega,by cases no <;> simp_all⟩])
 cases no
 ·have hf0:¬ f=[]:=fun e=>hf ⟨e,rfl⟩
  have hf1:(!List.isEmpty f)=true:=by cases f with | nil=>exact absurd rfl hf0 | cons=>rfl
  clear hf
  go_enter Tryz.func119,Tryz.ntmps119
  go_wp2
  go_ret
  exact ⟨ret_int HC.out.symm,HB.out⟩
 clear hf
 go_enter Tryz.func119,Tryz.ntmps119
 go_wp2
 go_ret
 exact ⟨ret_int HC.out.symm,HB.out⟩
theorem rwalk_flag3 (f:Qm.W) (no:Bool) (A:Option Addr) (n c:Nat) (ks:List Nd) (w:World) (bx:Nat) (hf:¬ (f=[]/\no=false)) :
  Calls Tryz.prog 119 #[.agg (ndRow 3 ⟨[],0,0,0,[],false⟩ f no A n c).toArray,.pointer (some ⟨bx,0,none⟩)] w fun e w'=>e=.returned (.int .i64 (ckNd (.mk 3 ⟨[],0,0,0,[],false⟩ f no ks)))/\Below w.heap.size w w':=by
 unfold ndRow
 have HC:Hid (ckNd (.mk 3 ⟨[],0,0,0,[],false⟩ f no ks)=4):=qh (by
  simp only [ckNd];rw [if_neg (by omega),if_neg (by simp [leafK]),if_neg (by simp [At.zero]),if_pos ⟨by omega,by cases no <;> simp_all⟩])
 have HB:=qh ((qbr _ w).alloc (qr _) (.cells #[.int .i64 3,.string ⟨#[]⟩,.int .i64 0,.int .i64 0,.int .i64 0,.string ⟨#[]⟩,.bool false,.string ⟨f.toArray⟩,.bool no,.slice A n c] 99))
 cases no
 ·have hf0:¬ f=[]:=fun e=>hf ⟨e,rfl⟩
  have hf1:(!List.isEmpty f)=true:=by cases f with | nil=>exact absurd rfl hf0 | cons=>rfl
  clear hf
  go_enter Tryz.func119,Tryz.ntmps119
  go_wp2
  go_ret
  exact ⟨ret_int HC.out.symm,HB.out⟩
 clear hf
 go_enter Tryz.func119,Tryz.ntmps119
 go_wp2
 go_ret
 exact ⟨ret_int HC.out.symm,HB.out⟩
theorem rwalk_flag4 (f:Qm.W) (no:Bool) (A:Option Addr) (n c:Nat) (ks:List Nd) (w:World) (bx:Nat) (hf:¬ (f=[]/\no=false)) :
  Calls Tryz.prog 119 #[.agg (ndRow 4 ⟨[],0,0,0,[],false⟩ f no A n c).toArray,.pointer (some ⟨bx,0,none⟩)] w fun e w'=>e=.returned (.int .i64 (ckNd (.mk 4 ⟨[],0,0,0,[],false⟩ f no ks)))/\Below w.heap.size w w':=by
 unfold ndRow
 have HC:Hid (ckNd (.mk 4 ⟨[],0,0,0,[],false⟩ f no ks)=4):=qh (by
  simp only [ckNd];rw [if_neg (by omega),if_neg (by simp [leafK]),if_neg (by simp [At.zero]),if_pos ⟨by omega,by cases no <;> simp_all⟩])
 have HB:=qh ((qbr _ w).alloc (qr _) (.cells #[.int .i64 4,.string ⟨#[]⟩,.int .i64 0,.int .i64 0,.int .i64 0,.string ⟨#[]⟩,.bool false,.string ⟨f.toArray⟩,.bool no,.slice A n c] 99))
 cases no
 ·have hf0:¬ f=[]:=fun e=>hf ⟨e,rfl⟩
  have hf1:(!List.isEmpty f)=true:=by cases f with | nil=>exact absurd rfl hf0 | cons=>rfl
  clear hf
  go_enter Tryz.func119,Tryz.ntmps119
  go_wp2
  go_ret
  exact ⟨ret_int HC.out.symm,HB.out⟩
 clear hf
 go_enter Tryz.func119,Tryz.ntmps119
 go_wp2
 go_ret
 exact ⟨ret_int HC.out.symm,HB.out⟩
theorem rwalk_name (f:Qm.W) (no:Bool) (A:Option Addr) (n c:Nat) (ks:List Nd) (w:World) (bx:Nat) (h3:f.length<=maxLen) (hn:isName f=false) :
  Calls Tryz.prog 119 #[.agg (ndRow 5 ⟨[],0,0,0,[],false⟩ f no A n c).toArray,.pointer (some ⟨bx,0,none⟩)] w fun e w'=>e=.returned (.int .i64 (ckNd (.mk 5 ⟨[],0,0,0,[],false⟩ f no ks)))/\Below w.heap.size w w':=by
 unfold ndRow
 have hnm:=fun wx=>rname_any ⟨f.toArray⟩ wx (by rw [bsz];exact h3)
 rw [show (⟨f.toArray⟩:ByteArray).data.toList=f from by simp,hn] at hnm
 have Hnm:=qh hnm;clear hnm
 have HC:Hid (ckNd (.mk 5 ⟨[],0,0,0,[],false⟩ f no ks)=1):=qh (by
  simp only [ckNd];rw [if_neg (by omega),if_neg (by simp [leafK]),if_neg (by simp [At.zero]),if_neg (by simp),if_pos ⟨by trivial,hn⟩])
 have HB:=qh ((qbr _ w).alloc (qr _) (.cells #[.int .i64 5,.string ⟨#[]⟩,.int .i64 0,.int .i64 0,.int .i64 0,.string ⟨#[]⟩,.bool false,.string ⟨f.toArray⟩,.bool no,.slice A n c] 99))
 clear h3 hn
 go_enter Tryz.func119,Tryz.ntmps119
 go_wp2_with (first | (go_at_call 89;refine (Hnm.out _).mono ?_;rintro e w1 ⟨rfl,hb1⟩;refine Hid.out ?_))
 refine qh ?_
 have HB1:=qh (HB.out.trans (hb1.mono HB.out.size));clear hb1
 go_wp2
 go_ret
 exact ⟨ret_int HC.out.symm,HB1.out⟩
end
section
open Go.RowKit Qm
def RWalks (ks:List Nd):Prop:=∀ x∈ks,∀ (S:Nat->Prop) (cx:List Value) (bx:Nat) (w:World),RNd w S cx x->(∀ k,S k->k<w.heap.size)->w.cell? ⟨bx,0,none⟩=some (selfC bx) ->
  Calls Tryz.prog 119 #[.agg cx.toArray,.pointer (some ⟨bx,0,none⟩)] w fun e w'=>e=.returned (.int .i64 (ckNd x))/\Below w.heap.size w w'
theorem rwalk_kids3 (ks:List Nd) (S:Nat->Prop) (A:Option Addr) (n c bx:Nat) (w:World) (ih:RWalks ks) (hnc:n<=c) (hc:c<=maxLen) (hK:RKids w S A n ks) (hS:∀ k,S k->k<w.heap.size) (hbx:w.cell? ⟨bx,0,none⟩=some (selfC bx)) :
  Calls Tryz.prog 119 #[.agg (ndRow 3 ⟨[],0,0,0,[],false⟩ [] false A n c).toArray,.pointer (some ⟨bx,0,none⟩)] w fun e w'=>e=.returned (.int .i64 (ckNd (.mk 3 ⟨[],0,0,0,[],false⟩ [] false ks)))/\Below w.heap.size w w':=by
 unfold ndRow
 have HI:=qh ih;clear ih
 have HX0:=qh hbx
 have hbl:bx<w.heap.size:=World.block_lt_of_cell? _ _ hbx
 have henter:∀ (args:Array Value) (W:World),(callFunc 119 args).run Tryz.prog W=.ok (.enter 119 args) W:=fun args W=>by kernel_rfl
 clear hbx
 have HS:=qh hS;clear hS
 have HK:=qh hK;clear hK
 unfold maxLen at hc
 have HC:Hid (ckNd (.mk 3 ⟨[],0,0,0,[],false⟩ [] false ks)=ckKids ks):=qh (by
  simp only [ckNd];rw [if_neg (by omega),if_neg (by simp [leafK]),if_neg (by simp [At.zero]),if_neg (by simp),if_neg (by simp),if_neg (by simp [leafK])])
 have HB:=qh ((qbr _ w).alloc (qr _) (.cells #[.int .i64 3,.string ⟨#[]⟩,.int .i64 0,.int .i64 0,.int .i64 0,.string ⟨#[]⟩,.bool false,.string ⟨#[]⟩,.bool false,.slice A n c] 99))
 go_enter Tryz.func119,Tryz.ntmps119
 go_wp2
 go_loopg [73] n (fun g iv wr=>∃ (j:Nat),Hid (j+g=n)/\iv=.int .i64 j/\Hid (ckKids ks=ckKids (ks.drop j))/\Below w.heap.size w wr)
 case atStart=>exact ⟨0,qh (Nat.zero_add _),rfl,qh rfl,HB.out⟩
 case round =>
  obtain ⟨j,Hj,rfl,Hcl,hb⟩:=hrel
  have HBr:=qh hb;clear hb
  have hbx:=(HBr.out.cell (p:=⟨bx,0,none⟩) hbl).trans HX0.out
  unfold selfC at hbx
  have hbr:bx<wr.heap.size:=ql hbl HBr.out.size
  by_cases hj:j<n
  ·obtain ⟨b,o,x,y,rfl,hb,hy,hxy,hcell⟩:=(HK.out.under HBr.out HS.out).at_ hj
   have Hdr:=qh (drop_step hy)
   have hmem:=List.mem_of_getElem? hy
   obtain ⟨yk,ya,yf,yn,yks⟩:=y
   obtain ⟨A',n',c',rfl,-⟩:=hxy.open_
   have g0:=hcell 0 (by omega);have g1:=hcell 1 (by omega);have g2:=hcell 2 (by omega);have g3:=hcell 3 (by omega);have g4:=hcell 4 (by omega);have g5:=hcell 5 (by omega);have g6:=hcell 6 (by omega);have g7:=hcell 7 (by omega);have g8:=hcell 8 (by omega);have g9:=hcell 9 (by omega)
   clear hcell
   unfold ndRow at g0 g1 g2 g3 g4 g5 g6 g7 g8 g9
   simp only [qgz,qgs,Nat.add_zero] at g0 g1 g2 g3 g4 g5 g6 g7 g8 g9
   clear hy
   have hxy2:=(hxy.under (qbr _ wr |>.alloc (qr _) (.cells #[.int .i64 yk,.string ⟨ya.nm.toArray⟩,.int .i64 ya.op,.int .i64 ya.ver,.int .i64 ya.slot,.string ⟨ya.fl.toArray⟩,.bool ya.on,.string ⟨yf.toArray⟩,.bool yn,.slice A' n' c'] 99)) fun q hq=>ql (HS.out q hq) HBr.out.size)
   clear hxy
   have hcall:=HI.out _ hmem S _ bx _ hxy2 (fun q hq=>by have:=HS.out q hq;have:=HBr.out.size;simp;omega) (((qbr _ wr |>.alloc (qr _) _).cell (p:=⟨bx,0,none⟩) hbr).trans ((HBr.out.cell (p:=⟨bx,0,none⟩) hbl).trans HX0.out))
   unfold ndRow at hcall
   have HX:Hid (ckKids (ks.drop j)=if ckNd (.mk yk ya yf yn yks)=0 then ckKids (ks.drop (j+1)) else ckNd (.mk yk ya yf yn yks)):=qh (by rw [Hdr.out];simp only [ckKids])
   generalize hq:ckNd (.mk yk ya yf yn yks)=q at hcall HX
   have HBn:=qh (HBr.out.alloc HBr.out.size (.cells #[.int .i64 yk,.string ⟨ya.nm.toArray⟩,.int .i64 ya.op,.int .i64 ya.ver,.int .i64 ya.slot,.string ⟨ya.fl.toArray⟩,.bool ya.on,.string ⟨yf.toArray⟩,.bool yn,.slice A' n' c'] 99))
   clear hq hxy2
   have Hcall:=qh hcall;clear hcall
   by_cases h0:q=0
   ·subst h0
    go_wp2_with (first | (go_at_call 119;refine Hcall.out.mono ?_;rintro e w' ⟨rfl,hb'⟩;refine Hid.out ?_))
    refine qh ?_
    have HB':=qh (HBn.out.trans (hb'.mono HBn.out.size));clear hb'
    go_wp2_with fail
    go_roundg (gk - 1)
    case measure=>have:=Hj.out;omega
    case rel=>exact ⟨j+1,qh (by have:=Hj.out;omega),by go_num,qh (by rw [Hcl.out,HX.out];simp),HB'.out⟩
   have h1:(q != 0)=true:=by simpa using h0
   have H0:=qh h0;clear h0
   go_wp2_with (first | (go_at_call 119;refine Hcall.out.mono ?_;rintro e w' ⟨rfl,hb'⟩;refine Hid.out ?_))
   refine qh ?_
   have HB':=qh (HBn.out.trans (hb'.mono HBn.out.size));clear hb'
   go_wp2_with fail
   go_ret
   exact ⟨ret_int (by rw [HC.out,Hcl.out,HX.out,if_neg H0.out]),HB'.out⟩
  go_wp2_with fail
  go_ret
  refine ⟨ret_int ?_,HBr.out⟩
  rw [HC.out,Hcl.out,List.drop_of_length_le (by have:=HK.out.len;omega)];rfl
theorem rwalk_kids4 (ks:List Nd) (S:Nat->Prop) (A:Option Addr) (n c bx:Nat) (w:World) (ih:RWalks ks) (hnc:n<=c) (hc:c<=maxLen) (hK:RKids w S A n ks) (hS:∀ k,S k->k<w.heap.size) (hbx:w.cell? ⟨bx,0,none⟩=some (selfC bx)) :
  Calls Tryz.prog 119 #[.agg (ndRow 4 ⟨[],0,0,0,[],false⟩ [] false A n c).toArray,.pointer (some ⟨bx,0,none⟩)] w fun e w'=>e=.returned (.int .i64 (ckNd (.mk 4 ⟨[],0,0,0,[],false⟩ [] false ks)))/\Below w.heap.size w w':=by
 unfold ndRow
 have HI:=qh ih;clear ih
 have HX0:=qh hbx
 have hbl:bx<w.heap.size:=World.block_lt_of_cell? _ _ hbx
 have henter:∀ (args:Array Value) (W:World),(callFunc 119 args).run Tryz.prog W=.ok (.enter 119 args) W:=fun args W=>by kernel_rfl
 clear hbx
 have HS:=qh hS;clear hS
 have HK:=qh hK;clear hK
 unfold maxLen at hc
 have HC:Hid (ckNd (.mk 4 ⟨[],0,0,0,[],false⟩ [] false ks)=ckKids ks):=qh (by
  simp only [ckNd];rw [if_neg (by omega),if_neg (by simp [leafK]),if_neg (by simp [At.zero]),if_neg (by simp),if_neg (by simp),if_neg (by simp [leafK])])
 have HB:=qh ((qbr _ w).alloc (qr _) (.cells #[.int .i64 4,.string ⟨#[]⟩,.int .i64 0,.int .i64 0,.int .i64 0,.string ⟨#[]⟩,.bool false,.string ⟨#[]⟩,.bool false,.slice A n c] 99))
 go_enter Tryz.func119,Tryz.ntmps119
 go_wp2
 go_loopg [73] n (fun g iv wr=>∃ (j:Nat),Hid (j+g=n)/\iv=.int .i64 j/\Hid (ckKids ks=ckKids (ks.drop j))/\Below w.heap.size w wr)
 case atStart=>exact ⟨0,qh (Nat.zero_add _),rfl,qh rfl,HB.out⟩
 case round =>
  obtain ⟨j,Hj,rfl,Hcl,hb⟩:=hrel
  have HBr:=qh hb;clear hb
  have hbx:=(HBr.out.cell (p:=⟨bx,0,none⟩) hbl).trans HX0.out
  unfold selfC at hbx
  have hbr:bx<wr.heap.size:=ql hbl HBr.out.size
  by_cases hj:j<n
  ·obtain ⟨b,o,x,y,rfl,hb,hy,hxy,hcell⟩:=(HK.out.under HBr.out HS.out).at_ hj
   have Hdr:=qh (drop_step hy)
   have hmem:=List.mem_of_getElem? hy
   obtain ⟨yk,ya,yf,yn,yks⟩:=y
   obtain ⟨A',n',c',rfl,-⟩:=hxy.open_
   have g0:=hcell 0 (by omega);have g1:=hcell 1 (by omega);have g2:=hcell 2 (by omega);have g3:=hcell 3 (by omega);have g4:=hcell 4 (by omega);have g5:=hcell 5 (by omega);have g6:=hcell 6 (by omega);have g7:=hcell 7 (by omega);have g8:=hcell 8 (by omega);have g9:=hcell 9 (by omega)
   clear hcell
   unfold ndRow at g0 g1 g2 g3 g4 g5 g6 g7 g8 g9
   simp only [qgz,qgs,Nat.add_zero] at g0 g1 g2 g3 g4 g5 g6 g7 g8 g9
   clear hy
   have hxy2:=(hxy.under (qbr _ wr |>.alloc (qr _) (.cells #[.int .i64 yk,.string ⟨ya.nm.toArray⟩,.int .i64 ya.op,.int .i64 ya.ver,.int .i64 ya.slot,.string ⟨ya.fl.toArray⟩,.bool ya.on,.string ⟨yf.toArray⟩,.bool yn,.slice A' n' c'] 99)) fun q hq=>ql (HS.out q hq) HBr.out.size)
   clear hxy
   have hcall:=HI.out _ hmem S _ bx _ hxy2 (fun q hq=>by have:=HS.out q hq;have:=HBr.out.size;simp;omega) (((qbr _ wr |>.alloc (qr _) _).cell (p:=⟨bx,0,none⟩) hbr).trans ((HBr.out.cell (p:=⟨bx,0,none⟩) hbl).trans HX0.out))
   unfold ndRow at hcall
   have HX:Hid (ckKids (ks.drop j)=if ckNd (.mk yk ya yf yn yks)=0 then ckKids (ks.drop (j+1)) else ckNd (.mk yk ya yf yn yks)):=qh (by rw [Hdr.out];simp only [ckKids])
   generalize hq:ckNd (.mk yk ya yf yn yks)=q at hcall HX
   have HBn:=qh (HBr.out.alloc HBr.out.size (.cells #[.int .i64 yk,.string ⟨ya.nm.toArray⟩,.int .i64 ya.op,.int .i64 ya.ver,.int .i64 ya.slot,.string ⟨ya.fl.toArray⟩,.bool ya.on,.string ⟨yf.toArray⟩,.bool yn,.slice A' n' c'] 99))
   clear hq hxy2
   have Hcall:=qh hcall;clear hcall
   by_cases h0:q=0
   ·subst h0
    go_wp2_with (first | (go_at_call 119;refine Hcall.out.mono ?_;rintro e w' ⟨rfl,hb'⟩;refine Hid.out ?_))
    refine qh ?_
    have HB':=qh (HBn.out.trans (hb'.mono HBn.out.size));clear hb'
    go_wp2_with fail
    go_roundg (gk - 1)
    case measure=>have:=Hj.out;omega
    case rel=>exact ⟨j+1,qh (by have:=Hj.out;omega),by go_num,qh (by rw [Hcl.out,HX.out];simp),HB'.out⟩
   have h1:(q != 0)=true:=by simpa using h0
   have H0:=qh h0;clear h0
   go_wp2_with (first | (go_at_call 119;refine Hcall.out.mono ?_;rintro e w' ⟨rfl,hb'⟩;refine Hid.out ?_))
   refine qh ?_
   have HB':=qh (HBn.out.trans (hb'.mono HBn.out.size));clear hb'
   go_wp2_with fail
   go_ret
   exact ⟨ret_int (by rw [HC.out,Hcl.out,HX.out,if_neg H0.out]),HB'.out⟩
  go_wp2_with fail
  go_ret
  refine ⟨ret_int ?_,HBr.out⟩
  rw [HC.out,Hcl.out,List.drop_of_length_le (by have:=HK.out.len;omega)];rfl
theorem rwalk_kids5 (f:Qm.W) (no:Bool) (h3:f.length<=maxLen) (hn:isName f=true) (ks:List Nd) (S:Nat->Prop) (A:Option Addr) (n c bx:Nat) (w:World) (ih:RWalks ks) (hnc:n<=c) (hc:c<=maxLen) (hK:RKids w S A n ks) (hS:∀ k,S k->k<w.heap.size) (hbx:w.cell? ⟨bx,0,none⟩=some (selfC bx)) :
  Calls Tryz.prog 119 #[.agg (ndRow 5 ⟨[],0,0,0,[],false⟩ f no A n c).toArray,.pointer (some ⟨bx,0,none⟩)] w fun e w'=>e=.returned (.int .i64 (ckNd (.mk 5 ⟨[],0,0,0,[],false⟩ f no ks)))/\Below w.heap.size w w':=by
 unfold ndRow
 have HI:=qh ih;clear ih
 have HX0:=qh hbx
 have hbl:bx<w.heap.size:=World.block_lt_of_cell? _ _ hbx
 have henter:∀ (args:Array Value) (W:World),(callFunc 119 args).run Tryz.prog W=.ok (.enter 119 args) W:=fun args W=>by kernel_rfl
 clear hbx
 have HS:=qh hS;clear hS
 have HK:=qh hK;clear hK
 unfold maxLen at hc
 have hnm:=fun wx=>rname_any ⟨f.toArray⟩ wx (by rw [bsz];exact h3)
 rw [show (⟨f.toArray⟩:ByteArray).data.toList=f from by simp,hn] at hnm
 have Hnm:=qh hnm;clear hnm
 have HC:Hid (ckNd (.mk 5 ⟨[],0,0,0,[],false⟩ f no ks)=ckKids ks):=qh (by
  simp only [ckNd];rw [if_neg (by omega),if_neg (by simp [leafK]),if_neg (by simp [At.zero]),if_neg (by simp),if_neg (by simp [hn]),if_neg (by simp [leafK])])
 have HB:=qh ((qbr _ w).alloc (qr _) (.cells #[.int .i64 5,.string ⟨#[]⟩,.int .i64 0,.int .i64 0,.int .i64 0,.string ⟨#[]⟩,.bool false,.string ⟨f.toArray⟩,.bool no,.slice A n c] 99))
 have HW:=qh (Whole.new w _ 99 [.int .i64 5,.string ⟨#[]⟩,.int .i64 0,.int .i64 0,.int .i64 0,.string ⟨#[]⟩,.bool false,.string ⟨f.toArray⟩,.bool no,.slice A n c] rfl)
 clear h3 hn
 go_enter Tryz.func119,Tryz.ntmps119
 go_wp2_with (first | (go_at_call 89;refine (Hnm.out _).mono ?_;rintro e w1 ⟨rfl,hb1⟩;refine Hid.out ?_))
 refine qh ?_
 replace HB:=qh (HB.out.trans (hb1.mono HB.out.size))
 have q9:=(HW.out.below hb1 HW.out.lt).cell 9
 simp only [qgz,qgs] at q9
 clear hb1 HW Hnm
 go_wp2
 go_loopg [73] n (fun g iv wr=>∃ (j:Nat),Hid (j+g=n)/\iv=.int .i64 j/\Hid (ckKids ks=ckKids (ks.drop j))/\Below w.heap.size w wr)
 case atStart=>exact ⟨0,qh (Nat.zero_add _),rfl,qh rfl,HB.out⟩
 case round =>
  obtain ⟨j,Hj,rfl,Hcl,hb⟩:=hrel
  have HBr:=qh hb;clear hb
  have hbx:=(HBr.out.cell (p:=⟨bx,0,none⟩) hbl).trans HX0.out
  unfold selfC at hbx
  have hbr:bx<wr.heap.size:=ql hbl HBr.out.size
  by_cases hj:j<n
  ·obtain ⟨b,o,x,y,rfl,hb,hy,hxy,hcell⟩:=(HK.out.under HBr.out HS.out).at_ hj
   have Hdr:=qh (drop_step hy)
   have hmem:=List.mem_of_getElem? hy
   obtain ⟨yk,ya,yf,yn,yks⟩:=y
   obtain ⟨A',n',c',rfl,-⟩:=hxy.open_
   have g0:=hcell 0 (by omega);have g1:=hcell 1 (by omega);have g2:=hcell 2 (by omega);have g3:=hcell 3 (by omega);have g4:=hcell 4 (by omega);have g5:=hcell 5 (by omega);have g6:=hcell 6 (by omega);have g7:=hcell 7 (by omega);have g8:=hcell 8 (by omega);have g9:=hcell 9 (by omega)
   clear hcell
   unfold ndRow at g0 g1 g2 g3 g4 g5 g6 g7 g8 g9
   simp only [qgz,qgs,Nat.add_zero] at g0 g1 g2 g3 g4 g5 g6 g7 g8 g9
   clear hy
   have hxy2:=(hxy.under (qbr _ wr |>.alloc (qr _) (.cells #[.int .i64 yk,.string ⟨ya.nm.toArray⟩,.int .i64 ya.op,.int .i64 ya.ver,.int .i64 ya.slot,.string ⟨ya.fl.toArray⟩,.bool ya.on,.string ⟨yf.toArray⟩,.bool yn,.slice A' n' c'] 99)) fun q hq=>ql (HS.out q hq) HBr.out.size)
   clear hxy
   have hcall:=HI.out _ hmem S _ bx _ hxy2 (fun q hq=>by have:=HS.out q hq;have:=HBr.out.size;simp;omega) (((qbr _ wr |>.alloc (qr _) _).cell (p:=⟨bx,0,none⟩) hbr).trans ((HBr.out.cell (p:=⟨bx,0,none⟩) hbl).trans HX0.out))
   unfold ndRow at hcall
   have HX:Hid (ckKids (ks.drop j)=if ckNd (.mk yk ya yf yn yks)=0 then ckKids (ks.drop (j+1)) else ckNd (.mk yk ya yf yn yks)):=qh (by rw [Hdr.out];simp only [ckKids])
   generalize hq:ckNd (.mk yk ya yf yn yks)=q at hcall HX
   have HBn:=qh (HBr.out.alloc HBr.out.size (.cells #[.int .i64 yk,.string ⟨ya.nm.toArray⟩,.int .i64 ya.op,.int .i64 ya.ver,.int .i64 ya.slot,.string ⟨ya.fl.toArray⟩,.bool ya.on,.string ⟨yf.toArray⟩,.bool yn,.slice A' n' c'] 99))
   clear hq hxy2
   have Hcall:=qh hcall;clear hcall
   by_cases h0:q=0
   ·subst h0
    go_wp2_with (first | (go_at_call 119;refine Hcall.out.mono ?_;rintro e w' ⟨rfl,hb'⟩;refine Hid.out ?_))
    refine qh ?_
    have HB':=qh (HBn.out.trans (hb'.mono HBn.out.size));clear hb'
    go_wp2_with fail
    go_roundg (gk - 1)
    case measure=>have:=Hj.out;omega
    case rel=>exact ⟨j+1,qh (by have:=Hj.out;omega),by go_num,qh (by rw [Hcl.out,HX.out];simp),HB'.out⟩
   have h1:(q != 0)=true:=by simpa using h0
   have H0:=qh h0;clear h0
   go_wp2_with (first | (go_at_call 119;refine Hcall.out.mono ?_;rintro e w' ⟨rfl,hb'⟩;refine Hid.out ?_))
   refine qh ?_
   have HB':=qh (HBn.out.trans (hb'.mono HBn.out.size));clear hb'
   go_wp2_with fail
   go_ret
   exact ⟨ret_int (by rw [HC.out,Hcl.out,HX.out,if_neg H0.out]),HB'.out⟩
  go_wp2_with fail
  go_ret
  refine ⟨ret_int ?_,HBr.out⟩
  rw [HC.out,Hcl.out,List.drop_of_length_le (by have:=HK.out.len;omega)];rfl
theorem rwalk_any:∀ (y:Nd) (S:Nat->Prop) (x:List Value) (bx:Nat) (w:World),RNd w S x y->(∀ k,S k->k<w.heap.size)->w.cell? ⟨bx,0,none⟩=some (selfC bx) ->
  Calls Tryz.prog 119 #[.agg x.toArray,.pointer (some ⟨bx,0,none⟩)] w fun e w'=>e=.returned (.int .i64 (ckNd y))/\Below w.heap.size w w':=by
 refine Nd.ind fun k a f no ks ih=>?_
 intro S x bx w hR hS hbx
 obtain ⟨A,n,c,rfl,hnc,hc,h1,h2,h3,hK⟩:=hR.open_
 obtain ⟨nm,op,ver,slot,fl,on⟩:=a
 by_cases hk:k<1\/5<k
 ·exact rwalk_out nm fl f op ver slot k on no A n c ks w bx hk
 by_cases h12:k=1\/k=2
 ·rcases h12 with rfl | rfl
  ·exact rwalk_leaf1 nm fl f op ver slot on no A n c ks w bx hnc hc h1 h2 hK.len
  exact rwalk_leaf2 nm fl f op ver slot on no A n c ks w bx hnc hc h1 h2 hK.len
 by_cases ha:nm=[]/\op=0/\ver=0/\slot=0/\fl=[]/\on=false
 ·obtain ⟨rfl,rfl,rfl,rfl,rfl,rfl⟩:=ha
  rcases (show k=3\/k=4\/k=5 by omega) with rfl | rfl | rfl
  ·by_cases hf:f=[]/\no=false
   ·obtain ⟨rfl,rfl⟩:=hf
    exact rwalk_kids3 ks S A n c bx w ih hnc hc hK hS hbx
   exact rwalk_flag3 f no A n c ks w bx hf
  ·by_cases hf:f=[]/\no=false
   ·obtain ⟨rfl,rfl⟩:=hf
    exact rwalk_kids4 ks S A n c bx w ih hnc hc hK hS hbx
   exact rwalk_flag4 f no A n c ks w bx hf
  cases hn:isName f
  ·exact rwalk_name f no A n c ks w bx h3 hn
  exact rwalk_kids5 f no h3 hn ks S A n c bx w ih hnc hc hK hS hbx
 exact rwalk_bad nm fl f op ver slot k on no A n c ks w bx (by omega) (by omega) ha
end
section
open Go.RowKit Qm
theorem rcheckNeed_any (y:Nd) (S:Nat->Prop) (x:List Value) (w:World) (hR:RNd w S x y) (hS:∀ k,S k->k<w.heap.size) :
  Calls Tryz.prog 90 #[.agg x.toArray] w fun e w'=>e=.returned (.int .i64 (ckNeed y))/\Below w.heap.size w w':=by
 have hm:=szd_many y
 have hle:=szd_le y 4 (by omega)
 have HC:Hid (ckNeed y=if 20<(szd y 4).1\/4<(szd y 4).2 then 2 else ckNd y):=qh (by unfold ckNeed;simp only [hm])
 have hz:=fun wx hw h=>sized_any y S x 4 wx hw h (by omega)
 clear hm
 have hb0:Below w.heap.size w (w.alloc (.cells x.toArray 99)):=(qbr _ w).alloc (qr _) _
 have HB:=qh hb0
 have HW:=qh (Whole.new w _ 99 x rfl)
 have Hwk:=qh (fun bx wx hw h hc=>rwalk_any y S x bx wx hw h hc)
 have HR:=qh hR;have HS:=qh hS
 generalize szd y 4=q at HC hz hle
 generalize ckNeed y=R at HC ⊢
 generalize ckNd y=v at HC Hwk
 obtain ⟨m,d⟩:=q
 simp only at HC hz hle
 obtain ⟨m1,m2,d1,d2⟩:=hle
 obtain ⟨k,a,f,no,ks⟩:=y
 obtain ⟨A,n,c,rfl,-⟩:=hR.open_
 clear hR hS hb0
 unfold ndRow at HB HW HR hz Hwk ⊢
 have hz4:((4:Nat):Int)=4:=rfl
 simp only [hz4] at hz
 have Hz:=qh (hz _ (HR.out.under HB.out HS.out) fun k hk=>ql (HS.out k hk) HB.out.size)
 clear hz
 have henter:∀ (args:Array Value) (W:World),(callFunc 119 args).run Tryz.prog W=.ok (.enter 119 args) W:=fun args W=>by kernel_rfl
 by_cases hmm:20<m
 ·have HC2:=qh (HC.out.trans (if_pos (.inl hmm)))
  go_enter Tryz.func90,Tryz.ntmps90
  go_wp2_with (first | (go_at_call 118;refine Hz.out.mono ?_;rintro e w1 ⟨rfl,hb1⟩;refine Hid.out ?_))
  refine qh ?_
  have HB1:=qh (HB.out.trans (hb1.mono HB.out.size))
  clear hb1
  go_wp2
  go_ret
  exact ⟨ret_int HC2.out.symm,HB1.out⟩
 have hmm':decide (20<m)=false:=by simpa using hmm
 by_cases hdd:4<d
 ·have HC2:=qh (HC.out.trans (if_pos (.inr hdd)))
  go_enter Tryz.func90,Tryz.ntmps90
  go_wp2_with (first | (go_at_call 118;refine Hz.out.mono ?_;rintro e w1 ⟨rfl,hb1⟩;refine Hid.out ?_))
  refine qh ?_
  have HB1:=qh (HB.out.trans (hb1.mono HB.out.size))
  clear hb1
  go_wp2
  go_ret
  exact ⟨ret_int HC2.out.symm,HB1.out⟩
 have hdd':decide (4<d)=false:=by simpa using hdd
 have HC2:=qh (HC.out.trans (if_neg (by omega)))
 go_enter Tryz.func90,Tryz.ntmps90
 go_wp2_with (first | (go_at_call 118;refine Hz.out.mono ?_;rintro e w1 ⟨rfl,hb1⟩;refine Hid.out ?_))
 refine qh ?_
 have HB1:=qh (HB.out.trans (hb1.mono HB.out.size))
 have HW1:=qh (HW.out.below hb1 HW.out.lt);clear hb1
 obtain ⟨g0,g1,g2,g3,g4,g5,g6,g7,g8,g9⟩:=ch10 HW1.out.cell
 simp only [qgz,qgs] at g0 g1 g2 g3 g4 g5 g6 g7 g8 g9
 have hlt:=HW1.out.lt
 have hbl:Below w1.heap.size w1 (w1.alloc (.cells #[selfC w1.heap.size] 144)):=(qbr _ _).alloc (qr _) _
 have HB2:=qh (HB1.out.trans (hbl.mono HB1.out.size))
 have Hwk2:=qh (Hwk.out w1.heap.size _ (HR.out.under HB2.out HS.out) (fun k hk=>ql (HS.out k hk) HB2.out.size) ((Whole.new w1 _ 144 [selfC w1.heap.size] rfl).cell 0))
 clear hbl Hwk
 unfold selfC at Hwk2 HB2
 go_wp2_with (first | (go_at_call 119;refine Hwk2.out.mono ?_;rintro e w3 ⟨rfl,hb3⟩;refine Hid.out ?_))
 refine qh ?_
 have HB3:=qh (HB2.out.trans (hb3.mono HB2.out.size))
 clear hb3
 go_wp2
 go_ret
 exact ⟨ret_int HC2.out.symm,HB3.out⟩
end
end Go.Proofs.YtedbhlgjcnnknaaGreatDoor

namespace Qm
open Go
theorem wle_trans {a b c:W} (h1:a<=b) (h2:b<=c):a<=c:=List.le_trans h1 h2
theorem wlt_of {a b:W} (h1:a<=b) (h2:a≠b):a<b:=
 Decidable.byContradiction fun h=>h2 (List.le_antisymm h1 (List.not_lt.1 h))
theorem wlt_of_le_lt {a b c:W} (h1:a<=b) (h2:b<c):a<c:=Std.lt_of_le_of_lt h1 h2
theorem compactUpTo_strict (d:Array W) (hs:∀ i j,i<=j->j<d.size->d[i]! <= d[j]!):∀ m,m<=d.size->(Lib.compactUpTo d m).Pairwise (· < ·)/\∀ x∈Lib.compactUpTo d m,∃ j,j<m/\x=d[j]! := by
 intro m
 induction m with
 | zero=>intro _;simp [Lib.compactUpTo]
 | succ m ih =>
  intro hm
  obtain ⟨h1,h2⟩:=ih (by omega)
  rw [Lib.compactUpTo_succ]
  split
  ·rename_i hk
   refine ⟨List.pairwise_append.2 ⟨h1,by simp,fun x hx y hy=>?_⟩,fun x hx=>?_⟩
   ·obtain ⟨j,hj,rfl⟩:=h2 x hx
    obtain rfl:y=d[m]! := by simpa using hy
    have hne:d[m - 1]! ≠ d[m]! := by
     intro e
     unfold Lib.keeps at hk
     simp at hk
     rcases hk with hk | hk
     ·omega
     exact hk e.symm
    exact wlt_of_le_lt (hs j (m - 1) (by omega) (by omega)) (wlt_of (hs (m - 1) m (by omega) (by omega)) hne)
   rcases List.mem_append.1 hx with hx | hx
   ·obtain ⟨j,hj,e⟩:=h2 x hx;exact ⟨j,by omega,e⟩
   exact ⟨m,by omega,by simpa using hx⟩
  rw [List.append_nil]
  exact ⟨h1,fun x hx=>by obtain ⟨j,hj,e⟩:=h2 x hx;exact ⟨j,by omega,e⟩⟩
theorem strict_eq:∀ {a b:List W},a.Pairwise (· < ·)->b.Pairwise (· < ·)->(∀ x,x∈a↔x∈b)->a=b
 | [],[],_,_,_=>rfl
 | [],y :: _,_,_,h=>by have:=(h y).2 (List.mem_cons_self ..);simp at this
 | x :: _,[],_,_,h=>by have:=(h x).1 (List.mem_cons_self ..);simp at this
 | x :: r,y :: t,ha,hb,h=>by
  obtain ⟨a1,a2⟩:=List.pairwise_cons.1 ha
  obtain ⟨b1,b2⟩:=List.pairwise_cons.1 hb
  have e:x=y:=by
   rcases List.mem_cons.1 ((h x).1 (List.mem_cons_self ..)) with e | hx
   ·exact e
   rcases List.mem_cons.1 ((h y).2 (List.mem_cons_self ..)) with e | hy
   ·exact e.symm
   exact absurd (List.lt_trans (a1 y hy) (b1 x hx)) (List.lt_irrefl _)
  subst e
  congr 1
  refine strict_eq a2 b2 fun z=>⟨fun hz=>?_,fun hz=>?_⟩
  ·rcases List.mem_cons.1 ((h z).1 (List.mem_cons_of_mem _ hz)) with e | h1
   ·subst e;exact absurd (a1 z hz) (List.lt_irrefl _)
   exact h1
  rcases List.mem_cons.1 ((h z).2 (List.mem_cons_of_mem _ hz)) with e | h1
  ·subst e;exact absurd (b1 z hz) (List.lt_irrefl _)
  exact h1
end Qm

namespace Go.Proofs.YtedbhlgjcnnknaaGreatDoor
section
open Go.RowKit Qm
theorem sortW_pair (l:List Qm.W):(sortW l).Pairwise (· <= ·):=by
 unfold sortW
 have:=List.pairwise_mergeSort (le:=fun x y:Qm.W=>decide (x<=y)) (fun a b c h1 h2=>by simp at *;exact wle_trans h1 h2) (fun a b=>by simp;exact List.le_total a b) l
 exact this.imp fun h=>by simpa using h
theorem sortW_mem {l:List Qm.W} {x:Qm.W}:x∈sortW l↔x∈l:=by unfold sortW;exact List.mem_mergeSort
theorem sortW_strict {l:List Qm.W} (h:l.Nodup):(sortW l).Pairwise (· < ·):=by
 have hn:(sortW l).Nodup:=(List.mergeSort_perm l _).nodup_iff.2 h
 exact (sortW_pair l).imp₂ (fun a b h1 h2=>wlt_of h1 h2) hn
theorem flags_same {l fs:List Qm.W} (h:l.Nodup) (hm:∀ x,x∈l↔x∈fs):sortW l=Lib.compact (sortW fs):=by
 refine strict_eq (sortW_strict h) ?_ fun x=>by rw [sortW_mem,mem_compact,sortW_mem,hm]
 unfold Lib.compact
 refine (compactUpTo_strict _ (fun i j hij hj=>?_) _ (by simp)).1
 have hp:=sortW_pair fs
 simp only [List.size_toArray] at hj
 rcases Nat.eq_or_lt_of_le hij with e | hlt
 ·subst e;exact List.le_refl _
 rw [List.pairwise_iff_getElem] at hp
 have:=hp i j (by omega) hj hlt
 simpa [List.getElem!_toArray,hj,Nat.lt_of_le_of_lt hij hj] using this
end
section
open Go.RowKit Qm
structure Fm (BM BF b:Nat) (K:Qm.W->Bool) (m:Nat) (w:World):Prop where
 mp:Whole w BM 150 [.map (some b)]
 fn:Whole w BF 170 [.func (.func 120) #[] #[.pointer (some ⟨BM,0,none⟩),.pointer (some ⟨BF,0,none⟩)]]
 set:StrSet Tryz.prog w b K m
 nm:BM≠b
 nf:BF≠b
def FmPost (BM BF b:Nat) (K:Qm.W->Bool) (m:Nat) (gs:List Qm.W) (w:World) (e:Ending) (w':World):Prop:=
 ∃ K' m',e=.returned (.tuple #[])/\Fm BM BF b K' m' w'/\Far (fun i=>i=b) w w'/\(∀ x,K' x=(K x || decide (x∈gs)))/\m'<=m+gs.length
structure Fy (w:World) (BM BF b:Nat) (K:Qm.W->Bool) (m:Nat) (gs:List Qm.W) (wx:World):Prop where
 ex:∃ K' m',Fm BM BF b K' m' wx/\(∀ x,K' x=(K x || decide (x∈gs)))/\m'<=m+gs.length
 far:Far (fun i=>i=b) w wx
section
variable {w wx wy : World} {BM BF b m : Nat} {K : Qm.W → Bool} {gs hs : List Qm.W}
theorem Fm.below (h:Fm BM BF b K m wx) (hb:Below wx.heap.size wx wy):Fm BM BF b K m wy:=
 ⟨h.mp.below hb h.mp.lt,h.fn.below hb h.fn.lt,h.set.kept (row:=none) ⟨hb.os,hb.tape,hb.output,hb.size,fun i hi _=>hb.block i hi⟩ (by simp),h.nm,h.nf⟩
theorem Fm.put {K':Qm.W->Bool} {m':Nat} (h:Fm BM BF b K m wx) (hs:StrSet Tryz.prog wy b K' m') (hg:wx.grownBy wy (some b)):Fm BM BF b K' m' wy:=
 ⟨h.mp.grown hg (by simpa using h.nm),h.fn.grown hg (by simpa using h.nf),hs,h.nm,h.nf⟩
theorem Fy.call {K1:Qm.W->Bool} {m1:Nat} (hf:Far (fun i=>i=b) w wx) (h2:∀ x,K1 x=(K x || decide (x∈gs))) (h3:m1<=m+gs.length) {e:Ending} (h:FmPost BM BF b K1 m1 hs wx e wy):Fy w BM BF b K m (gs++hs) wy:=by
 obtain ⟨K',m',_,f,far,hk,hm⟩:=h
 refine ⟨⟨K',m',f,fun x=>?_,by simp;omega⟩,hf.trans far fun _ _ e=>e⟩
 rw [hk,h2,Bool.or_assoc];simp [List.mem_append]
end
theorem rflagsC_any:∀ (y:Nd) (S:Nat->Prop) (x:List Value) (BM BF b:Nat) (K:Qm.W->Bool) (m:Nat) (w:World),RNd w S x y->(∀ k,S k->k<w.heap.size/\¬ k=b)->Fm BM BF b K m w->m+(flagsN y).length<=10000 ->
  Calls Tryz.prog 120 #[.agg x.toArray,.pointer (some ⟨BM,0,none⟩),.pointer (some ⟨BF,0,none⟩)] w (FmPost BM BF b K m (flagsN y) w):=by
 refine Nd.ind fun k a f no ks ih=>?_
 intro S x BM BF b K m w hR hS hF hcnt
 have HI:=qh ih;clear ih
 obtain ⟨A,n,c,rfl,hnc,hc,h1,h2,h3,hK⟩:=hR.open_
 clear hR
 have HS:=qh hS;have HK:=qh hK
 have hfn:flagsN (.mk k a f no ks)=(if k=5 then [f] else [])++flagsL ks:=rfl
 rw [hfn] at hcnt ⊢
 clear hfn hS hK
 unfold ndRow
 have hb0:Below w.heap.size w (w.alloc (.cells #[.int .i64 k,.string ⟨a.nm.toArray⟩,.int .i64 a.op,.int .i64 a.ver,.int .i64 a.slot,.string ⟨a.fl.toArray⟩,.bool a.on,.string ⟨f.toArray⟩,.bool no,.slice A n c] 99)):=(qbr _ w).alloc (qr _) _
 have HF0:=qh (hF.below hb0)
 have HB0:=qh hb0
 have HX:=qh (Whole.new w _ 99 [.int .i64 k,.string ⟨a.nm.toArray⟩,.int .i64 a.op,.int .i64 a.ver,.int .i64 a.slot,.string ⟨a.fl.toArray⟩,.bool a.on,.string ⟨f.toArray⟩,.bool no,.slice A n c] rfl)
 have hbl:=hF.set.lt
 have henter:∀ (args:Array Value) (W:World),(callFunc 120 args).run Tryz.prog W=.ok (.enter 120 args) W:=fun args W=>by kernel_rfl
 have t1:=hF.mp.cell 0
 have t2:=hF.mp.lt
 simp only [qgz] at t1
 unfold maxLen at hc
 by_cases hk:k=5
 ·subst hk
  rw [if_pos rfl] at hcnt ⊢
  obtain ⟨hd,ehd⟩:∃ hd,[f]=hd:=⟨_,rfl⟩
  obtain ⟨w5,hrun,hset5,hg5,hz5⟩:=HF0.out.set.put (t:=150) Tryz.underlying9 Tryz.underlying4 Tryz.underlying150 (x:=f) h3 (by simp at hcnt;unfold maxLen;omega)
  rw [ehd] at hcnt ⊢
  have Hcnt:=qh hcnt
  have HY:Hid (Fy w BM BF b K m hd w5):=qh ⟨⟨_,_,HF0.out.put hset5 hg5,fun x=>by rw [<- ehd,Bool.or_comm];congr 1;rw [Bool.eq_iff_iff];simp,by rw [<- ehd];split <;> simp⟩,(Far.of_below _ HB0.out).trans (Far.of_grown hg5 fun i e=>by injection e) fun _ _ e=>e⟩
  have g9:=(HX.out.grown hg5 (by intro e;injection e with e;omega)).cell 9
  simp only [qgz,qgs] at g9
  have hz6:w.heap.size<w5.heap.size:=by rw [hz5];simp
  clear hcnt hF hb0 h1 h2 h3 hset5 hg5 ehd
  go_enter Tryz.func120,Tryz.ntmps120
  go_wp2
  go_loopg [15] n (fun g iv wr=>∃ (j:Nat),Hid (j+g=n)/\iv=.int .i64 j/\Hid (Fy w BM BF b K m (hd++flagsL (ks.take j)) wr))
  case atStart=>exact ⟨0,qh (Nat.zero_add _),rfl,qh (by simpa [flagsL] using HY.out)⟩
  case round =>
   obtain ⟨j,Hj,rfl,HYr⟩:=hrel
   have hsz:=HYr.out.far.size
   by_cases hj:j<n
   ·obtain ⟨K1,m1,hf1,hk1,hm1⟩:=HYr.out.ex
    have HF1:=qh hf1
    have HK1:=qh hk1
    have hKr:=HK.out.keep fun p hp=>HYr.out.far.cell (HS.out _ hp).1 (fun e=>(HS.out _ hp).2 e)
    obtain ⟨bb,o,x,y,rfl,hb,hy,hxy,hcell⟩:=hKr.at_ hj
    have hmem:=List.mem_of_getElem? hy
    have Htk:Hid (flagsL (ks.take (j+1))=flagsL (ks.take j)++flagsN y):=qh (by rw [List.take_add_one,hy];exact flagsL_snoc _ _)
    obtain ⟨yk,ya,yf,yn,yks⟩:=y
    obtain ⟨A',n',c',rfl,-⟩:=hxy.open_
    have g0:=hcell 0 (by omega);have g1:=hcell 1 (by omega);have g2:=hcell 2 (by omega);have g3:=hcell 3 (by omega);have g4:=hcell 4 (by omega);have g5:=hcell 5 (by omega);have g6:=hcell 6 (by omega);have g7:=hcell 7 (by omega);have g8:=hcell 8 (by omega);have g9:=hcell 9 (by omega)
    clear hcell
    unfold ndRow at g0 g1 g2 g3 g4 g5 g6 g7 g8 g9
    simp only [qgz,qgs,Nat.add_zero] at g0 g1 g2 g3 g4 g5 g6 g7 g8 g9
    have hbn:Below wr.heap.size wr (wr.alloc (.cells #[.int .i64 yk,.string ⟨ya.nm.toArray⟩,.int .i64 ya.op,.int .i64 ya.ver,.int .i64 ya.slot,.string ⟨ya.fl.toArray⟩,.bool ya.on,.string ⟨yf.toArray⟩,.bool yn,.slice A' n' c'] 99)):=(qbr _ wr).alloc (qr _) _
    have hxy2:=hxy.under hbn fun q hq=>ql (HS.out q hq).1 hsz
    have hlim:m1+(flagsN (.mk yk ya yf yn yks)).length<=10000:=by have h1:=flagsL_take ks (j+1);rw [Htk.out,List.length_append] at h1;have h2:=Hcnt.out;rw [List.length_append] at h2 hm1;omega
    have Hcall:=qh (HI.out _ hmem S _ BM BF b K1 m1 _ hxy2 (fun q hq=>⟨ql (HS.out q hq).1 (qlt hsz hbn.size),(HS.out q hq).2⟩) (HF1.out.below hbn) hlim)
    have Hfar:=qh (HYr.out.far.trans (Far.of_below (fun i=>i=b) hbn) fun _ _ e=>e)
    have q1:=HF1.out.fn.cell 0
    have q2:=HF1.out.fn.lt
    simp only [qgz] at q1
    unfold ndRow at Hcall
    clear hxy hxy2 hmem hy hbn hKr hf1 hk1 hlim
    go_wp2_with (first | (go_at_call 120;refine Hcall.out.mono ?_;intro e w' hp;obtain ⟨K',m',rfl,hp'⟩:=id hp;refine Hid.out ?_))
    refine qh ?_
    have HY2:=qh (Fy.call Hfar.out HK1.out hm1 hp)
    clear hp hp'
    go_wp2
    go_roundg (gk - 1)
    case measure=>have:=Hj.out;omega
    case rel=>exact ⟨j+1,qh (by have:=Hj.out;omega),by go_num,qh (by rw [Htk.out,<- List.append_assoc];exact HY2.out)⟩
   have e:ks.take j=ks:=List.take_of_length_le (by have:=HK.out.len;omega)
   rw [e] at HYr
   go_wp2
   go_end0
   obtain ⟨K1,m1,hf1,hk1,hm1⟩:=HYr.out.ex
   exact ⟨K1,m1,rfl,hf1,HYr.out.far,hk1,hm1⟩
 have hk':(k == 5)=false:=by simpa using hk
 rw [if_neg hk] at hcnt ⊢
 obtain ⟨hd,ehd⟩:∃ hd:List Qm.W,[]=hd:=⟨_,rfl⟩
 rw [ehd] at hcnt ⊢
 have Hcnt:=qh hcnt
 have HY:Hid (Fy w BM BF b K m hd _):=qh ⟨⟨_,_,HF0.out,fun x=>by rw [<- ehd];simp,by omega⟩,Far.of_below _ HB0.out⟩
 clear hcnt hF hb0 h1 h2 h3 ehd
 go_enter Tryz.func120,Tryz.ntmps120
 go_wp2
 go_loopg [15] n (fun g iv wr=>∃ (j:Nat),Hid (j+g=n)/\iv=.int .i64 j/\Hid (Fy w BM BF b K m (hd++flagsL (ks.take j)) wr))
 case atStart=>exact ⟨0,qh (Nat.zero_add _),rfl,qh (by simpa [flagsL] using HY.out)⟩
 case round =>
  obtain ⟨j,Hj,rfl,HYr⟩:=hrel
  have hsz:=HYr.out.far.size
  by_cases hj:j<n
  ·obtain ⟨K1,m1,hf1,hk1,hm1⟩:=HYr.out.ex
   have HF1:=qh hf1
   have HK1:=qh hk1
   have hKr:=HK.out.keep fun p hp=>HYr.out.far.cell (HS.out _ hp).1 (fun e=>(HS.out _ hp).2 e)
   obtain ⟨bb,o,x,y,rfl,hb,hy,hxy,hcell⟩:=hKr.at_ hj
   have hmem:=List.mem_of_getElem? hy
   have Htk:Hid (flagsL (ks.take (j+1))=flagsL (ks.take j)++flagsN y):=qh (by rw [List.take_add_one,hy];exact flagsL_snoc _ _)
   obtain ⟨yk,ya,yf,yn,yks⟩:=y
   obtain ⟨A',n',c',rfl,-⟩:=hxy.open_
   have g0:=hcell 0 (by omega);have g1:=hcell 1 (by omega);have g2:=hcell 2 (by omega);have g3:=hcell 3 (by omega);have g4:=hcell 4 (by omega);have g5:=hcell 5 (by omega);have g6:=hcell 6 (by omega);have g7:=hcell 7 (by omega);have g8:=hcell 8 (by omega);have g9:=hcell 9 (by omega)
   clear hcell
   unfold ndRow at g0 g1 g2 g3 g4 g5 g6 g7 g8 g9
   simp only [qgz,qgs,Nat.add_zero] at g0 g1 g2 g3 g4 g5 g6 g7 g8 g9
   have hbn:Below wr.heap.size wr (wr.alloc (.cells #[.int .i64 yk,.string ⟨ya.nm.toArray⟩,.int .i64 ya.op,.int .i64 ya.ver,.int .i64 ya.slot,.string ⟨ya.fl.toArray⟩,.bool ya.on,.string ⟨yf.toArray⟩,.bool yn,.slice A' n' c'] 99)):=(qbr _ wr).alloc (qr _) _
   have hxy2:=hxy.under hbn fun q hq=>ql (HS.out q hq).1 hsz
   have hlim:m1+(flagsN (.mk yk ya yf yn yks)).length<=10000:=by have h1:=flagsL_take ks (j+1);rw [Htk.out,List.length_append] at h1;have h2:=Hcnt.out;rw [List.length_append] at h2 hm1;omega
   have Hcall:=qh (HI.out _ hmem S _ BM BF b K1 m1 _ hxy2 (fun q hq=>⟨ql (HS.out q hq).1 (qlt hsz hbn.size),(HS.out q hq).2⟩) (HF1.out.below hbn) hlim)
   have Hfar:=qh (HYr.out.far.trans (Far.of_below (fun i=>i=b) hbn) fun _ _ e=>e)
   have q1:=HF1.out.fn.cell 0
   have q2:=HF1.out.fn.lt
   simp only [qgz] at q1
   unfold ndRow at Hcall
   clear hxy hxy2 hmem hy hbn hKr hf1 hk1 hlim
   go_wp2_with (first | (go_at_call 120;refine Hcall.out.mono ?_;intro e w' hp;obtain ⟨K',m',rfl,hp'⟩:=id hp;refine Hid.out ?_))
   refine qh ?_
   have HY2:=qh (Fy.call Hfar.out HK1.out hm1 hp)
   clear hp hp'
   go_wp2
   go_roundg (gk - 1)
   case measure=>have:=Hj.out;omega
   case rel=>exact ⟨j+1,qh (by have:=Hj.out;omega),by go_num,qh (by rw [Htk.out,<- List.append_assoc];exact HY2.out)⟩
  have e:ks.take j=ks:=List.take_of_length_le (by have:=HK.out.len;omega)
  rw [e] at HYr
  go_wp2
  go_end0
  obtain ⟨K1,m1,hf1,hk1,hm1⟩:=HYr.out.ex
  exact ⟨K1,m1,rfl,hf1,HYr.out.far,hk1,hm1⟩
end
section
open Go.RowKit Qm
theorem sortStrings_any (base g n cap:Nat) (fs:List Qm.W) (w:World) (hown:w.ownsRow base 9 1 (.slice (some ⟨g,0,none⟩) n cap) n (strs fs)) (hn:n<=100000) :
  Calls Tryz.prog 121 #[.slice (some ⟨g,0,none⟩) n cap] w (SortPost base g n cap fs w):=by
 have H:=qh (sortS_any base g n cap fs w hown hn)
 go_enter Tryz.func121,Tryz.ntmps121
 go_wp2_with (first | (go_at_call 140;refine H.out.mono ?_;rintro e w1 ⟨rfl,h1,h2⟩;refine Hid.out ?_))
 refine qh ?_
 go_wp2
 go_end0
 exact ⟨rfl,h1,h2⟩
end
end Go.Proofs.YtedbhlgjcnnknaaGreatDoor
