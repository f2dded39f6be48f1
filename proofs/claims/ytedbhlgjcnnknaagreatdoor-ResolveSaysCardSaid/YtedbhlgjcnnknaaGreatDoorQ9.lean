/- Parts. -/
import Derived.Test.YtedbhlgjcnnknaaGreatDoorQ8
import Derived.Test.YtedbhlgjcnnknaaGreatDoorShelf
import Derived.Deep.QuietTactic
import Derived.Deep.DeepCutAuto
import Derived.Deep.CutBlock
import Derived.Test.YtedbhlgjcnnknaaGreatDoorQ6
set_option linter.unusedVariables false
set_option linter.unusedSimpArgs false
set_option linter.unusedSectionVars false
set_option maxRecDepth 100000
set_option maxHeartbeats 12800000
namespace Go.Proofs.YtedbhlgjcnnknaaGreatDoor
section
open Go.RowKit Qm
theorem atOf_mk (x:At):atOf ⟨x.nm.toArray⟩ x.op x.ver x.slot ⟨x.fl.toArray⟩ x.on=x:=by
 cases x;simp [atOf]
theorem bsz (l:Qm.W):(⟨l.toArray⟩:ByteArray).size=l.length:=by simp [ByteArray.size]
theorem ncheck_bad (nm fl f:Qm.W) (op ver slot k:Int) (on no:Bool) (A:Option Addr) (n c:Nat) (ks:List Nd) (w:World) (k1:3<=k) (k2:k<=5) (ha:¬ (nm=[]/\op=0/\ver=0/\slot=0/\fl=[]/\on=false)) :
  Calls Tryz.prog 152 #[.agg (ndRow k ⟨nm,op,ver,slot,fl,on⟩ f no A n c).toArray] w fun e w'=>e=.returned (.int .i64 (ckNd (.mk k ⟨nm,op,ver,slot,fl,on⟩ f no ks)))/\Below w.heap.size w w':=by
 unfold ndRow
 have HC:Hid (ckNd (.mk k ⟨nm,op,ver,slot,fl,on⟩ f no ks)=4):=qh (by
  have hl:leafK k=false:=by simp [leafK];omega
  simp only [ckNd];rw [if_neg (by omega),if_neg (by simp [hl]),if_pos ⟨hl,by simpa [At.zero] using ha⟩])
 have e1:(k == 1)=false:=by simp;omega
 have e2:(k == 2)=false:=by simp;omega
 have e3:decide (k<1)=false:=by simp;omega
 have e4:decide (5<k)=false:=by simp;omega
 have HB:=qh ((qbr _ w).alloc (qr _) (.cells #[.int .i64 k,.string ⟨nm.toArray⟩,.int .i64 op,.int .i64 ver,.int .i64 slot,.string ⟨fl.toArray⟩,.bool on,.string ⟨f.toArray⟩,.bool no,.slice A n c] 99))
 by_cases c1:nm=[]
 ·subst c1
  by_cases c2:op=0
  ·subst c2
   by_cases c3:ver=0
   ·subst c3
    by_cases c4:slot=0
    ·subst c4
     by_cases c5:fl=[]
     ·subst c5
      cases on
      ·exact absurd ⟨rfl,rfl,rfl,rfl,rfl,rfl⟩ ha
      clear ha
      go_enter Tryz.func152,Tryz.ntmps152
      go_wp2
      go_ret
      exact ⟨ret_int HC.out.symm,HB.out⟩
     clear ha
     go_enter Tryz.func152,Tryz.ntmps152
     go_wp2
     go_ret
     exact ⟨ret_int HC.out.symm,HB.out⟩
    clear ha
    go_enter Tryz.func152,Tryz.ntmps152
    go_wp2
    go_ret
    exact ⟨ret_int HC.out.symm,HB.out⟩
   clear ha
   go_enter Tryz.func152,Tryz.ntmps152
   go_wp2
   go_ret
   exact ⟨ret_int HC.out.symm,HB.out⟩
  clear ha
  go_enter Tryz.func152,Tryz.ntmps152
  go_wp2
  go_ret
  exact ⟨ret_int HC.out.symm,HB.out⟩
 clear ha
 go_enter Tryz.func152,Tryz.ntmps152
 go_wp2
 go_ret
 exact ⟨ret_int HC.out.symm,HB.out⟩
theorem ncheck_any:∀ (y:Nd) (S:Nat->Prop) (x:List Value) (w:World),RNd w S x y->(∀ k,S k->k<w.heap.size) ->
  Calls Tryz.prog 152 #[.agg x.toArray] w fun e w'=>e=.returned (.int .i64 (ckNd y))/\Below w.heap.size w w':=by
 refine Nd.ind fun k a f no ks ih=>?_
 intro S x w hR hS
 have HI:=qh ih;clear ih
 obtain ⟨A,n,c,rfl,hnc,hc,h1,h2,h3,hK⟩:=hR.open_
 clear hR
 have HS:=qh hS;clear hS
 have HK:=qh hK;clear hK
 unfold maxLen at hc
 obtain ⟨nm,op,ver,slot,fl,on⟩:=a
 unfold ndRow
 simp only [] at h1 h2 ⊢
 have HB:=qh ((qbr _ w).alloc (qr _) (.cells #[.int .i64 k,.string ⟨nm.toArray⟩,.int .i64 op,.int .i64 ver,.int .i64 slot,.string ⟨fl.toArray⟩,.bool on,.string ⟨f.toArray⟩,.bool no,.slice A n c] 99))
 by_cases k1:k<1
 ·have HC:Hid (ckNd (.mk k ⟨nm,op,ver,slot,fl,on⟩ f no ks)=4):=qh (by simp only [ckNd];rw [if_pos (.inl k1)])
  have e1:(k == 1)=false:=by simp;omega
  have e2:(k == 2)=false:=by simp;omega
  go_enter Tryz.func152,Tryz.ntmps152
  go_wp2
  go_ret
  exact ⟨ret_int HC.out.symm,HB.out⟩
 by_cases k5:5<k
 ·have HC:Hid (ckNd (.mk k ⟨nm,op,ver,slot,fl,on⟩ f no ks)=4):=qh (by simp only [ckNd];rw [if_pos (.inr k5)])
  have e1:(k == 1)=false:=by simp;omega
  have e2:(k == 2)=false:=by simp;omega
  go_enter Tryz.func152,Tryz.ntmps152
  go_wp2
  go_ret
  exact ⟨ret_int HC.out.symm,HB.out⟩
 rcases (show k=1\/k=2\/k=3\/k=4\/k=5 by omega) with rfl | rfl | rfl | rfl | rfl
 ·clear k1 k5
  by_cases hn:0<n
  ·have HC:Hid (ckNd (.mk 1 ⟨nm,op,ver,slot,fl,on⟩ f no ks)=4):=qh (by
    have:=HK.out.len
    simp only [ckNd];rw [if_neg (by omega),if_pos ⟨rfl,by omega⟩])
   have hn':(0:Int)<(n:Int):=by omega
   go_enter Tryz.func152,Tryz.ntmps152
   go_wp2
   go_ret
   exact ⟨ret_int HC.out.symm,HB.out⟩
  obtain rfl:n=0:=by omega
  by_cases hf:f=[]/\no=false
  ·obtain ⟨rfl,rfl⟩:=hf
   have HC:Hid (ckNd (.mk 1 ⟨nm,op,ver,slot,fl,on⟩ [] false ks)=ckAtom ⟨nm,op,ver,slot,fl,on⟩):=qh (by
    have:=HK.out.len
    simp only [ckNd];rw [if_neg (by omega),if_neg (by simp [this]),if_neg (by simp [leafK]),if_neg (by simp),if_neg (by simp),if_pos (by rfl)])
   have hck:=fun wx=>check_any ⟨nm.toArray⟩ ⟨fl.toArray⟩ op ver slot on wx (by rw [bsz];exact h1) (by rw [bsz];exact h2)
   rw [show atOf ⟨nm.toArray⟩ op ver slot ⟨fl.toArray⟩ on=⟨nm,op,ver,slot,fl,on⟩ from by simp [atOf]] at hck
   unfold atv at hck
   have Hck:=qh hck;clear hck
   clear h1 h2 h3
   go_enter Tryz.func152,Tryz.ntmps152
   go_wp2_with (first | (go_at_call 75;refine (Hck.out _).mono ?_;rintro e w1 ⟨rfl,hb1⟩;refine Hid.out ?_))
   refine qh ?_
   have HB1:=qh (HB.out.trans (hb1.mono HB.out.size));clear hb1
   go_wp2
   go_ret
   exact ⟨ret_int HC.out.symm,HB1.out⟩
  have HC:Hid (ckNd (.mk 1 ⟨nm,op,ver,slot,fl,on⟩ f no ks)=4):=qh (by
   have:=HK.out.len
   simp only [ckNd];rw [if_neg (by omega),if_neg (by simp [this]),if_neg (by simp [leafK]),if_pos ⟨by omega,by cases no <;> simp_all⟩])
  by_cases hf0:f=[]
  ·subst hf0
   cases no
   ·exact absurd ⟨rfl,rfl⟩ hf
   clear hf
   go_enter Tryz.func152,Tryz.ntmps152
   go_wp2
   go_ret
   exact ⟨ret_int HC.out.symm,HB.out⟩
  clear hf
  go_enter Tryz.func152,Tryz.ntmps152
  go_wp2
  go_ret
  exact ⟨ret_int HC.out.symm,HB.out⟩
 ·clear k1 k5
  by_cases hn:0<n
  ·have HC:Hid (ckNd (.mk 2 ⟨nm,op,ver,slot,fl,on⟩ f no ks)=4):=qh (by
    have:=HK.out.len
    simp only [ckNd];rw [if_neg (by omega),if_pos ⟨rfl,by omega⟩])
   have hn':(0:Int)<(n:Int):=by omega
   go_enter Tryz.func152,Tryz.ntmps152
   go_wp2
   go_ret
   exact ⟨ret_int HC.out.symm,HB.out⟩
  obtain rfl:n=0:=by omega
  by_cases hf:f=[]/\no=false
  ·obtain ⟨rfl,rfl⟩:=hf
   have HC:Hid (ckNd (.mk 2 ⟨nm,op,ver,slot,fl,on⟩ [] false ks)=ckAtom ⟨nm,op,ver,slot,fl,on⟩):=qh (by
    have:=HK.out.len
    simp only [ckNd];rw [if_neg (by omega),if_neg (by simp [this]),if_neg (by simp [leafK]),if_neg (by simp),if_neg (by simp),if_pos (by rfl)])
   have hck:=fun wx=>check_any ⟨nm.toArray⟩ ⟨fl.toArray⟩ op ver slot on wx (by rw [bsz];exact h1) (by rw [bsz];exact h2)
   rw [show atOf ⟨nm.toArray⟩ op ver slot ⟨fl.toArray⟩ on=⟨nm,op,ver,slot,fl,on⟩ from by simp [atOf]] at hck
   unfold atv at hck
   have Hck:=qh hck;clear hck
   clear h1 h2 h3
   go_enter Tryz.func152,Tryz.ntmps152
   go_wp2_with (first | (go_at_call 75;refine (Hck.out _).mono ?_;rintro e w1 ⟨rfl,hb1⟩;refine Hid.out ?_))
   refine qh ?_
   have HB1:=qh (HB.out.trans (hb1.mono HB.out.size));clear hb1
   go_wp2
   go_ret
   exact ⟨ret_int HC.out.symm,HB1.out⟩
  have HC:Hid (ckNd (.mk 2 ⟨nm,op,ver,slot,fl,on⟩ f no ks)=4):=qh (by
   have:=HK.out.len
   simp only [ckNd];rw [if_neg (by omega),if_neg (by simp [this]),if_neg (by simp [leafK]),if_pos ⟨by omega,by cases no <;> simp_all⟩])
  by_cases hf0:f=[]
  ·subst hf0
   cases no
   ·exact absurd ⟨rfl,rfl⟩ hf
   clear hf
   go_enter Tryz.func152,Tryz.ntmps152
   go_wp2
   go_ret
   exact ⟨ret_int HC.out.symm,HB.out⟩
  clear hf
  go_enter Tryz.func152,Tryz.ntmps152
  go_wp2
  go_ret
  exact ⟨ret_int HC.out.symm,HB.out⟩
 ·clear k1 k5
  by_cases ha:nm=[]/\op=0/\ver=0/\slot=0/\fl=[]/\on=false
  ·obtain ⟨rfl,rfl,rfl,rfl,rfl,rfl⟩:=ha
   by_cases hf:f=[]/\no=false
   ·obtain ⟨rfl,rfl⟩:=hf
    have HC:Hid (ckNd (.mk 3 ⟨[],0,0,0,[],false⟩ [] false ks)=ckKids ks):=qh (by
     simp only [ckNd];rw [if_neg (by omega),if_neg (by simp [leafK]),if_neg (by simp [At.zero]),if_neg (by simp),if_neg (by simp),if_neg (by simp [leafK])])
    clear h1 h2 h3
    go_enter Tryz.func152,Tryz.ntmps152
    go_wp2
    go_loopg [70] n (fun g iv wr=>∃ (j:Nat),Hid (j+g=n)/\iv=.int .i64 j/\Hid (ckKids ks=ckKids (ks.drop j))/\Below w.heap.size w wr)
    case atStart=>exact ⟨0,qh (Nat.zero_add _),rfl,qh rfl,HB.out⟩
    case round =>
     obtain ⟨j,Hj,rfl,Hcl,hb⟩:=hrel
     have HBr:=qh hb;clear hb
     by_cases hj:j<n
     ·obtain ⟨b,o,x,y,rfl,hb,hy,hxy,hcell⟩:=(HK.out.under HBr.out HS.out).at_ hj
      have Hdr:=qh (drop_step hy)
      have hmem:=List.mem_of_getElem? hy
      obtain ⟨yk,ya,yf,yn,yks⟩:=y
      obtain ⟨A',n',c',rfl,-⟩:=hxy.open_
      have g0:=hcell 0 (by omega);have g1:=hcell 1 (by omega);have g2:=hcell 2 (by omega);have g3:=hcell 3 (by omega);have g4:=hcell 4 (by omega);have g5:=hcell 5 (by omega);have g6:=hcell 6 (by omega);have g7:=hcell 7 (by omega);have g8:=hcell 8 (by omega);have g9:=hcell 9 (by omega)
      clear hcell
      unfold ndRow at g0 g1 g2 g3 g4 g5 g6 g7 g8 g9
      simp only [qgz,qgs,Nat.add_zero] at g0 g1 g2 g3 g4 g5 g6 g7 g8 g9
      clear hy
      have hxy2:=(hxy.under (qbr _ wr |>.alloc (qr _) (.cells #[.int .i64 yk,.string ⟨ya.nm.toArray⟩,.int .i64 ya.op,.int .i64 ya.ver,.int .i64 ya.slot,.string ⟨ya.fl.toArray⟩,.bool ya.on,.string ⟨yf.toArray⟩,.bool yn,.slice A' n' c'] 99)) fun q hq=>ql (HS.out q hq) HBr.out.size)
      clear hxy
      have hcall:=HI.out _ hmem S _ _ hxy2 (fun q hq=>by have:=HS.out q hq;have:=HBr.out.size;simp;omega)
      unfold ndRow at hcall
      have HX:Hid (ckKids (ks.drop j)=if ckNd (.mk yk ya yf yn yks)=0 then ckKids (ks.drop (j+1)) else ckNd (.mk yk ya yf yn yks)):=qh (by rw [Hdr.out];simp only [ckKids])
      generalize hq:ckNd (.mk yk ya yf yn yks)=q at hcall HX
      have HBn:=qh (HBr.out.alloc HBr.out.size (.cells #[.int .i64 yk,.string ⟨ya.nm.toArray⟩,.int .i64 ya.op,.int .i64 ya.ver,.int .i64 ya.slot,.string ⟨ya.fl.toArray⟩,.bool ya.on,.string ⟨yf.toArray⟩,.bool yn,.slice A' n' c'] 99))
      clear hq hxy2
      have Hcall:=qh hcall;clear hcall
      by_cases h0:q=0
      ·subst h0
       go_wp2_with fail
       refine Hcall.out.mono ?_
       rintro e w' ⟨rfl,hb'⟩
       have HB':=qh (HBn.out.trans (hb'.mono HBn.out.size));clear hb'
       go_wp2_with fail
       go_roundg (gk - 1)
       case measure=>have:=Hj.out;omega
       case rel=>exact ⟨j+1,qh (by have:=Hj.out;omega),by go_num,qh (by rw [Hcl.out,HX.out];simp),HB'.out⟩
      have h1:(q != 0)=true:=by simpa using h0
      have H0:=qh h0;clear h0
      go_wp2_with fail
      refine Hcall.out.mono ?_
      rintro e w' ⟨rfl,hb'⟩
      have HB':=qh (HBn.out.trans (hb'.mono HBn.out.size));clear hb'
      go_wp2_with fail
      go_ret
      exact ⟨ret_int (by rw [HC.out,Hcl.out,HX.out,if_neg H0.out]),HB'.out⟩
     go_wp2_with fail
     go_ret
     refine ⟨ret_int ?_,HBr.out⟩
     rw [HC.out,Hcl.out,List.drop_of_length_le (by have:=HK.out.len;omega)];rfl
   have HC:Hid (ckNd (.mk 3 ⟨[],0,0,0,[],false⟩ f no ks)=4):=qh (by
    simp only [ckNd];rw [if_neg (by omega),if_neg (by simp [leafK]),if_neg (by simp [At.zero]),if_pos ⟨by omega,by cases no <;> simp_all⟩])
   by_cases hf0:f=[]
   ·subst hf0
    cases no
    ·exact absurd ⟨rfl,rfl⟩ hf
    clear hf
    go_enter Tryz.func152,Tryz.ntmps152
    go_wp2
    go_ret
    exact ⟨ret_int HC.out.symm,HB.out⟩
   clear hf
   go_enter Tryz.func152,Tryz.ntmps152
   go_wp2
   go_ret
   exact ⟨ret_int HC.out.symm,HB.out⟩
  exact ncheck_bad nm fl f op ver slot 3 on no A n c ks w (by decide) (by decide) ha
 ·clear k1 k5
  by_cases ha:nm=[]/\op=0/\ver=0/\slot=0/\fl=[]/\on=false
  ·obtain ⟨rfl,rfl,rfl,rfl,rfl,rfl⟩:=ha
   by_cases hf:f=[]/\no=false
   ·obtain ⟨rfl,rfl⟩:=hf
    have HC:Hid (ckNd (.mk 4 ⟨[],0,0,0,[],false⟩ [] false ks)=ckKids ks):=qh (by
     simp only [ckNd];rw [if_neg (by omega),if_neg (by simp [leafK]),if_neg (by simp [At.zero]),if_neg (by simp),if_neg (by simp),if_neg (by simp [leafK])])
    clear h1 h2 h3
    go_enter Tryz.func152,Tryz.ntmps152
    go_wp2
    go_loopg [70] n (fun g iv wr=>∃ (j:Nat),Hid (j+g=n)/\iv=.int .i64 j/\Hid (ckKids ks=ckKids (ks.drop j))/\Below w.heap.size w wr)
    case atStart=>exact ⟨0,qh (Nat.zero_add _),rfl,qh rfl,HB.out⟩
    case round =>
     obtain ⟨j,Hj,rfl,Hcl,hb⟩:=hrel
     have HBr:=qh hb;clear hb
     by_cases hj:j<n
     ·obtain ⟨b,o,x,y,rfl,hb,hy,hxy,hcell⟩:=(HK.out.under HBr.out HS.out).at_ hj
      have Hdr:=qh (drop_step hy)
      have hmem:=List.mem_of_getElem? hy
      obtain ⟨yk,ya,yf,yn,yks⟩:=y
      obtain ⟨A',n',c',rfl,-⟩:=hxy.open_
      have g0:=hcell 0 (by omega);have g1:=hcell 1 (by omega);have g2:=hcell 2 (by omega);have g3:=hcell 3 (by omega);have g4:=hcell 4 (by omega);have g5:=hcell 5 (by omega);have g6:=hcell 6 (by omega);have g7:=hcell 7 (by omega);have g8:=hcell 8 (by omega);have g9:=hcell 9 (by omega)
      clear hcell
      unfold ndRow at g0 g1 g2 g3 g4 g5 g6 g7 g8 g9
      simp only [qgz,qgs,Nat.add_zero] at g0 g1 g2 g3 g4 g5 g6 g7 g8 g9
      clear hy
      have hxy2:=(hxy.under (qbr _ wr |>.alloc (qr _) (.cells #[.int .i64 yk,.string ⟨ya.nm.toArray⟩,.int .i64 ya.op,.int .i64 ya.ver,.int .i64 ya.slot,.string ⟨ya.fl.toArray⟩,.bool ya.on,.string ⟨yf.toArray⟩,.bool yn,.slice A' n' c'] 99)) fun q hq=>ql (HS.out q hq) HBr.out.size)
      clear hxy
      have hcall:=HI.out _ hmem S _ _ hxy2 (fun q hq=>by have:=HS.out q hq;have:=HBr.out.size;simp;omega)
      unfold ndRow at hcall
      have HX:Hid (ckKids (ks.drop j)=if ckNd (.mk yk ya yf yn yks)=0 then ckKids (ks.drop (j+1)) else ckNd (.mk yk ya yf yn yks)):=qh (by rw [Hdr.out];simp only [ckKids])
      generalize hq:ckNd (.mk yk ya yf yn yks)=q at hcall HX
      have HBn:=qh (HBr.out.alloc HBr.out.size (.cells #[.int .i64 yk,.string ⟨ya.nm.toArray⟩,.int .i64 ya.op,.int .i64 ya.ver,.int .i64 ya.slot,.string ⟨ya.fl.toArray⟩,.bool ya.on,.string ⟨yf.toArray⟩,.bool yn,.slice A' n' c'] 99))
      clear hq hxy2
      have Hcall:=qh hcall;clear hcall
      by_cases h0:q=0
      ·subst h0
       go_wp2_with fail
       refine Hcall.out.mono ?_
       rintro e w' ⟨rfl,hb'⟩
       have HB':=qh (HBn.out.trans (hb'.mono HBn.out.size));clear hb'
       go_wp2_with fail
       go_roundg (gk - 1)
       case measure=>have:=Hj.out;omega
       case rel=>exact ⟨j+1,qh (by have:=Hj.out;omega),by go_num,qh (by rw [Hcl.out,HX.out];simp),HB'.out⟩
      have h1:(q != 0)=true:=by simpa using h0
      have H0:=qh h0;clear h0
      go_wp2_with fail
      refine Hcall.out.mono ?_
      rintro e w' ⟨rfl,hb'⟩
      have HB':=qh (HBn.out.trans (hb'.mono HBn.out.size));clear hb'
      go_wp2_with fail
      go_ret
      exact ⟨ret_int (by rw [HC.out,Hcl.out,HX.out,if_neg H0.out]),HB'.out⟩
     go_wp2_with fail
     go_ret
     refine ⟨ret_int ?_,HBr.out⟩
     rw [HC.out,Hcl.out,List.drop_of_length_le (by have:=HK.out.len;omega)];rfl
   have HC:Hid (ckNd (.mk 4 ⟨[],0,0,0,[],false⟩ f no ks)=4):=qh (by
    simp only [ckNd];rw [if_neg (by omega),if_neg (by simp [leafK]),if_neg (by simp [At.zero]),if_pos ⟨by omega,by cases no <;> simp_all⟩])
   by_cases hf0:f=[]
   ·subst hf0
    cases no
    ·exact absurd ⟨rfl,rfl⟩ hf
    clear hf
    go_enter Tryz.func152,Tryz.ntmps152
    go_wp2
    go_ret
    exact ⟨ret_int HC.out.symm,HB.out⟩
   clear hf
   go_enter Tryz.func152,Tryz.ntmps152
   go_wp2
   go_ret
   exact ⟨ret_int HC.out.symm,HB.out⟩
  exact ncheck_bad nm fl f op ver slot 4 on no A n c ks w (by decide) (by decide) ha
 clear k1 k5
 by_cases ha:nm=[]/\op=0/\ver=0/\slot=0/\fl=[]/\on=false
 ·obtain ⟨rfl,rfl,rfl,rfl,rfl,rfl⟩:=ha
  have hnm:=fun wx=>name_any ⟨f.toArray⟩ wx (by rw [bsz];exact h3)
  rw [show (⟨f.toArray⟩:ByteArray).data.toList=f from by simp] at hnm
  cases hn:isName f
  ·rw [hn] at hnm
   have Hnm:=qh hnm;clear hnm
   have HC:Hid (ckNd (.mk 5 ⟨[],0,0,0,[],false⟩ f no ks)=1):=qh (by
    simp only [ckNd];rw [if_neg (by omega),if_neg (by simp [leafK]),if_neg (by simp [At.zero]),if_neg (by simp),if_pos ⟨by trivial,hn⟩])
   clear h1 h2 h3 hn
   go_enter Tryz.func152,Tryz.ntmps152
   go_wp2_with (first | (go_at_call 104;refine (Hnm.out _).mono ?_;rintro e w1 ⟨rfl,hb1⟩;refine Hid.out ?_))
   refine qh ?_
   have HB1:=qh (HB.out.trans (hb1.mono HB.out.size));clear hb1
   go_wp2
   go_ret
   exact ⟨ret_int HC.out.symm,HB1.out⟩
  rw [hn] at hnm
  have Hnm:=qh hnm;clear hnm
  have HC:Hid (ckNd (.mk 5 ⟨[],0,0,0,[],false⟩ f no ks)=ckKids ks):=qh (by
   simp only [ckNd];rw [if_neg (by omega),if_neg (by simp [leafK]),if_neg (by simp [At.zero]),if_neg (by simp),if_neg (by simp [hn]),if_neg (by simp [leafK])])
  clear h1 h2 h3 hn
  have HW:=qh (Whole.new w _ 99 [.int .i64 5,.string ⟨#[]⟩,.int .i64 0,.int .i64 0,.int .i64 0,.string ⟨#[]⟩,.bool false,.string ⟨f.toArray⟩,.bool no,.slice A n c] rfl)
  go_enter Tryz.func152,Tryz.ntmps152
  go_wp2_with (first | (go_at_call 104;refine (Hnm.out _).mono ?_;rintro e w1 ⟨rfl,hb1⟩;refine Hid.out ?_))
  refine qh ?_
  replace HB:=qh (HB.out.trans (hb1.mono HB.out.size))
  have q9:=(HW.out.below hb1 HW.out.lt).cell 9
  simp only [qgz,qgs] at q9
  clear hb1 HW
  go_wp2
  go_loopg [70] n (fun g iv wr=>∃ (j:Nat),Hid (j+g=n)/\iv=.int .i64 j/\Hid (ckKids ks=ckKids (ks.drop j))/\Below w.heap.size w wr)
  case atStart=>exact ⟨0,qh (Nat.zero_add _),rfl,qh rfl,HB.out⟩
  case round =>
   obtain ⟨j,Hj,rfl,Hcl,hb⟩:=hrel
   have HBr:=qh hb;clear hb
   by_cases hj:j<n
   ·obtain ⟨b,o,x,y,rfl,hb,hy,hxy,hcell⟩:=(HK.out.under HBr.out HS.out).at_ hj
    have Hdr:=qh (drop_step hy)
    have hmem:=List.mem_of_getElem? hy
    obtain ⟨yk,ya,yf,yn,yks⟩:=y
    obtain ⟨A',n',c',rfl,-⟩:=hxy.open_
    have g0:=hcell 0 (by omega);have g1:=hcell 1 (by omega);have g2:=hcell 2 (by omega);have g3:=hcell 3 (by omega);have g4:=hcell 4 (by omega);have g5:=hcell 5 (by omega);have g6:=hcell 6 (by omega);have g7:=hcell 7 (by omega);have g8:=hcell 8 (by omega);have g9:=hcell 9 (by omega)
    clear hcell
    unfold ndRow at g0 g1 g2 g3 g4 g5 g6 g7 g8 g9
    simp only [qgz,qgs,Nat.add_zero] at g0 g1 g2 g3 g4 g5 g6 g7 g8 g9
    clear hy
    have hxy2:=(hxy.under (qbr _ wr |>.alloc (qr _) (.cells #[.int .i64 yk,.string ⟨ya.nm.toArray⟩,.int .i64 ya.op,.int .i64 ya.ver,.int .i64 ya.slot,.string ⟨ya.fl.toArray⟩,.bool ya.on,.string ⟨yf.toArray⟩,.bool yn,.slice A' n' c'] 99)) fun q hq=>ql (HS.out q hq) HBr.out.size)
    clear hxy
    have hcall:=HI.out _ hmem S _ _ hxy2 (fun q hq=>by have:=HS.out q hq;have:=HBr.out.size;simp;omega)
    unfold ndRow at hcall
    have HX:Hid (ckKids (ks.drop j)=if ckNd (.mk yk ya yf yn yks)=0 then ckKids (ks.drop (j+1)) else ckNd (.mk yk ya yf yn yks)):=qh (by rw [Hdr.out];simp only [ckKids])
    generalize hq:ckNd (.mk yk ya yf yn yks)=q at hcall HX
    have HBn:=qh (HBr.out.alloc HBr.out.size (.cells #[.int .i64 yk,.string ⟨ya.nm.toArray⟩,.int .i64 ya.op,.int .i64 ya.ver,.int .i64 ya.slot,.string ⟨ya.fl.toArray⟩,.bool ya.on,.string ⟨yf.toArray⟩,.bool yn,.slice A' n' c'] 99))
    clear hq hxy2
    have Hcall:=qh hcall;clear hcall
    by_cases h0:q=0
    ·subst h0
     go_wp2_with fail
     refine Hcall.out.mono ?_
     rintro e w' ⟨rfl,hb'⟩
     have HB':=qh (HBn.out.trans (hb'.mono HBn.out.size));clear hb'
     go_wp2_with fail
     go_roundg (gk - 1)
     case measure=>have:=Hj.out;omega
     case rel=>exact ⟨j+1,qh (by have:=Hj.out;omega),by go_num,qh (by rw [Hcl.out,HX.out];simp),HB'.out⟩
    have h1:(q != 0)=true:=by simpa using h0
    have H0:=qh h0;clear h0
    go_wp2_with fail
    refine Hcall.out.mono ?_
    rintro e w' ⟨rfl,hb'⟩
    have HB':=qh (HBn.out.trans (hb'.mono HBn.out.size));clear hb'
    go_wp2_with fail
    go_ret
    exact ⟨ret_int (by rw [HC.out,Hcl.out,HX.out,if_neg H0.out]),HB'.out⟩
   go_wp2_with fail
   go_ret
   refine ⟨ret_int ?_,HBr.out⟩
   rw [HC.out,Hcl.out,List.drop_of_length_le (by have:=HK.out.len;omega)];rfl
 exact ncheck_bad nm fl f op ver slot 5 on no A n c ks w (by decide) (by decide) ha
end
section
open Go.RowKit Qm
theorem nCheck_any (y:Nd) (S:Nat->Prop) (x:List Value) (w:World) (hR:RNd w S x y) (hS:∀ k,S k->k<w.heap.size) :
  Calls Tryz.prog 129 #[.agg x.toArray] w fun e w'=>e=.returned (.int .i64 (ckNeed y))/\Below w.heap.size w w':=by
 obtain ⟨k,a,f,no,ks⟩:=y
 obtain ⟨A,n,c,rfl,-⟩:=hR.open_
 have HB:=qh ((qbr _ w).alloc (qr _) (.cells (ndRow k a f no A n c).toArray 99))
 have HW:=qh (Whole.new w _ 99 (ndRow k a f no A n c) rfl)
 have hR1:=hR.under HB.out hS
 have hc1:=fun wx hw=>count_any (.mk k a f no ks) S (ndRow k a f no A n c) 1 20 wx hw
 have hc2:=fun wx hw=>ncheck_any (.mk k a f no ks) S (ndRow k a f no A n c) wx hw
 have HM:=qh (cnt_many (.mk k a f no ks))
 have HK:Hid (ckNeed (.mk k a f no ks)=if tooMany (.mk k a f no ks) then 2 else ckNd (.mk k a f no ks)):=qh rfl
 generalize ckNeed (.mk k a f no ks)=R at HK ⊢
 generalize hq:cnt (.mk k a f no ks) 1 20=q at hc1 HM
 generalize ckNd (.mk k a f no ks)=z at hc2 HK
 clear hq
 have HR:=qh hR1;have HS:=qh hS;clear hR hR1 hS
 unfold ndRow at hc1 hc2 HW HB HR ⊢
 have Hc1:=qh hc1;have Hc2:=qh hc2;clear hc1 hc2
 rcases q with _ | q
 ·have HE:Hid (R=2):=qh (by rw [HK.out,if_pos (HM.out.2 rfl)])
  go_enter Tryz.func129,Tryz.ntmps129
  go_wp2_with (first | (go_at_call 151;refine (Hc1.out _ HR.out (fun k hk=>ql (HS.out k hk) HB.out.size) (by decide) (by decide) (by decide) (by decide)).mono ?_;unfold cntV;rintro e w1 ⟨rfl,hb1⟩;refine Hid.out ?_))
  refine qh ?_
  have HB1:=qh (HB.out.trans (hb1.mono HB.out.size));clear hb1
  go_wp2
  go_ret
  exact ⟨ret_int HE.out.symm,HB1.out⟩
 have hM:=HM.out.1 q rfl
 by_cases h20:20<q
 ·have HE:Hid (R=2):=qh (by rw [HK.out,if_pos (hM.1 h20)])
  clear hM
  go_enter Tryz.func129,Tryz.ntmps129
  go_wp2_with (first | (go_at_call 151;refine (Hc1.out _ HR.out (fun k hk=>ql (HS.out k hk) HB.out.size) (by decide) (by decide) (by decide) (by decide)).mono ?_;unfold cntV;rintro e w1 ⟨rfl,hb1⟩;refine Hid.out ?_))
  refine qh ?_
  have HB1:=qh (HB.out.trans (hb1.mono HB.out.size));clear hb1
  go_wp2
  go_ret
  exact ⟨ret_int HE.out.symm,HB1.out⟩
 have HE:Hid (R=z):=qh (by rw [HK.out,if_neg fun h=>h20 (hM.2 h)])
 have h20':decide ((20:Int)<q)=false:=by simpa using h20
 clear hM
 go_enter Tryz.func129,Tryz.ntmps129
 go_wp2_with (first | (go_at_call 151;refine (Hc1.out _ HR.out (fun k hk=>ql (HS.out k hk) HB.out.size) (by decide) (by decide) (by decide) (by decide)).mono ?_;unfold cntV;rintro e w1 ⟨rfl,hb1⟩;refine Hid.out ?_))
 refine qh ?_
 have HB1:=qh (HB.out.trans (hb1.mono HB.out.size))
 have HR1:=qh (HR.out.under hb1 fun k hk=>ql (HS.out k hk) HB.out.size)
 have HW1:=qh (HW.out.below hb1 HW.out.lt);clear hb1
 obtain ⟨g0,g1,g2,g3,g4,g5,g6,g7,g8,g9⟩:=ch10 HW1.out.cell
 simp only [qgz,qgs] at g0 g1 g2 g3 g4 g5 g6 g7 g8 g9
 go_wp2_with (first | (go_at_call 152;refine (Hc2.out _ HR1.out (fun k hk=>ql (HS.out k hk) HB1.out.size)).mono ?_;rintro e w2 ⟨rfl,hb2⟩;refine Hid.out ?_))
 refine qh ?_
 have HB2:=qh (HB1.out.trans (hb2.mono HB1.out.size));clear hb2
 go_wp2
 go_ret
 exact ⟨ret_int HE.out.symm,HB2.out⟩
end
section
open Go.RowKit Qm
def opsV:Value:=.agg #[.string ⟨#[]⟩,.string ⟨#[61]⟩,.string ⟨#[62,61]⟩,.string ⟨#[60]⟩]
theorem ops_any (w:World) :
  Calls Tryz.prog 182 #[] w fun e w'=>e=.returned opsV/\Below w.heap.size w w':=by
 go_enter Tryz.func182,Tryz.ntmps182
 go_wp2
 refine bodyPost_ret (v:=opsV) (by simp [results,Tryz.results182,go_sem];rfl) rfl ⟨rfl, ?_⟩
 exact (qbr _ _).alloc (qr _) _
theorem ops_any' (w:World):Calls Tryz.prog 182 #[] w fun e w'=>e=.returned (.agg #[.string ⟨#[]⟩,.string ⟨#[61]⟩,.string ⟨#[62,61]⟩,.string ⟨#[60]⟩])/\Below w.heap.size w w':=ops_any w
structure Boxed (w:World) (s:ByteArray) (op ver slot:Int) (f:ByteArray) (on:Bool) (wx:World):Prop where
 c0:wx.cell? ⟨w.heap.size,0,none⟩=some (.string s)
 c1:wx.cell? ⟨w.heap.size,1,none⟩=some (.int .i64 op)
 c2:wx.cell? ⟨w.heap.size,2,none⟩=some (.int .i64 ver)
 c3:wx.cell? ⟨w.heap.size,3,none⟩=some (.int .i64 slot)
 c4:wx.cell? ⟨w.heap.size,4,none⟩=some (.string f)
 c5:wx.cell? ⟨w.heap.size,5,none⟩=some (.bool on)
 b:Below w.heap.size w wx
theorem Boxed.new (w:World) (s:ByteArray) (op ver slot:Int) (f:ByteArray) (on:Bool) {t:TypeId}:Boxed w s op ver slot f on (w.alloc (.cells #[.string s,.int .i64 op,.int .i64 ver,.int .i64 slot,.string f,.bool on] t)):=by
 refine ⟨?_, ?_, ?_, ?_, ?_, ?_,(qbr _ w).alloc (qr _) _⟩ <;> simp [World.cell?,World.alloc,-World.alloc_eq]
theorem bs_size (a:List UInt8):(⟨a.toArray⟩:ByteArray).size=a.length:=by show a.toArray.size=_;simp
theorem ops_at1 (wx:World):(Instr.index 227 (.agg #[.string ⟨#[]⟩,.string ⟨#[61]⟩,.string ⟨#[62,61]⟩,.string ⟨#[60]⟩]) (.int .i64 1)).run Tryz.prog wx=.ok (.string ⟨#[61]⟩) wx:=by
 simp [Instr.index,run_underlying Tryz.underlying227,go_sem]
theorem ops_at2 (wx:World):(Instr.index 227 (.agg #[.string ⟨#[]⟩,.string ⟨#[61]⟩,.string ⟨#[62,61]⟩,.string ⟨#[60]⟩]) (.int .i64 2)).run Tryz.prog wx=.ok (.string ⟨#[62,61]⟩) wx:=by
 simp [Instr.index,run_underlying Tryz.underlying227,go_sem]
theorem ops_at3 (wx:World):(Instr.index 227 (.agg #[.string ⟨#[]⟩,.string ⟨#[61]⟩,.string ⟨#[62,61]⟩,.string ⟨#[60]⟩]) (.int .i64 3)).run Tryz.prog wx=.ok (.string ⟨#[60]⟩) wx:=by
 simp [Instr.index,run_underlying Tryz.underlying227,go_sem]
end
section
open Go.RowKit Qm
def strs (ws:List Qm.W):List Value:=ws.map fun l=>.string ⟨l.toArray⟩
theorem strs_append (a b:List Qm.W):strs (a++b)=strs a++strs b:=by simp [strs]
theorem strs_len (a:List Qm.W):(strs a).length=a.length:=by simp [strs]
theorem string_info:(Tryz.prog.info? 9).map (fun i=>(i.zero,i.size,i.bytes))=some (some (.string ⟨#[]⟩),1,16):=by kernel_rfl
structure Wd (w:World) (box:List Value) (ws:List Qm.W) (A:Option Addr) (c:Nat) (wx:World):Prop where
 own:wx.ownsRow (w.heap.size+1) 9 1 (.slice A ws.length c) ws.length (strs ws)
 box:Whole wx w.heap.size 99 box
 bel:Below w.heap.size w wx
theorem own_below {w w':World} {base:Nat} {e:TypeId} {size:Nat} {v:Value} {n:Nat} {xs:List Value} (h:w.ownsRow base e size v n xs) (hb:Below w.heap.size w w'):w'.ownsRow base e size v n xs:=
 h.kept (grown_of_below hb none) (by cases hv:v.ownBlock <;> simp)
theorem bapp (a b:Qm.W):(⟨a.toArray⟩:ByteArray)++⟨b.toArray⟩=⟨(a++b).toArray⟩:=by
 apply ByteArray.ext
 simp
theorem own_row {w:World} {base:Nat} {e:TypeId} {A:Option Addr} {n c:Nat} {vs:List Value} (h:w.ownsRow base e 1 (.slice A n c) n vs):Row w (fun k=>base<=k/\k<w.heap.size) A n vs:=by
 obtain ⟨A',c',he,_,_,hr⟩:=own_form h
 injection he with h1 _ _
 subst h1
 exact hr
theorem take_snocN {ks:List Nd} {j:Nat} {y:Nd} (h:ks[j]? = some y):ks.take (j+1)=ks.take j++[y]:=by
 obtain ⟨hj,e⟩:=List.getElem?_eq_some_iff.1 h
 rw [List.take_succ_eq_append_getElem hj,e]
end
section
open Go.RowKit Qm
theorem flatG {K:Nat} {cs:List (List Value)} (h:∀ x∈cs,x.length=K):∀ {j:Nat} {x:List Value},cs[j]? = some x->∀ i,i<K->cs.flatten[j * K+i]? = x[i]?:=by
 induction cs with
 | nil=>intro j x hj;simp at hj
 | cons c r ih =>
  intro j x hj i hi
  have hc:=h c (List.mem_cons_self ..)
  rw [List.flatten_cons]
  cases j with
  | zero =>
   simp only [qgz,Option.some.injEq] at hj
   subst hj
   rw [List.getElem?_append_left (by omega)];congr 1;omega
  | succ j =>
   rw [qgs] at hj
   have he:(j+1) * K=j * K+K:=Nat.succ_mul j K
   rw [List.getElem?_append_right (by omega)]
   rw [<- ih (fun y hy=>h y (List.mem_cons_of_mem _ hy)) hj i hi]
   congr 1;omega
def RSeq {α:Type} (K:Nat) (R:List Value->α->Prop) (w:World) (S:Nat->Prop) (A:Option Addr) (n:Nat) (ys:List α):Prop:=
 ∃ cs:List (List Value),ys.length=n/\cs.length=n/\Row w S A (n * K) cs.flatten/\(∀ x∈cs,x.length=K)/\∀ (j:Nat) (x:List Value) (y:α),cs[j]? = some x->ys[j]? = some y->R x y
section
variable {α : Type} {K : Nat} {R R' : List Value → α → Prop} {w w' : World} {S S' : Nat → Prop} {A : Option Addr} {n : Nat} {ys : List α}
theorem RSeq.len (h:RSeq K R w S A n ys):ys.length=n:=by obtain ⟨_,h,_⟩:=h;exact h
theorem RSeq.nil_:RSeq K R w S A 0 []:=⟨[],rfl,rfl,by rw [Nat.zero_mul];exact Row.nil_,fun x h=>by simp at h,fun j x y h _=>by simp at h⟩
theorem RSeq.keep (h:RSeq K R w S A n ys) (hw:∀ p:Addr,S p.block->w'.cell? p=w.cell? p) (hR:∀ x y,R x y->R' x y):RSeq K R' w' S A n ys:=by
 obtain ⟨cs,hk,hcs,hrow,hK,hr⟩:=h
 exact ⟨cs,hk,hcs,hrow.keep hw,hK,fun j x y h1 h2=>hR x y (hr j x y h1 h2)⟩
theorem RSeq.more (hS:∀ k,S k->S' k) (h:RSeq K R w S A n ys) (hR:∀ x y,R x y->R' x y):RSeq K R' w S' A n ys:=by
 obtain ⟨cs,hk,hcs,hrow,hK,hr⟩:=h
 exact ⟨cs,hk,hcs,hrow.more hS,hK,fun j x y h1 h2=>hR x y (hr j x y h1 h2)⟩
theorem RSeq.at_ (h:RSeq K R w S A n ys) {j:Nat} (hj:j<n) (hK0:0<K) :
  ∃ b o x y,A=some ⟨b,o,none⟩/\S b/\ys[j]? = some y/\R x y/\x.length=K/\∀ i,i<K->w.cell? ⟨b,o+j * K+i,none⟩=x[i]?:=by
 obtain ⟨cs,hk,hcs,hrow,hK,hr⟩:=h
 have hjK:j * K+K<=n * K:=by rw [<- Nat.succ_mul];exact Nat.mul_le_mul_right K hj
 obtain ⟨b,o,hA,hb,hc⟩:=hrow.2 (by omega)
 have e1:cs[j]? = some (cs[j]'(by omega)):=qge (by omega)
 have e2:ys[j]? = some (ys[j]'(by omega)):=qge (by omega)
 refine ⟨b,o,_,_,hA,hb,e2,hr j _ _ e1 e2,hK _ (List.getElem_mem _),fun i hi=>?_⟩
 rw [Nat.add_assoc,hc (j * K+i) (by omega)]
 exact flatG hK e1 i hi
end
def pkRow (p:Pk) (A:Option Addr) (n c:Nat) (x:List Value):List Value:=.string ⟨p.nm.toArray⟩ :: .int .i64 p.ver :: .int .i64 p.slot :: .slice A n c :: x
structure RWords (w:World) (S:Nat->Prop) (A:Option Addr) (n:Nat) (fs:List Qm.W):Prop where
 row:Row w S A n (strs fs)
 small:∀ f∈fs,f.length<=maxLen
theorem RWords.len {w:World} {S:Nat->Prop} {A:Option Addr} {n:Nat} {fs:List Qm.W} (h:RWords w S A n fs):fs.length=n:=by have:=h.row.len;simpa [strs] using this
theorem RWords.keep {w w':World} {S:Nat->Prop} {A:Option Addr} {n:Nat} {fs:List Qm.W} (h:RWords w S A n fs) (hw:∀ p:Addr,S p.block->w'.cell? p=w.cell? p):RWords w' S A n fs:=⟨h.row.keep hw,h.small⟩
theorem RWords.more {w:World} {S S':Nat->Prop} (hS:∀ k,S k->S' k) {A:Option Addr} {n:Nat} {fs:List Qm.W} (h:RWords w S A n fs):RWords w S' A n fs:=⟨h.row.more hS,h.small⟩
theorem RWords.under {w w':World} {S:Nat->Prop} {B:Nat} {A:Option Addr} {n:Nat} {fs:List Qm.W} (h:RWords w S A n fs) (hb:Below B w w') (hS:∀ k,S k->k<B):RWords w' S A n fs:=h.keep fun _ hp=>hb.cell (hS _ hp)
theorem RWords.nil_ {w:World} {S:Nat->Prop} {A:Option Addr}:RWords w S A 0 []:=⟨Row.nil_,fun _ h=>by cases h⟩
theorem RWords.at_ {w:World} {S:Nat->Prop} {A:Option Addr} {n:Nat} {fs:List Qm.W} (h:RWords w S A n fs) {j:Nat} (hj:j<n) :
  ∃ b o f,A=some ⟨b,o,none⟩/\S b/\fs[j]? = some f/\f.length<=maxLen/\w.cell? ⟨b,o+j,none⟩=some (.string ⟨f.toArray⟩):=by
 have hl:=h.len
 obtain ⟨b,o,hA,hb,hc⟩:=h.row.at_ hj
 have e:fs[j]? = some (fs[j]'(by omega)):=qge (by omega)
 refine ⟨b,o,_,hA,hb,e,h.small _ (List.getElem_mem _), ?_⟩
 rw [hc]
 simp only [strs,qgm,e,Option.map_some]
structure PkAt (w:World) (S:Nat->Prop) (p:Pk) (A:Option Addr) (n c:Nat) (x:List Value):Prop where
 cap:n<=c
 max:c<=maxLen
 nm:p.nm.length<=maxLen
 fs:RWords w S A n p.fs
 nd:RNd w S x p.nd
def RPk (w:World) (S:Nat->Prop) (cs:List Value) (p:Pk):Prop:=∃ A n c x,cs=pkRow p A n c x/\PkAt w S p A n c x
theorem PkAt.keep {w w':World} {S:Nat->Prop} {p:Pk} {A:Option Addr} {n c:Nat} {x:List Value} (h:PkAt w S p A n c x) (hw:∀ p:Addr,S p.block->w'.cell? p=w.cell? p):PkAt w' S p A n c x:=
 ⟨h.cap,h.max,h.nm,h.fs.keep hw,h.nd.keep hw⟩
theorem PkAt.more {w:World} {S S':Nat->Prop} (hS:∀ k,S k->S' k) {p:Pk} {A:Option Addr} {n c:Nat} {x:List Value} (h:PkAt w S p A n c x):PkAt w S' p A n c x:=
 ⟨h.cap,h.max,h.nm,h.fs.more hS,h.nd.more hS⟩
theorem PkAt.under {w w':World} {S:Nat->Prop} {B:Nat} {p:Pk} {A:Option Addr} {n c:Nat} {x:List Value} (h:PkAt w S p A n c x) (hb:Below B w w') (hS:∀ k,S k->k<B):PkAt w' S p A n c x:=h.keep fun _ hp=>hb.cell (hS _ hp)
theorem RPk.keep {w w':World} {S:Nat->Prop} {x:List Value} {p:Pk} (h:RPk w S x p) (hw:∀ p:Addr,S p.block->w'.cell? p=w.cell? p):RPk w' S x p:=by
 obtain ⟨A,n,c,y,rfl,h⟩:=h;exact ⟨A,n,c,y,rfl,h.keep hw⟩
theorem RPk.more {w:World} {S S':Nat->Prop} (hS:∀ k,S k->S' k) {x:List Value} {p:Pk} (h:RPk w S x p):RPk w S' x p:=by
 obtain ⟨A,n,c,y,rfl,h⟩:=h;exact ⟨A,n,c,y,rfl,h.more hS⟩
theorem RPk.under {w w':World} {S:Nat->Prop} {B:Nat} {x:List Value} {p:Pk} (h:RPk w S x p) (hb:Below B w w') (hS:∀ k,S k->k<B):RPk w' S x p:=h.keep fun _ hp=>hb.cell (hS _ hp)
theorem RPk.len {w:World} {S:Nat->Prop} {x:List Value} {p:Pk} (h:RPk w S x p):x.length=14:=by
 obtain ⟨A,n,c,y,rfl,h⟩:=h;simp [pkRow,h.nd.ten]
def RTree (w:World) (S:Nat->Prop) (A:Option Addr) (n:Nat) (ps:List Pk):Prop:=RSeq 14 (RPk w S) w S A n ps
section
variable {w w' : World} {S S' : Nat → Prop} {A : Option Addr} {n : Nat} {ps : List Pk}
theorem RTree.len (h:RTree w S A n ps):ps.length=n:=RSeq.len h
theorem RTree.nil_:RTree w S A 0 []:=RSeq.nil_
theorem RTree.keep (h:RTree w S A n ps) (hw:∀ p:Addr,S p.block->w'.cell? p=w.cell? p):RTree w' S A n ps:=RSeq.keep h hw fun _ _ h=>h.keep hw
theorem RTree.more (hS:∀ k,S k->S' k) (h:RTree w S A n ps):RTree w S' A n ps:=RSeq.more hS h fun _ _ h=>h.more hS
theorem RTree.under {B:Nat} (h:RTree w S A n ps) (hb:Below B w w') (hS:∀ k,S k->k<B):RTree w' S A n ps:=h.keep fun _ hp=>hb.cell (hS _ hp)
theorem RTree.at_ (h:RTree w S A n ps) {j:Nat} (hj:j<n) :
  ∃ b o p B m c k a f no D q d,A=some ⟨b,o,none⟩/\S b/\ps[j]? = some p/\PkAt w S p B m c (ndRow k a f no D q d)/\∀ i,i<14->w.cell? ⟨b,o+j * 14+i,none⟩=(pkRow p B m c (ndRow k a f no D q d))[i]?:=by
 obtain ⟨b,o,x,p,hA,hb,hp,⟨B,m,c,y,rfl,hR⟩,_,hc⟩:=RSeq.at_ h hj (by decide)
 obtain ⟨k,a,f,no,ks⟩:Nd:=p.nd
 have:=hR.nd
 rcases p with ⟨nm,ver,slot,fs,⟨k,a,f,no,ks⟩⟩
 obtain ⟨D,q,d,rfl,-⟩:=this.open_
 exact ⟨b,o,_,B,m,c,k,a,f,no,D,q,d,hA,hb,hp,hR,hc⟩
end
end
section
open Go.RowKit Qm
def picksX (X:Chs) (ps:List Pk):List Int:=(List.range ps.length).map X.pick
def onsX (X:Chs) (ps:List Pk):List (List Int):=(List.range ps.length).map fun (i:Nat)=>(List.range (pkOf ps i).fs.length).map (X.on i)
structure Dp where
 base:Nat
 b:Nat
 mb:Nat
 A:Option Addr
 n:Nat
 c:Nat
 pA:Option Addr
 pc:Nat
 oA:Option Addr
 oc:Nat
 S0:Nat->Prop
 S1:Nat->Prop
 X:Chs
 ps:List Pk
def OwnD (base b mb:Nat) (P:Value) (E:Nat->Prop) (sz k:Nat):Prop:=base<=k/\k<sz/\k≠b/\k≠mb/\P.ownBlock≠some k/\¬ E k
structure Dw (q:Dp) (w:World):Prop where
 pick:RInts w q.S1 q.pA q.n (picksX q.X q.ps)
 ons:RClauses w q.S1 q.oA q.n (onsX q.X q.ps)
 tree:RTree w q.S0 q.A q.n q.ps
structure DeskP (q:Dp) (E:Nat->Prop) (P:Value) (hs:List (Option Addr×Nat×Nat)) (mp:Nat) (d:Dk) (w:World):Prop where
 blk:Whole w q.b 95 [.slice q.A q.n q.c,.slice q.pA q.n q.pc,.slice q.oA q.n q.oc,.int .i64 (d.vars:Int),P,.map (some q.mb)]
 own:w.ownsRow q.base 117 1 P d.cls.length (hs.map hd)
 heads:Heads w (OwnD q.base q.b q.mb P E w.heap.size) hs d.cls
 pair:PairMap Tryz.prog 86 w q.mb d.pair mp
 st:Dw q w
 s0:∀ k,q.S0 k->k<q.base
 s1:∀ k,q.S1 k->OwnD q.base q.b q.mb P E w.heap.size k
 bb:q.base<=q.b/\¬ E q.b
 bm:q.base<=q.mb/\¬ E q.mb
 bp:∀ g,P.ownBlock=some g->¬ E g
 e:∀ k,E k->q.base<=k/\k<w.heap.size
 caps:(q.n<=q.c/\q.c<=maxLen)/\(q.n<=q.pc/\q.pc<=maxLen)/\q.n<=q.oc/\q.oc<=maxLen
def Desk (q:Dp) (E:Nat->Prop) (mp:Nat) (d:Dk) (w:World):Prop:=∃ P hs,DeskP q E P hs mp d w
def Fd (q:Dp) (E:Nat->Prop) (w w':World):Prop:=Far (fun k=>q.base<=k/\¬ E k) w w'
section
variable {q : Dp} {E E' : Nat → Prop} {P : Value} {hs : List (Option Addr × Nat × Nat)} {mp : Nat} {d : Dk} {w w' w'' : World}
theorem Far.heads' {D S:Nat->Prop} {cs:List (List Int)} (h:Far D w w') (hr:Heads w S hs cs) (hS:∀ k,S k->k<w.heap.size/\¬ D k):Heads w' S hs cs:=hr.keep fun _ hp=>h.cell (hS _ hp).1 (hS _ hp).2
theorem Dw.keep (h:Dw q w) (hk:∀ p:Addr,q.S0 p.block\/q.S1 p.block->w'.cell? p=w.cell? p):Dw q w':=
 ⟨h.pick.keep fun p hp=>hk p (.inr hp),h.ons.keep fun p hp=>hk p (.inr hp),h.tree.keep fun p hp=>hk p (.inl hp)⟩
theorem PairMap.ne_cells {g:Nat} {cs:Array Value} {t:TypeId} {fr:Nat×Nat} {k:TypeId} {b m:Nat} {K:Int->Int->Int} (h:PairMap Tryz.prog k w b K m) (hg:w.heap[g]? = some (.cells cs t fr)):g≠b:=by
 rintro rfl
 obtain ⟨D,⟨es,clock,h1,_⟩,_⟩:=h
 rw [hg] at h1;cases h1
theorem DeskP.pb (h:DeskP q E P hs mp d w):P.ownBlock≠some q.b:=own_ne h.own h.blk (by decide)
theorem DeskP.pm (h:DeskP q E P hs mp d w):P.ownBlock≠some q.mb:=by
 rcases h.own.2 with ⟨e,_⟩ | ⟨g,cap,cur,rfl,_,hh,_⟩
 ·rw [e];intro e;cases e
 intro e
 simp only [Value.ownBlock] at e
 injection e with e
 exact h.pair.ne_cells hh e
theorem DeskP.ne (h:DeskP q E P hs mp d w):q.b≠q.mb:=h.pair.ne_cells h.blk
theorem DeskP.base_ (h:DeskP q E P hs mp d w):q.base<=w.heap.size:=Nat.le_of_lt (Nat.lt_of_le_of_lt h.bb.1 h.blk.lt)
theorem OwnD.mono {base b mb:Nat} {sz sz' k:Nat} (hE:∀ k,E' k->k<sz->E k) (hs:sz<=sz') (h:OwnD base b mb P E sz k):OwnD base b mb P E' sz' k:=
 ⟨h.1,ql h.2.1 hs,h.2.2.1,h.2.2.2.1,h.2.2.2.2.1,fun e=>h.2.2.2.2.2 (hE k e h.2.1)⟩
theorem DeskP.turn (h:DeskP q E P hs mp d w) {D:Nat->Prop} (k:Far D w w') (hD:∀ i,i<w.heap.size->D i->E i) (hE:∀ i,E' i->i<w.heap.size->E i) (he:∀ i,E' i->q.base<=i/\i<w'.heap.size):DeskP q E' P hs mp d w' where
 blk:=k.whole h.blk fun x=>h.bb.2 (hD _ h.blk.lt x)
 own:=k.own h.own fun g hg x=>h.bp g hg (hD _ (h.own.lt g hg).2 x)
 heads:=(k.heads' h.heads fun j hj=>⟨hj.2.1,fun x=>hj.2.2.2.2.2 (hD _ hj.2.1 x)⟩).more fun j hj=>hj.mono hE k.size
 pair:=h.pair.block (k.block _ h.pair.lt fun x=>h.bm.2 (hD _ h.pair.lt x))
 st:=h.st.keep fun p hp=>by
  rcases hp with hp | hp
  ·have:=h.s0 _ hp
   exact k.cell (ql this h.base_) fun x=>by have:=(h.e _ (hD _ (ql this h.base_) x)).1;omega
  exact k.cell (h.s1 _ hp).2.1 fun x=>(h.s1 _ hp).2.2.2.2.2 (hD _ (h.s1 _ hp).2.1 x)
 s0:=h.s0
 s1:=fun j hj=>(h.s1 j hj).mono hE k.size
 bb:=⟨h.bb.1,fun x=>h.bb.2 (hE _ x h.blk.lt)⟩
 bm:=⟨h.bm.1,fun x=>h.bm.2 (hE _ x h.pair.lt)⟩
 bp:=fun g hg x=>h.bp g hg (hE _ x (h.own.lt g hg).2)
 e:=he
 caps:=h.caps
theorem Desk.far (h:Desk q E mp d w) {D:Nat->Prop} (k:Far D w w') (hD:∀ i,i<w.heap.size->D i->E i):Desk q E mp d w':=by
 obtain ⟨P,hs,h⟩:=h
 exact ⟨P,hs,h.turn k hD (fun _ h _=>h) fun i hi=>⟨(h.e i hi).1,ql (h.e i hi).2 k.size⟩⟩
theorem Desk.move (h:Desk q E mp d w) (k:Below w.heap.size w w'):Desk q E mp d w':=h.far (Far.of_below (fun _=>False) k) fun _ _ h=>h.elim
theorem Desk.mono (h:Desk q E mp d w) (hE:∀ i,E' i->E i):Desk q E' mp d w:=by
 obtain ⟨P,hs,h⟩:=h
 exact ⟨P,hs,h.turn (Far.refl (fun _=>False) w) (fun _ _ h=>h.elim) (fun i h _=>hE i h) fun i hi=>h.e i (hE i hi)⟩
theorem Desk.base_ (h:Desk q E mp d w):q.base<=w.heap.size:=by obtain ⟨P,hs,h⟩:=h;exact h.base_
theorem Desk.aside (h:Desk q E mp d w) (k:Below w.heap.size w w'):Desk q (fun i=>E i\/(w.heap.size<=i/\i<w'.heap.size)) mp d w':=by
 have hb:=h.base_
 obtain ⟨P,hs,h⟩:=h
 exact ⟨P,hs,h.turn (Far.of_below (fun _=>False) k) (fun _ _ h=>h.elim) (fun i hi hlt=>hi.elim id fun x=>by omega) fun i hi=>hi.elim (fun x=>⟨(h.e i x).1,ql (h.e i x).2 k.size⟩) fun x=>⟨by omega,x.2⟩⟩
theorem Desk.e (h:Desk q E mp d w):∀ k,E k->q.base<=k/\k<w.heap.size:=by obtain ⟨P,hs,h⟩:=h;exact h.e
theorem Desk.st (h:Desk q E mp d w):Dw q w:=by obtain ⟨P,hs,h⟩:=h;exact h.st
theorem Desk.s0 (h:Desk q E mp d w):∀ k,q.S0 k->k<q.base:=by obtain ⟨P,hs,h⟩:=h;exact h.s0
theorem Desk.s1 (h:Desk q E mp d w):∀ k,q.S1 k->k<w.heap.size:=by obtain ⟨P,hs,h⟩:=h;exact fun k hk=>(h.s1 k hk).2.1
theorem Desk.caps (h:Desk q E mp d w):(q.n<=q.c/\q.c<=maxLen)/\(q.n<=q.pc/\q.pc<=maxLen)/\q.n<=q.oc/\q.oc<=maxLen:=by obtain ⟨P,hs,h⟩:=h;exact h.caps
theorem Desk.len (h:Desk q E mp d w):q.ps.length=q.n:=h.st.tree.len
theorem Fd.trans (h:Fd q E w w') (k:Fd q E' w' w'') (hE:∀ i,i<w.heap.size->E i->E' i):Fd q E w w'':=
 Far.trans h k fun i hi x=>⟨x.1,fun y=>x.2 (hE i hi y)⟩
theorem Fd.refl (q:Dp) (E:Nat->Prop) (w:World):Fd q E w w:=Far.refl _ _
theorem Fd.of_below (q:Dp) (E:Nat->Prop) (k:Below w.heap.size w w'):Fd q E w w':=Far.of_below _ k
theorem Fd.mono (h:Fd q E w w') (hE:∀ i,E' i->E i):Fd q E' w w':=Far.mono h fun i x=>⟨x.1,fun y=>x.2 (hE i y)⟩
theorem Fd.size (h:Fd q E w w'):w.heap.size<=w'.heap.size:=Far.size h
theorem Fd.whole (h:Fd q E w w') {b:Nat} {t:TypeId} {vs:List Value} (hw:Whole w b t vs) (hb:E b):Whole w' b t vs:=Far.whole h hw fun x=>x.2 hb
theorem Fd.ints (h:Fd q E w w') {S:Nat->Prop} {A:Option Addr} {n:Nat} {xs:List Int} (hr:RInts w S A n xs) (hS:∀ k,S k->k<w.heap.size/\(E k\/k<q.base)):RInts w' S A n xs:=
 Far.ints h hr fun k hk=>⟨(hS k hk).1,fun x=>(hS k hk).2.elim x.2 fun y=>by omega⟩
theorem Fd.old (h:Fd q E w w') {p:Addr} (hp:p.block<q.base) (hb:q.base<=w.heap.size):w'.cell? p=w.cell? p:=Far.cell h (by omega) fun x=>by omega
theorem Fd.below (h:Fd q E w w') (hb:q.base<=w.heap.size):Below q.base w w':=Far.below h hb fun _ x=>x.1
theorem Fd.own (h:Fd q E w w') {base:Nat} {e:TypeId} {size:Nat} {v:Value} {n:Nat} {vs:List Value} (ho:w.ownsRow base e size v n vs) (hv:∀ g,v.ownBlock=some g->E g):w'.ownsRow base e size v n vs:=
 Far.own h ho fun g hg x=>x.2 (hv g hg)
end
end
section
open Go.RowKit Qm
def Cv (v:Value) (k:Nat):Prop:=v.ownBlock=some k
section
variable {q : Dp} {E Sc : Nat → Prop} {mp : Nat} {d : Dk} {w w1 : World}
theorem Desk.reown {e:TypeId} {base n n':Nat} {v v':Value} {vs vs':List Value} {o:Obj} (h:Desk q (fun k=>E k\/Cv v k) mp d w) (ho:w.ownsRow base e 1 v n vs) (ho':w1.ownsRow base e 1 v' n' vs') (hb:q.base<=base) (hg:(w.alloc o).grownBy w1 v.ownBlock)
  (hv:v'.ownBlock=v.ownBlock\/v'.ownBlock=some (w.alloc o).heap.size) (hE:∀ k,Cv v k->¬ E k):Desk q (fun k=>E k\/Cv v' k) mp d w1/\Fd q E w w1/\∀ k,Cv v' k->¬ E k:=by
 have hal:Below w.heap.size w (w.alloc o):=(qbr _ w).alloc (qr _) _
 have far:Far (fun i=>Cv v i) w w1:=(Far.of_below _ hal).trans (Far.of_grown hg fun i h=>h.symm) fun _ _ h=>h
 have hnew:∀ i,i<w.heap.size->Cv v' i->Cv v i:=fun i hi y=>by
  rcases hv with hv | hv
  ·exact hv.symm.trans y
  unfold Cv at y
  rw [hv] at y
  injection y with y
  simp at y
  omega
 obtain ⟨P,hs,H⟩:=h
 refine ⟨⟨P,hs,H.turn far (fun i _ x=>.inr x) (fun i x hi=>x.elim .inl fun y=>.inr (hnew i hi y)) fun i x=>x.elim (fun y=>?_) fun y=>?_⟩, ?_,fun k y hk=>?_⟩
 ·have:=H.e i (.inl y);exact ⟨this.1,ql this.2 far.size⟩
 ·have:=ho'.lt i y;exact ⟨qlt hb this.1,this.2⟩
 ·exact far.mono fun i x=>⟨(H.e i (.inr x)).1,hE i x⟩
 have:=(H.e k (.inl hk)).2
 exact hE k (hnew k this y) hk
theorem DeskP.grow {P P':Value} {hs:List (Option Addr×Nat×Nat)} {A:Option Addr} {n c:Nat} {xs:List Int} {o:Obj} (h:DeskP q (fun k=>E k\/Sc k) P hs mp d w) (hr:RInts w Sc A n xs) (hn:n<=c/\c<=maxLen) (hE:∀ k,Sc k->¬ E k)
  (ho':w1.ownsRow q.base 117 1 P' (d.cls.length+1) (hs.map hd++[.slice A n c])) (hg:(w.alloc o).grownBy w1 P.ownBlock) (hv:P'.ownBlock=P.ownBlock\/P'.ownBlock=some (w.alloc o).heap.size) :
  Desk q E mp (addD d xs) (w1.setCell ⟨q.b,4,none⟩ P')/\Fd q (fun k=>E k\/Sc k) w (w1.setCell ⟨q.b,4,none⟩ P'):=by
 have hal:Below w.heap.size w (w.alloc o):=(qbr _ w).alloc (qr _) _
 have far:Far (fun i=>P.ownBlock=some i) w w1:=(Far.of_below _ hal).trans (Far.of_grown hg fun i h=>h.symm) fun _ _ h=>h
 have hfs:Far (fun i=>i=q.b) w1 (w1.setCell ⟨q.b,4,none⟩ P'):=Far.set_ (D:=fun i=>i=q.b) rfl 4 _
 have F:Far (fun i=>i=q.b\/P.ownBlock=some i) w (w1.setCell ⟨q.b,4,none⟩ P'):=(far.mono fun i x=>.inr x).trans hfs fun i _ x=>.inl x
 have hP'b:P'.ownBlock≠some q.b:=by
  rcases hv with hv | hv
  ·rw [hv];exact h.pb
  rw [hv];intro e;injection e with e;have:=h.blk.lt;simp at e;omega
 have hP'm:P'.ownBlock≠some q.mb:=by
  rcases hv with hv | hv
  ·rw [hv];exact h.pm
  rw [hv];intro e;injection e with e;have:=h.pair.lt;simp at e;omega
 have hnew:∀ i,i<w.heap.size->P'.ownBlock=some i->P.ownBlock=some i:=fun i hi y=>by
  rcases hv with hv | hv
  ·exact hv.symm.trans y
  rw [hv] at y
  injection y with y
  simp at y
  omega
 have hown:∀ k,OwnD q.base q.b q.mb P (fun k=>E k\/Sc k) w.heap.size k->OwnD q.base q.b q.mb P' E (w1.setCell ⟨q.b,4,none⟩ P').heap.size k:=fun k hk =>
  ⟨hk.1,ql hk.2.1 F.size,hk.2.2.1,hk.2.2.2.1,fun e=>hk.2.2.2.2.1 (hnew k hk.2.1 e),fun e=>hk.2.2.2.2.2 (.inl e)⟩
 have hsc:∀ k,Sc k->OwnD q.base q.b q.mb P' E (w1.setCell ⟨q.b,4,none⟩ P').heap.size k:=fun k hk=>by
  have:=h.e k (.inr hk)
  refine ⟨this.1,ql this.2 F.size,fun e=>h.bb.2 (.inr (e ▸ hk)),fun e=>h.bm.2 (.inr (e ▸ hk)),fun e=>h.bp k (hnew k this.2 e) (.inr hk),hE k hk⟩
 have hnd:∀ k,OwnD q.base q.b q.mb P (fun k=>E k\/Sc k) w.heap.size k->k<w.heap.size/\¬ (k=q.b\/P.ownBlock=some k):=fun k hk=>⟨hk.2.1,fun e=>e.elim hk.2.2.1 hk.2.2.2.2.1⟩
 have hscn:∀ k,Sc k->k<w.heap.size/\¬ (k=q.b\/P.ownBlock=some k):=fun k hk=>⟨(h.e k (.inr hk)).2,fun e=>e.elim (fun e=>h.bb.2 (.inr (e ▸ hk))) fun e=>h.bp k e (.inr hk)⟩
 refine ⟨⟨P',hs++[(A,n,c)], ?_, ?_, ?_, ?_, ?_,h.s0, ?_, ?_, ?_, ?_, ?_,h.caps⟩, ?_⟩
 ·exact (far.whole h.blk h.pb).set_ 4 P'
 ·have h2:=hfs.own ho' fun g hg e=>hP'b (by rw [hg,e])
  have e1:(addD d xs).cls.length=d.cls.length+1:=by unfold addD;simp
  have e2:(hs++[(A,n,c)]).map hd=hs.map hd++[.slice A n c]:=by rw [List.map_append];rfl
  rw [e1,e2];exact h2
 ·exact ((F.heads' h.heads hnd).more hown).append ((Heads.one (F.ints hr hscn) hn).more hsc)
 ·exact h.pair.block (F.block _ h.pair.lt fun e=>e.elim (fun e=>h.ne e.symm) fun e=>h.pm e)
 ·exact h.st.keep fun p hp=>by
   rcases hp with hp | hp
   ·have h0:=h.s0 _ hp
    refine F.cell (ql h0 h.base_) fun e=>e.elim (fun e=>?_) fun e=>?_
    ·have:=h.bb.1;omega
    have:=(h.own.lt _ e).1;omega
   exact F.cell (h.s1 _ hp).2.1 (hnd _ (h.s1 _ hp)).2
 ·exact fun k hk=>hown k (h.s1 k hk)
 ·exact ⟨h.bb.1,fun e=>h.bb.2 (.inl e)⟩
 ·exact ⟨h.bm.1,fun e=>h.bm.2 (.inl e)⟩
 ·intro g hg e
  have:=(h.e g (.inl e)).2
  exact h.bp g (hnew g this hg) (.inl e)
 ·exact fun k hk=>⟨(h.e k (.inl hk)).1,ql (h.e k (.inl hk)).2 F.size⟩
 exact F.mono fun i x=>x.elim (fun x=>by rw [x];exact h.bb) fun x=>⟨(h.own.lt i x).1,h.bp i x⟩
end
theorem clause_infoE:(Tryz.prog.info? 117).map (fun i=>(i.zero,i.size,i.bytes))=some (some (.slice none 0 0),1,24):=by kernel_rfl
theorem dadd_any (q:Dp) (E Sc:Nat->Prop) (mp:Nat) (d:Dk) (A':Option Addr) (n' c':Nat) (xs:List Int) (w:World) (hD:Desk q (fun k=>E k\/Sc k) mp d w) (hr:RInts w Sc A' n' xs) (hn:n'<=c'/\c'<=maxLen) (hE:∀ k,Sc k->¬ E k) (hcl:d.cls.length<=100000) :
  Calls Tryz.prog 45 #[.pointer (some ⟨q.b,0,none⟩),.slice A' n' c'] w fun e w'=>e=.returned (.tuple #[])/\Desk q E mp (addD d xs) w'/\Fd q (fun k=>E k\/Sc k) w w':=by
 obtain ⟨i0,hi,hz0,hz1,hz2⟩:=info_parts clause_infoE
 have Hi:=qh hi;have Hz0:=qh hz0;have Hz1:=qh hz1;have Hz2:=qh hz2
 obtain ⟨P,hs,H0⟩:=hD
 obtain ⟨PA,Pc,rfl,_,_,_⟩:=own_form H0.own
 have H:=qh H0;have Hr:=qh hr;have HE:=qh hE;have Hn:=qh hn
 have c4:=H0.blk.cell 4
 have f4:=H0.blk.free 4
 have hbw:=H0.blk.lt
 simp only [qgz,qgs] at c4
 obtain ⟨N,hN⟩:∃ N,N=d.cls.length:=⟨_,rfl⟩
 rw [<- hN] at c4 hcl
 have HN:=qh hN
 have HO:Hid (w.ownsRow q.base 117 1 (.slice PA N Pc) N (hs.map hd)):=qh (by rw [HN.out];exact H0.own)
 have hn2:=hn.2
 have hbs:=H0.base_
 unfold maxLen at hn2
 clear hi hz0 hz1 hz2 H0 hr hE hn hN
 go_enter Tryz.func45,Tryz.ntmps45
 go_wp2_with (at_builtin;refine wpList_append_own_at _ rfl _ _ 31 rfl q.base 117 i0 (.slice none 0 0) 1 24 Tryz.underlying31 Hi.out Hz0.out Hz1.out Hz2.out rfl (by decide) _ _ _ rfl (HO.out.alloc _) ⟨w.heap.size,0,none⟩ 1 1 [.slice A' n' c'] rfl rfl ?d1 ?d2 ?d3 ?d4 ?d5 ?_)
 case d1=>exact cell_one_new _ _ _
 case d2=>simp [Value.oneCell']
 case d3=>unfold maxLen;omega
 case d4=>omega
 case d5=>simp;omega
 intro P' w1 hown1 hg1 _ hat
 obtain ⟨A6,c6,rfl,_,_,_⟩:=own_form hown1
 have hpne:q.b≠w.heap.size:=by omega
 have HB1:Hid (Whole w1 q.b 95 [.slice q.A q.n q.c,.slice q.pA q.n q.pc,.slice q.oA q.n q.oc,.int .i64 (d.vars:Int),.slice PA d.cls.length Pc,.map (some q.mb)]):=qh (Whole.grown (H.out.blk.alloc _) hg1 fun e=>H.out.pb (by rw [<- HN.out];exact e.symm))
 have d4:=HB1.out.cell 4
 have g4:=HB1.out.free 4
 have hbw1:=HB1.out.lt
 simp only [qgz,qgs] at d4
 have HF:Hid _:=qh (DeskP.grow (P':=.slice A6 (N+1) c6) H.out Hr.out Hn.out HE.out (by rw [<- HN.out];exact hown1) (by rw [<- HN.out];exact hg1) (by rw [<- HN.out];simpa using hat))
 clear hown1 hg1 hat c4 f4 hpne
 go_wp2
 exact bodyPost_end (results_none rfl _ _ _) rfl ⟨rfl,HF.out.1,HF.out.2⟩
end
end Go.Proofs.YtedbhlgjcnnknaaGreatDoor
