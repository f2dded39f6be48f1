/- Parts. -/
import Derived.WalkSpells
import Derived.Test.YtedbhlgjcnnknaaGreatDoorQ3
set_option linter.unusedVariables false
set_option linter.unusedSimpArgs false
set_option linter.unusedSectionVars false
set_option maxRecDepth 100000
set_option maxHeartbeats 12800000
namespace Go.Proofs.YtedbhlgjcnnknaaGreatDoor
section
open Go.RowKit
def ValsS (w wr:World) (b N:Nat) (sp:List Value) (vc:List Int):Prop:=Whole wr b 3 (vc.map (Value.int .i64)++sp)/\Qm.Fine N vc/\w.grownBy wr (some b)/\wr.heap.size=w.heap.size
theorem ValsS.keep0 {w wr:World} {b N:Nat} {sp:List Value} {S:Nat->Prop} {vc:List Int} (h:ValsS w wr b N sp vc) (hS:∀ k,S k->k<w.heap.size/\k≠b) (p:Addr) (hp:S p.block):wr.cell? p=w.cell? p:=
 World.cell?_of_block (h.2.2.1.block p.block (hS _ hp).1 (by intro e;injection e with e;exact (hS _ hp).2 e))
theorem ValsS.keepFrom {w wr wr':World} {b N:Nat} {sp:List Value} {S:Nat->Prop} {vc vc':List Int} (h:ValsS w wr b N sp vc) (h':ValsS w wr' b N sp vc') (hS:∀ k,S k->k<w.heap.size/\k≠b) (p:Addr) (hp:S p.block):wr'.cell? p=wr.cell? p:=
 (h'.keep0 hS p hp).trans (h.keep0 hS p hp).symm
theorem wholeS_row {w:World} {S:Nat->Prop} {b n:Nat} {t:TypeId} {vs sp:List Value} (h:Whole w b t (vs++sp)) (hB:S b) (hn:vs.length=n):Row w S (some ⟨b,0,none⟩) n vs:=by
 refine ⟨hn,fun _=>⟨b,0,rfl,hB,fun j hj=>?_⟩⟩
 rw [Nat.zero_add,h.cell j,List.getElem?_append_left (by omega)]
theorem wholeS_ints {w:World} {S:Nat->Prop} {b n:Nat} {t:TypeId} {xs:List Int} {sp:List Value} (h:Whole w b t (xs.map (Value.int .i64)++sp)) (hB:S b) (hn:xs.length=n):RInts w S (some ⟨b,0,none⟩) n xs:=
 wholeS_row h hB (by simpa using hn)
theorem own_whole {w:World} {base:Nat} {e:TypeId} {v:Value} {n:Nat} {vs:List Value} (h:w.ownsRow base e 1 v n vs) (hn:0<n):∃ g c sp,v=.slice (some ⟨g,0,none⟩) n c/\base<=g/\n<=c/\c<=maxLen/\Whole w g e (vs++sp):=by
 rcases h.2 with ⟨_,h0⟩ | ⟨g,cap,cur,rfl,hb,hh,hc,hm,hs,ht⟩
 ·omega
 refine ⟨g,cap,cur.toList.drop (n * 1),rfl,hb,hc,hm, ?_⟩
 unfold Whole
 rw [hh,<- ht,List.take_append_drop]
theorem setS_any (sp:List Value) (b:Nat) (t:TypeId) (n cap:Nat) (v:List Int) (x:Int) (w:World) (hl:v.length=n) (hw:Whole w b t (v.map (Value.int .i64)++sp)) (hn:n<=401) (hx : -(n:Int)<x/\x<n) :
  Calls Tryz.prog 60 #[.slice (some ⟨b,0,none⟩) n cap,.int .i64 x] w fun e w'=>e=.returned (.tuple #[])/\Whole w' b t ((Qm.vset v x).map (Value.int .i64)++sp)/\w.grownBy w' (some b)/\w'.heap.size=w.heap.size:=by
 have Hl:=qh hl;clear hl
 by_cases h0:x<0
 ·obtain ⟨k,rfl⟩:∃ k:Nat,x = -(k:Int):=⟨(-x).toNat,by omega⟩
  have Hr:Hid (Qm.vset v (-(k:Int))=v.set k (-1)):=by show _=_;unfold Qm.vset;rw [if_pos h0];congr 2;omega
  have hk:(k:Int)<n:=by omega
  have hc:=hw.cell k
  rw [List.getElem?_append_left (by rw [List.length_map,Hl.out];omega),qgm,qge (by rw [Hl.out];omega),Option.map_some] at hc
  have hf:=hw.free k
  generalize v[k]'(by rw [Hl.out];omega)=u at hc
  clear hx
  go_enter Tryz.func60,Tryz.ntmps60
  go_wp2
  go_end0
  refine ⟨rfl, ?_,grown_set (World.grownBy.refl w _) _ _,by simp [World.setCell]⟩
  rw [Hr.out,<- map_set_int,<- List.set_append_left _ _ (by rw [List.length_map,Hl.out];omega)]
  exact hw.set_ k _
 obtain ⟨k,rfl⟩:∃ k:Nat,x=(k:Int):=⟨x.toNat,by omega⟩
 have Hr:Hid (Qm.vset v (k:Int)=v.set k 1):=by show _=_;unfold Qm.vset;rw [if_neg h0];congr 1
 have hk:(k:Int)<n:=by omega
 have hc:=hw.cell k
 rw [List.getElem?_append_left (by rw [List.length_map,Hl.out];omega),qgm,qge (by rw [Hl.out];omega),Option.map_some] at hc
 have hf:=hw.free k
 generalize v[k]'(by rw [Hl.out];omega)=u at hc
 clear hx
 go_enter Tryz.func60,Tryz.ntmps60
 go_wp2
 go_end0
 refine ⟨rfl, ?_,grown_set (World.grownBy.refl w _) _ _,by simp [World.setCell]⟩
 rw [Hr.out,<- map_set_int,<- List.set_append_left _ _ (by rw [List.length_map,Hl.out];omega)]
 exact hw.set_ k _
def SpreadPostS (cs:List (List Int)) (v:List Int) (b:Nat) (sp:List Value) (w:World) (e:Ending) (w':World):Prop:=
 e=.returned (.bool (Qm.spread cs v).isSome)/\(∀ v',Qm.spread cs v=some v'->Whole w' b 3 (v'.map (Value.int .i64)++sp))/\w.grownBy w' (some b)/\w'.heap.size=w.heap.size
theorem spreadS_any (sp:List Value) (N:Nat) (b cap nl cl:Nat) (v:List Int) (Al:Option Addr) (ls:List (List (List Int))) (w:World) (S:Nat->Prop) (hN:N<=400) (hv:Qm.Fine N v) (hw:Whole w b 3 (v.map (Value.int .i64)++sp))
  (hb:∀ k,S k->k<w.heap.size/\k≠b) (hr:RLists w S Al nl ls) (hcl:nl<=maxLen) (hlit:Lits N ls) :
  Calls Tryz.prog 61 #[.slice (some ⟨b,0,none⟩) (N+1) cap,.slice Al nl cl] w (SpreadPostS ls.flatten v b sp w):=by
 unfold maxLen at hcl
 have hbw:=hw.lt
 have Hr:=qh hr;have Hlit:=qh hlit;have Hv:=qh hv;have Hw:=qh hw
 clear hr hlit hv hw
 go_enter Tryz.func61,Tryz.ntmps61
 go_wp2_with fail
 go_loopg [5] (Qm.zeros v+1) (fun k m wr=>∃ vc m',m=.bool m'/\ValsS w wr b N sp vc/\Head ls.flatten v vc k m')
 case atStart=>exact ⟨v,true,rfl,⟨Hw.out,Hv.out,World.grownBy.refl w _,rfl⟩,by omega,rfl⟩
 case round =>
  obtain ⟨v1,m1,rfl,H1,H2⟩:=hrel
  cases m1 with
  | false =>
   go_wp2_with fail
   go_ret
   obtain ⟨h1,h2,h3,h4⟩:=H1
   have h6:Qm.spread ls.flatten v=some v1:=H2
   refine ⟨by rw [h6];rfl,fun v' hv'=>?_,h3,h4⟩
   rw [h6] at hv';injection hv' with hv';subst hv';exact h1
  | true =>
   go_wp2_with fail
   go_loopg [5,17] nl (fun k m i wr2=>∃ (j:Nat) (vc:List Int) (m':Bool),j+k=nl/\i=.int .i64 j/\m=.bool m'/\ValsS w wr2 b N sp vc/\InLists ls v1 vc m' j)
   case atStart=>exact ⟨0,v1,false,by omega,rfl,rfl,H1,rfl⟩
   case round =>
    obtain ⟨wr2,rfl⟩:∃ x:World,x=wr:=⟨_,rfl⟩
    obtain ⟨g2,rfl⟩:∃ x:Nat,x=gk:=⟨_,rfl⟩
    obtain ⟨j,v2,m2,hjk,rfl,rfl,H3,H4⟩:=hrel
    have Hjk:=qh hjk;clear hjk
    by_cases hj:j<nl
    ·obtain ⟨bl,ol,A',n',c',rfl,hbl,hcell,hcs,hnc,hcm⟩:=(Hr.out.keep (H3.keep0 hb)).at_ hj
     unfold maxLen at hcm
     have Hcs:=qh hcs;clear hcs
     go_wp2_with fail
     go_loopg [5,23] n' (fun k m i wr3=>∃ (q:Nat) (vc:List Int) (m':Bool),Hid (q+k=n')/\i=.int .i64 q/\m=.bool m'/\ValsS w wr3 b N sp vc/\InList (some (v2,m2)) (ls.getD j []) vc m' q)
     case atStart=>exact ⟨0,v2,m2,Nat.zero_add _,rfl,rfl,H3,rfl⟩
     case round =>
      obtain ⟨wr3,rfl⟩:∃ x:World,x=wr:=⟨_,rfl⟩
      obtain ⟨g3,rfl⟩:∃ x:Nat,x=gk:=⟨_,rfl⟩
      obtain ⟨q,v3,m3,Hqk,rfl,rfl,H5,H6⟩:=hrel
      by_cases hq:q<n'
      ·obtain ⟨bc,oc,A2,n2,c2,rfl,hbc,hcell2,hc,hnc2,hcm2⟩:=(Hcs.out.keep (ValsS.keepFrom H3 H5 hb)).at_ hq
       unfold maxLen at hcm2
       have Hc:=qh hc;clear hc
       generalize hcc:(ls.getD j []).getD q []=c at Hc
       have Hcc:=qh hcc;clear hcc
       go_wp2_with fail
       go_loopg [10,11,29] n2 (fun k lf op i wr4=>∃ (r:Nat) (l o:Int),Hid (r+k=n2)/\i=.int .i64 r/\lf=.int .i64 l/\op=.int .i64 o/\wr3=wr4/\InScan v3 c r l o)
       case atStart=>exact ⟨0,0,0,Nat.zero_add _,rfl,rfl,rfl,rfl,rfl,by omega,by omega⟩
       case round =>
        obtain ⟨r,l,o,Hrk,rfl,rfl,rfl,hwr,H7⟩:=hrel
        subst hwr
        by_cases hrn:r<n2
        ·obtain ⟨bi,oi,rfl,hbi,hcell3⟩:=Hc.out.at_ hrn
         generalize hx:c.getD r 0=x at hcell3
         have Hx:=qh hx;clear hx
         have Hlc:Hid (r<c.length):=by rw [Hc.out.len];exact hrn
         have Hn:=H7.next Hlc.out Hx.out
         have hlx:Qm.IsLit N x:=by
          have h1:=Hlit.out _ (getD_mem (d:=[]) (by rw [Hr.out.len];exact hj)) _ (getD_mem (d:=[]) (by rw [Hcs.out.len];exact hq))
          rw [Hcc.out] at h1
          have h2:=h1 _ (getD_mem (d:=0) Hlc.out)
          rwa [Hx.out] at h2
         have ho1:=H7.2.1
         have ho2:=H7.2.2
         have hd : -((N+1:Nat):Int)<x/\x<((N+1:Nat):Int):=by have:=hlx.1;have:=hlx.2;omega
         have hcall:=of_any (some ⟨b,0,none⟩) (N+1) cap v3 x wr3 (fun k=>k=b) (wholeS_ints (S:=fun k=>k=b) H5.1 rfl H5.2.1.1) (by omega) hd (fine_bd H5.2.1)
         rcases Qm.vof_range H5.2.1 x with h0 | h0 | h0
         ·rw [h0] at hcall
          have H0:=qh h0;clear h0
          have Hcall:=qh hcall;clear hcall hd hlx
          by_cases hnew:o=0\/o=1/\l≠x
          ·rw [scanStep_new ho1 H0.out hnew] at Hn
           have HN:=qh Hn;clear Hn
           rcases hnew with h1 | ⟨h1,h2⟩
           ·obtain rfl:o=0:=h1
            go_wp2_with fail
            refine Hcall.out.mono ?_
            rintro e w' ⟨rfl,rfl⟩
            go_wp2_with fail
            go_roundg (gk - 1)
            case measure=>have:=Hrk.out;omega
            case rel=>exact ⟨r+1,x,1,by have:=Hrk.out;show _=_;omega,by go_num,rfl,rfl,rfl,HN.out,by omega,by omega⟩
           obtain rfl:o=1:=h1
           have h3:(l != x)=true:=by simpa using h2
           clear h2
           go_wp2_with fail
           refine Hcall.out.mono ?_
           rintro e w' ⟨rfl,rfl⟩
           go_wp2_with fail
           go_roundg (gk - 1)
           case measure=>have:=Hrk.out;omega
           case rel=>exact ⟨r+1,x,2,by have:=Hrk.out;show _=_;omega,by go_num,rfl,rfl,rfl,HN.out,by omega,by omega⟩
          rw [scanStep_old ho1 H0.out hnew] at Hn
          have HN:=qh Hn;clear Hn
          have h1:(o == 0)=false:=by simp;omega
          by_cases ho:o=1
          ·obtain rfl:o=1:=ho
           have h3:(l != x)=false:=by simp;omega
           clear hnew
           go_wp2_with fail
           refine Hcall.out.mono ?_
           rintro e w' ⟨rfl,rfl⟩
           go_wp2_with fail
           go_roundg (gk - 1)
           case measure=>have:=Hrk.out;omega
           case rel=>exact ⟨r+1,l,1,by have:=Hrk.out;show _=_;omega,by go_num,rfl,rfl,rfl,HN.out,by omega,by omega⟩
          have h3:(o == 1)=false:=by simp;omega
          clear hnew
          go_wp2_with fail
          refine Hcall.out.mono ?_
          rintro e w' ⟨rfl,rfl⟩
          go_wp2_with fail
          go_roundg (gk - 1)
          case measure=>have:=Hrk.out;omega
          case rel=>exact ⟨r+1,l,o,by have:=Hrk.out;show _=_;omega,by go_num,rfl,rfl,rfl,HN.out,by omega,by omega⟩
         ·rw [h0] at hcall
          have H0:=qh h0;clear h0
          have Hcall:=qh hcall;clear hcall hd hlx
          rw [scanStep_hold ho1 H0.out] at Hn
          have Hsc:=qh (Qm.scan_break Hn (by show (-1:Int)<0;omega));clear Hn
          go_wp2_with fail
          refine Hcall.out.mono ?_
          rintro e w' ⟨rfl,rfl⟩
          go_wp2_with fail
          go_roundg (g3 - 1)
          case measure=>have:=Hqk.out;omega
          case rel=>exact ⟨q+1,v3,m3,by have:=Hqk.out;show _=_;omega,by go_num,rfl,H5,H6.next_other (by rw [(Hcs.out).len];exact hq) Hcc.out (by rw [Hsc.out];show (-1:Int)≠0;omega) (by rw [Hsc.out];show (-1:Int)≠1;omega)⟩
         rw [h0] at hcall
         have H0:=qh h0;clear h0
         have Hcall:=qh hcall;clear hcall hd hlx
         rw [scanStep_fail ho1 H0.out] at Hn
         have HN:=qh Hn;clear Hn
         go_wp2_with fail
         refine Hcall.out.mono ?_
         rintro e w' ⟨rfl,rfl⟩
         go_wp2_with fail
         go_roundg (gk - 1)
         case measure=>have:=Hrk.out;omega
         case rel=>exact ⟨r+1,l,o,by have:=Hrk.out;show _=_;omega,by go_num,rfl,rfl,rfl,HN.out,by omega,by omega⟩
        have Hsc:=qh (H7.done (by rw [Hc.out.len];have:=Hrk.out;omega))
        have ho1:=H7.2.1
        by_cases h0:o=0
        ·obtain rfl:o=0:=h0
         go_wp2_with fail
         go_ret
         have hn:Qm.spread ls.flatten v=none:=by
          rw [<- H2.2]
          exact Qm.spread_none Hlit.out.flat H1.2.1 (InLists.fails H4 (by rw [Hr.out.len];exact hj) H6 (by rw [Hcs.out.len];exact hq) Hcc.out (by rw [Hsc.out]))
         exact ⟨by rw [hn];rfl,(fun v' hv'=>by rw [hn] at hv';cases hv'),H5.2.2.1,H5.2.2.2⟩
        have h0':(o == 0)=false:=by simpa using h0
        by_cases h1:o=1
        ·obtain rfl:o=1:=h1
         have hlx:Qm.IsLit N l:=by
          have h1:=Hlit.out _ (getD_mem (d:=[]) (by rw [Hr.out.len];exact hj)) _ (getD_mem (d:=[]) (by rw [Hcs.out.len];exact hq))
          rw [Hcc.out] at h1
          have:=Qm.scan_unit_mem (v:=v3) (c:=c) (by rw [Hsc.out])
          rw [Hsc.out] at this
          exact h1 _ this
         have hd : -((N+1:Nat):Int)<l/\l<((N+1:Nat):Int):=by have:=hlx.1;have:=hlx.2;omega
         have hcall:=setS_any sp b 3 (N+1) cap v3 l wr3 H5.2.1.1 H5.1 (by omega) hd
         have Hcall:=qh hcall;clear hcall hd hlx
         go_wp2_with fail
         refine Hcall.out.mono ?_
         rintro e w5 ⟨rfl,hw5⟩
         go_wp2_with fail
         go_roundg (g3 - 1)
         case measure=>have:=Hqk.out;omega
         case rel=>exact ⟨q+1,Qm.vset v3 l,true,by have:=Hqk.out;show _=_;omega,by go_num,rfl,⟨hw5.1,Qm.vset_fine H5.2.1 _,grown_trans H5.2.2.1 hw5.2.1,hw5.2.2.trans H5.2.2.2⟩,H6.next_unit (by rw [Hcs.out.len];exact hq) Hcc.out Hsc.out⟩
        have h1':(o == 1)=false:=by simpa using h1
        clear h0 h1
        go_wp2_with fail
        go_roundg (g3 - 1)
        case measure=>have:=Hqk.out;omega
        case rel=>exact ⟨q+1,v3,m3,by have:=Hqk.out;show _=_;omega,by go_num,rfl,H5,H6.next_other (by rw [(Hcs.out).len];exact hq) Hcc.out (by rw [Hsc.out];exact beq_eq_false_iff_ne.1 h0') (by rw [Hsc.out];exact beq_eq_false_iff_ne.1 h1')⟩
      go_wp2_with fail
      go_roundg (g2 - 1)
      case measure=>have:=Hjk.out;omega
      case rel=>exact ⟨j+1,v3,m3,by have:=Hjk.out;omega,by go_num,rfl,H5,InLists.next H4 (by rw [Hr.out.len];exact hj) H6 (by rw [Hcs.out.len];have:=Hqk.out;omega)⟩
    go_wp2_with fail
    go_roundg (Qm.zeros v1)
    case measure=>exact H2.1
    case rel=>exact ⟨v2,m2,rfl,H3,Head.next Hlit.out.flat H1.2.1 H2.2 (InLists.all H4 (by rw [Hr.out.len];have:=Hjk.out;omega))⟩
end
section
open Go.RowKit
theorem clause_info:(Tryz.prog.info? 117).map (fun i=>(i.zero,i.size,i.bytes))=some (some (.slice none 0 0),1,24):=by kernel_rfl
theorem int_info':(Tryz.prog.info? 3).map (fun i=>(i.zero,i.size,i.bytes))=some (some (.int .i64 0),1,8):=by kernel_rfl
def ClonePost (w:World) (E:TypeId) (n:Nat) (vs:List Value) (e:Ending) (w':World):Prop:=
 ∃ (A:Option Addr) (c:Nat),e=.returned (.slice A n c)/\n<=c/\c<=maxLen/\w'.ownsRow w.heap.size E 1 (.slice A n c) n vs/\Below w.heap.size w w'
theorem cloneInts_any (A:Option Addr) (n c:Nat) (vs:List Value) (w:World) (S:Nat->Prop) (hr:Row w S A n vs) (hone:∀ u∈vs,u.oneCell'=true) (hS:∀ k,S k->k<w.heap.size) (hn:n * 8<=140737488355328) :
  Calls Tryz.prog 39 #[.slice A n c] w (ClonePost w 3 n vs):=by
 obtain ⟨i0,hi,hz0,hz1,hz2⟩:=info_parts int_info'
 have q:∀ (w:World) (a:Option Addr) (n c n' c':Nat),(binOp .eql 27 (.slice a n c) (.slice none n' c')).run Tryz.prog w=.ok (.bool a.isNone) w:=fun w a n c n' c'=>Lib.run_eql_slice_nil w _ _ a n c n' c' Tryz.underlying27
 have Hr:=qh hr;have Hone:=qh hone
 clear hr hone
 by_cases hA:A=none
 ·subst hA
  obtain rfl:n=0:=by
   by_cases h0:0<n
   ·obtain ⟨b,o,e,_⟩:=Hr.out.some_lit h0;cases e
   omega
  obtain rfl:vs=[]:=List.eq_nil_of_length_eq_zero Hr.out.len
  go_enter Tryz.func39,Tryz.ntmps39
  go_wp2_with fail
  go_ret
  exact ⟨none,0,rfl,qr _,Nat.zero_le _,World.ownsRow_nil _ _ _ _,qbr _ _⟩
 obtain ⟨ad,rfl⟩:∃ ad,A=some ad:=by cases A with | none=>exact absurd rfl hA | some a=>exact ⟨a,rfl⟩
 clear hA
 have hb0:Below w.heap.size w (w.alloc (.cells #[] 3)):=(qbr _ _).alloc (qr _) _
 have hnews:∀ j u,vs[j]? = some u->(w.alloc (.cells #[] 3)).cell? (ad.add j)=some u:=by
  intro j u hj
  have hjn:j<n:=by have:=(List.getElem?_eq_some_iff.1 hj).1;rw [Hr.out.len] at this;exact this
  obtain ⟨b,o,e,_⟩:=Hr.out.some_lit (by omega)
  injection e with e
  subst e
  exact news_of_row (Hr.out.below hb0 hS) j u hj
 have Hnews:=qh hnews;clear hnews hb0
 have Hl:=qh Hr.out.len
 go_enter Tryz.func39,Tryz.ntmps39
 go_wp2_with (at_builtin;refine wpList_append_own _ rfl _ _ 27 rfl w.heap.size 3 i0 (.int .i64 0) 1 8 Tryz.underlying27 hi hz0 hz1 hz2 rfl (by decide) _ _ _ rfl (World.ownsRow_made w #[] 0 (qr _) (Nat.zero_le _) rfl) ad n c vs rfl ?c1 Hnews.out Hone.out ?c3 ?c4 ?c5 ?_)
 case c1=>rw [Hl.out,Nat.mul_one]
 case c3=>unfold maxLen;omega
 case c4=>omega
 case c5=>simp
 intro v' w1 hown hgrow hnil
 go_wp2_with fail
 go_ret
 have hown':w1.ownsRow w.heap.size 3 1 v' n vs:=by simpa using hown
 obtain ⟨A',c',rfl,h1,h2,_⟩:=own_form hown'
 exact ⟨A',c',rfl,h1,h2,hown',((qbr _ w).alloc (qr _) _).grown hgrow (by simp) (by intro k hk;simp [Value.ownBlock] at hk;omega)⟩
theorem cloneVals_any (A:Option Addr) (n c:Nat) (vs:List Value) (w:World) (S:Nat->Prop) (hr:Row w S A n vs) (hone:∀ u∈vs,u.oneCell'=true) (hS:∀ k,S k->k<w.heap.size) (hn:n * 8<=140737488355328) :
  Calls Tryz.prog 95 #[.slice A n c] w (ClonePost w 3 n vs):=by
 obtain ⟨i0,hi,hz0,hz1,hz2⟩:=info_parts int_info'
 have q:∀ (w:World) (a:Option Addr) (n c n' c':Nat),(binOp .eql 113 (.slice a n c) (.slice none n' c')).run Tryz.prog w=.ok (.bool a.isNone) w:=fun w a n c n' c'=>Lib.run_eql_slice_nil w _ _ a n c n' c' Tryz.underlying113
 have Hr:=qh hr;have Hone:=qh hone
 clear hr hone
 by_cases hA:A=none
 ·subst hA
  obtain rfl:n=0:=by
   by_cases h0:0<n
   ·obtain ⟨b,o,e,_⟩:=Hr.out.some_lit h0;cases e
   omega
  obtain rfl:vs=[]:=List.eq_nil_of_length_eq_zero Hr.out.len
  go_enter Tryz.func95,Tryz.ntmps95
  go_wp2_with fail
  go_ret
  exact ⟨none,0,rfl,qr _,Nat.zero_le _,World.ownsRow_nil _ _ _ _,qbr _ _⟩
 obtain ⟨ad,rfl⟩:∃ ad,A=some ad:=by cases A with | none=>exact absurd rfl hA | some a=>exact ⟨a,rfl⟩
 clear hA
 have hb0:Below w.heap.size w (w.alloc (.cells #[] 3)):=(qbr _ _).alloc (qr _) _
 have hnews:∀ j u,vs[j]? = some u->(w.alloc (.cells #[] 3)).cell? (ad.add j)=some u:=by
  intro j u hj
  have hjn:j<n:=by have:=(List.getElem?_eq_some_iff.1 hj).1;rw [Hr.out.len] at this;exact this
  obtain ⟨b,o,e,_⟩:=Hr.out.some_lit (by omega)
  injection e with e
  subst e
  exact news_of_row (Hr.out.below hb0 hS) j u hj
 have Hnews:=qh hnews;clear hnews hb0
 have Hl:=qh Hr.out.len
 go_enter Tryz.func95,Tryz.ntmps95
 go_wp2_with (at_builtin;refine wpList_append_own _ rfl _ _ 113 rfl w.heap.size 3 i0 (.int .i64 0) 1 8 Tryz.underlying113 hi hz0 hz1 hz2 rfl (by decide) _ _ _ rfl (World.ownsRow_made w #[] 0 (qr _) (Nat.zero_le _) rfl) ad n c vs rfl ?c1 Hnews.out Hone.out ?c3 ?c4 ?c5 ?_)
 case c1=>rw [Hl.out,Nat.mul_one]
 case c3=>unfold maxLen;omega
 case c4=>omega
 case c5=>simp
 intro v' w1 hown hgrow hnil
 go_wp2_with fail
 go_ret
 have hown':w1.ownsRow w.heap.size 3 1 v' n vs:=by simpa using hown
 obtain ⟨A',c',rfl,h1,h2,_⟩:=own_form hown'
 exact ⟨A',c',rfl,h1,h2,hown',((qbr _ w).alloc (qr _) _).grown hgrow (by simp) (by intro k hk;simp [Value.ownBlock] at hk;omega)⟩
end
section
open Go.RowKit
def hd (h:Option Addr×Nat×Nat):Value:=Value.slice h.1 h.2.1 h.2.2
def Heads (w:World) (S:Nat->Prop) (hs:List (Option Addr×Nat×Nat)) (cs:List (List Int)):Prop:=
 cs.length=hs.length/\∀ (j:Nat) (h:Option Addr×Nat×Nat) (c:List Int),hs[j]? = some h->cs[j]? = some c->RInts w S h.1 h.2.1 c/\h.2.1<=h.2.2/\h.2.2<=maxLen
section
variable {w w' : World} {S S' : Nat → Prop} {A : Option Addr} {n : Nat} {cs ds : List (List Int)} {hs gs : List (Option Addr × Nat × Nat)}
theorem RClauses.of_ (hr:Row w S A n (hs.map hd)) (h:Heads w S hs cs):RClauses w S A n cs:=⟨hs,hr,by have:=hr.len;have:=h.1;simp at *;omega,h.2⟩
theorem Heads.append (h:Heads w S hs cs) (g:Heads w S gs ds):Heads w S (hs++gs) (cs++ds):=by
 refine ⟨by simp [h.1,g.1],fun j x c hx hc=>?_⟩
 by_cases hj:j<hs.length
 ·rw [List.getElem?_append_left hj] at hx
  rw [List.getElem?_append_left (by rw [h.1];exact hj)] at hc
  exact h.2 j x c hx hc
 rw [List.getElem?_append_right (by omega)] at hx
 rw [List.getElem?_append_right (by rw [h.1];omega),h.1] at hc
 exact g.2 _ x c hx hc
theorem Heads.one {A:Option Addr} {n c:Nat} {xs:List Int} (h:RInts w S A n xs) (hn:n<=c/\c<=maxLen):Heads w S [(A,n,c)] [xs]:=by
 refine ⟨rfl,fun j x y hx hy=>?_⟩
 match j with
 | 0=>simp at hx hy;subst hx hy;exact ⟨h,hn⟩
 | j+1=>simp at hx
theorem Heads.nil_:Heads w S [] []:=⟨rfl,fun j x y hx _=>by simp at hx⟩
theorem Heads.more (h:Heads w S hs cs) (hS:∀ k,S k->S' k):Heads w S' hs cs:=⟨h.1,fun j x c hx hc=>⟨(h.2 j x c hx hc).1.more hS,(h.2 j x c hx hc).2⟩⟩
theorem Heads.keep (h:Heads w S hs cs) (hk:∀ p:Addr,S p.block->w'.cell? p=w.cell? p):Heads w' S hs cs:=⟨h.1,fun j x c hx hc=>⟨(h.2 j x c hx hc).1.keep hk,(h.2 j x c hx hc).2⟩⟩
end
end
section
open Go.RowKit
theorem int_one (xs:List Int):∀ u∈xs.map (Value.int .i64),u.oneCell'=true:=by
 intro u hu;obtain ⟨x,_,rfl⟩:=List.mem_map.1 hu;rfl
end
section
open Go.RowKit
end
section
open Go.RowKit
structure Far (D:Nat->Prop) (w w':World):Prop where
 base:Below 0 w w'
 block:∀ i,i<w.heap.size->¬ D i->w'.heap[i]? = w.heap[i]?
section
variable {w w' w'' : World} {D D' : Nat → Prop} {S : Nat → Prop} {A : Option Addr} {n b : Nat}
theorem Far.size (h:Far D w w'):w.heap.size<=w'.heap.size:=h.base.size
theorem Far.refl (D:Nat->Prop) (w:World):Far D w w:=⟨qbr _ _,fun _ _ _=>rfl⟩
theorem Far.trans (h:Far D w w') (k:Far D' w' w'') (hD:∀ i,i<w.heap.size->D' i->D i):Far D w w'':=
 ⟨h.base.trans k.base,fun i hi hn=>(k.block i (ql hi h.size) (fun hd=>hn (hD i hi hd))).trans (h.block i hi hn)⟩
theorem Far.of_below (D:Nat->Prop) (h:Below w.heap.size w w'):Far D w w':=⟨h.mono (Nat.zero_le _),fun i hi _=>h.block i hi⟩
theorem Far.of_grown {row:Option Nat} (h:w.grownBy w' row) (hD:∀ i,some i=row->D i):Far D w w':=
 ⟨below_of_grown h (Nat.zero_le _) (fun _ _=>Nat.zero_le _),fun i hi hn=>h.block i hi (fun e=>hn (hD i e))⟩
theorem Far.set_ (hb:D b) (i:Nat) (u:Value):Far D w (w.setCell ⟨b,i,none⟩ u):=
 ⟨(qbr 0 w).setCell (Nat.zero_le _) _,fun k _ hn=>heap_setCell_other w _ k u (fun e=>hn (by rw [show k=b from e.symm ▸ rfl];exact hb))⟩
theorem Far.drew (h:Far D w w'):Far D w w'.drew:=⟨below_drewN h.base 1,h.block⟩
theorem Far.drewN (h:Far D w w') (k:Nat):Far D w (w'.drewN k):=⟨below_drewN h.base k,h.block⟩
theorem Far.mono (h:Far D w w') (hD:∀ i,D i->D' i):Far D' w w':=⟨h.base,fun i hi hn=>h.block i hi (fun hd=>hn (hD i hd))⟩
theorem Far.below (h:Far D w w') {B:Nat} (hB:B<=w.heap.size) (hD:∀ i,D i->B<=i):Below B w w':=
 ⟨h.base.os,h.base.tape,h.base.output,h.size,fun i hi=>h.block i (ql hi hB) (fun hd=>absurd (hD i hd) (by omega))⟩
theorem Far.whole {t:TypeId} {vs:List Value} (h:Far D w w') (hw:Whole w b t vs) (hb:¬ D b):Whole w' b t vs:=(h.block b hw.lt hb).trans hw
theorem Far.cell (h:Far D w w') {p:Addr} (hp:p.block<w.heap.size) (hn:¬ D p.block):w'.cell? p=w.cell? p:=World.cell?_of_block (h.block _ hp hn)
theorem Far.ints {xs:List Int} (h:Far D w w') (hr:RInts w S A n xs) (hS:∀ k,S k->k<w.heap.size/\¬ D k):RInts w' S A n xs:=hr.keep fun _ hp=>h.cell (hS _ hp).1 (hS _ hp).2
theorem Far.bools {xs:List Bool} (h:Far D w w') (hr:RBools w S A n xs) (hS:∀ k,S k->k<w.heap.size/\¬ D k):RBools w' S A n xs:=Row.keep hr fun _ hp=>h.cell (hS _ hp).1 (hS _ hp).2
theorem Far.clauses {cs:List (List Int)} (h:Far D w w') (hr:RClauses w S A n cs) (hS:∀ k,S k->k<w.heap.size/\¬ D k):RClauses w' S A n cs:=hr.keep fun _ hp=>h.cell (hS _ hp).1 (hS _ hp).2
theorem Far.own {base:Nat} {e:TypeId} {size:Nat} {v:Value} {vs:List Value} (h:Far D w w') (ho:w.ownsRow base e size v n vs) (hv:∀ g,v.ownBlock=some g->¬ D g):w'.ownsRow base e size v n vs:=by
 rcases ho.2 with h0 | ⟨g,cap,cur,rfl,hb,hh,hc,hm,hs,ht⟩
 ·exact ⟨ho.1,.inl h0⟩
 exact ⟨ho.1,.inr ⟨g,cap,cur,rfl,hb,(h.block g (lt_of_block hh) (hv g rfl)).trans hh,hc,hm,hs,ht⟩⟩
theorem own_ne {base:Nat} {e t:TypeId} {size:Nat} {v:Value} {vs us:List Value} (ho:w.ownsRow base e size v n vs) (hw:Whole w b t us) (ht:t≠e):v.ownBlock≠some b:=by
 rcases ho.2 with ⟨rfl,_⟩ | ⟨g,cap,cur,rfl,_,hh,_⟩
 ·intro h;cases h
 intro h
 simp only [Value.ownBlock] at h
 injection h with h
 subst h
 unfold Whole at hw
 rw [hh] at hw
 injection hw with hw;injection hw with _ hw
 exact ht hw.symm
end
end
section
open Go.RowKit
section
variable {w w' : World} {D : Nat → Prop} {S : Nat → Prop}
theorem Far.heads {hs:List (Option Addr×Nat×Nat)} {cs:List (List Int)} (h:Far D w w') (hr:Heads w S hs cs) (hS:∀ k,S k->k<w.heap.size/\¬ D k):Heads w' S hs cs:=hr.keep fun _ hp=>h.cell (hS _ hp).1 (hS _ hp).2
end
def SBlk (w:World) (b:Nat) (vars:Int) (A:Option Addr) (n cap:Nat) (st:Int) (P M:Value) (out:Bool):Prop:=
 Whole w b 125 [.int .i64 vars,.slice A n cap,.int .i64 st,P,M,.bool out]
theorem bool_info:(Tryz.prog.info? 4).map (fun i=>(i.zero,i.size,i.bytes))=some (some (.bool false),1,1):=by kernel_rfl
def negTo (tk:List Int) (k:Nat):List Value:=((tk.take k).map Neg.neg).map (.int .i64)
theorem negTo_succ {tk:List Int} {k:Nat} {x:Int} (h:k<tk.length) (hx:tk.getD k 0=x):negTo tk (k+1)=negTo tk k++[.int .i64 (-x)]:=by
 unfold negTo
 rw [List.take_succ_eq_append_getElem h,List.map_append,List.map_append,<- hx,qgd,qge h];rfl
def NoPost (base b:Nat) (vars:Int) (A:Option Addr) (n cap:Nat) (st:Int) (P:Value) (np:Nat) (hs:List (Option Addr×Nat×Nat)) (tk:List Int) (w:World) (e:Ending) (w':World):Prop:=
 ∃ (A2:Option Addr) (c2:Nat) (P':Value),e=.returned (.bool false)/\SBlk w' b vars A n cap st P' (.slice none 0 0) false/\w'.ownsRow base 117 1 P' (np+1) ((hs++[(A2,tk.length,c2)]).map hd) /\
  RInts w' (fun k=>w.heap.size<=k/\k<w'.heap.size/\P'.ownBlock≠some k) A2 tk.length (tk.map Neg.neg)/\(tk.length<=c2/\c2<=maxLen)/\Far (fun i=>i=b\/some i=P.ownBlock) w w'/\(P'.ownBlock=P.ownBlock\/∃ g,P'.ownBlock=some g/\w.heap.size<=g)
theorem no_any (base b N:Nat) (vars st:Int) (A A':Option Addr) (n cap n' cap' np:Nat) (P:Value) (hs:List (Option Addr×Nat×Nat)) (tk:List Int) (w:World) (S:Nat->Prop) (hS:∀ k,S k->k<w.heap.size)
  (hw:SBlk w b vars A n cap st P (.slice none 0 0) false) (ho:w.ownsRow base 117 1 P np (hs.map hd)) (hbase:base<=w.heap.size) (hr:RInts w S A' n' tk) (hn:n'<=60) (hN:N<=400) (hl:Qm.IsCl N tk) (hnp:np<=100000) :
  Calls Tryz.prog 96 #[.pointer (some ⟨b,0,none⟩),.slice A' n' cap'] w (NoPost base b vars A n cap st P np hs tk w):=by
 obtain ⟨i0,hi,hz0,hz1,hz2⟩:=info_parts clause_info
 obtain ⟨j0,hj,hj0,hj1,hj2⟩:=info_parts int_info'
 have Hi:=qh hi;have Hz0:=qh hz0;have Hz1:=qh hz1;have Hz2:=qh hz2
 have Hj:=qh hj;have Hj0:=qh hj0;have Hj1:=qh hj1;have Hj2:=qh hj2
 have Hw:=qh hw;have Ho:=qh ho;have Hr:=qh hr;have Hl:=qh hl;have Hlen:=qh hr.len
 clear hi hz0 hz1 hz2 hj hj0 hj1 hj2 hw ho hr hl
 go_enter Tryz.func96,Tryz.ntmps96
 go_wp2_with fail
 go_loopg [5,11] n' (fun g v i wr=>∃ k:Nat,Hid (k+g=n')/\i=.int .i64 k/\wr.ownsRow w.heap.size 3 1 v k (negTo tk k)/\Below w.heap.size w wr)
 case atStart=>exact ⟨0,Nat.zero_add _,rfl,World.ownsRow_made w #[] 0 (qr _) (Nat.zero_le _) rfl,(qbr _ _).alloc (qr _) _⟩
 case round =>
  obtain ⟨k,Hk,rfl,hown,hbel⟩:=hrel
  have Hown:=qh hown;have Hbel:=qh hbel
  have hwr:w.heap.size<=wr.heap.size:=hbel.size
  clear hown hbel
  by_cases hk:k<n'
  ·obtain ⟨bi,oi,rfl,hbi,hcell⟩:=(Hr.out.below Hbel.out hS).at_ hk
   have hlc:k<tk.length:=by rw [Hlen.out];exact hk
   have hlx:Qm.IsLit N (tk.getD k 0):=Hl.out _ (getD_mem (d:=0) hlc)
   generalize hx:tk.getD k 0=x at hcell hlx
   have Hsn:=qh (negTo_succ hlc hx)
   clear hx
   have hxb : -400<=x/\x<=400:=by have:=hlx.2;omega
   have Hlc:=qh hlc
   clear hlx hlc
   go_wp2_with (at_builtin;refine wpList_append_own _ rfl _ _ 117 rfl w.heap.size 3 j0 (.int .i64 0) 1 8 Tryz.underlying117 Hj.out Hj0.out Hj1.out Hj2.out rfl (by decide) _ _ _ rfl (Hown.out.alloc _) ⟨wr.heap.size,0,none⟩ 1 1 [.int .i64 (-x)] rfl rfl ?c1 ?c2 ?c3 ?c4 ?c5 ?_)
   case c1=>exact cell_one_new _ _ _
   case c2=>simp [Value.oneCell']
   case c3=>unfold maxLen;omega
   case c4=>omega
   case c5=>simp;omega
   intro v' w1 hown1 hg1 _
   have Hown1:Hid (w1.ownsRow w.heap.size 3 1 v' (k+1) (negTo tk (k+1))):=by rw [Hsn.out];exact hown1
   have Hbel1:Hid (Below w.heap.size w w1):=(Hbel.out.alloc hwr _).grown hg1 (by simp;omega) (fun k e=>(Hown.out.lt k e).1)
   clear hown1 hg1
   go_wp2_with fail
   go_roundg (gk - 1)
   case measure=>have:=Hk.out;omega
   case rel=>exact ⟨k+1,by have:=Hk.out;show _=_;omega,by go_num,Hown1.out,Hbel1.out⟩
  obtain rfl:k=n':=by have:=Hk.out;omega
  obtain ⟨A2,c2,rfl,h1,h2,hrow⟩:=own_form Hown.out
  have hrow':RInts wr (fun j=>w.heap.size<=j/\j<wr.heap.size) A2 k (tk.map Neg.neg):=by
   have:=hrow
   unfold negTo at this
   rwa [List.take_of_length_le (by rw [Hlen.out];exact qr _)] at this
  have Hrow:=qh hrow';have Hc2:Hid (k<=c2/\c2<=maxLen):=⟨h1,h2⟩
  have HS:Hid (SBlk wr b vars A n cap st P (.slice none 0 0) false):=Whole.below Hw.out Hbel.out Hw.out.lt
  have hs3:=HS.out.cell 3
  have hsf:=HS.out.free 3
  simp only [qgz,qgs] at hs3
  have hbw:b<wr.heap.size:=HS.out.lt
  have HoW:Hid (wr.ownsRow base 117 1 P np (hs.map hd)):=(Far.of_below (fun _=>False) Hbel.out).own Ho.out (fun _ _ h=>h)
  have Hpne:Hid (P.ownBlock≠some b):=own_ne HoW.out HS.out (by decide)
  clear hrow hrow' h1 h2
  go_wp2_with (at_builtin;refine wpList_append_own_at _ rfl _ _ 31 rfl base 117 i0 (.slice none 0 0) 1 24 Tryz.underlying31 Hi.out Hz0.out Hz1.out Hz2.out rfl (by decide) _ _ _ rfl (HoW.out.alloc _) ⟨wr.heap.size,0,none⟩ 1 1 [.slice A2 k c2] rfl rfl ?d1 ?d2 ?d3 ?d4 ?d5 ?_)
  case d1=>exact cell_one_new _ _ _
  case d2=>simp [Value.oneCell']
  case d3=>unfold maxLen;omega
  case d4=>omega
  case d5=>simp;omega
  intro P' w1 hown1 hg1 _ hat
  obtain ⟨A6,c6,rfl,_,_,_⟩:=own_form hown1
  have Hsz:Hid (wr.heap.size<=w1.heap.size):=by have:=hg1.size;simp at this;show _<=_;omega
  have HS1:Hid (SBlk w1 b vars A n cap st P (.slice none 0 0) false):=Whole.grown (HS.out.alloc _) hg1 (fun e=>Hpne.out e.symm)
  have ht3:=HS1.out.cell 3
  have htf:=HS1.out.free 3
  simp only [qgz,qgs] at ht3
  have Hown1:=qh hown1;have Hat:=qh hat
  have Hfar1:Hid (Far (fun i=>some i=P.ownBlock) w w1):=(Far.of_below _ Hbel.out).trans ((Far.of_below (fun i=>some i=P.ownBlock) ((qbr _ _).alloc (qr _) _)).trans (Far.of_grown (D:=fun i=>some i=P.ownBlock) hg1 (fun i e=>e)) (fun i _ h=>h)) (fun i _ h=>h)
  have Hrow1:Hid (RInts w1 (fun j=>w.heap.size<=j/\j<wr.heap.size/\P.ownBlock≠some j) A2 k (tk.map Neg.neg)):=by
   have h0:RInts wr (fun j=>w.heap.size<=j/\j<wr.heap.size/\P.ownBlock≠some j) A2 k (tk.map Neg.neg):=Hrow.out.more (fun j hj=>⟨hj.1,hj.2,fun e=>by have:=(Ho.out.lt j e).2;omega⟩)
   exact ((Far.of_below (fun i=>some i=P.ownBlock) ((qbr _ _).alloc (qr _) _)).trans (Far.of_grown (D:=fun i=>some i=P.ownBlock) hg1 (fun i e=>e)) (fun i _ h=>h)).ints h0 (fun j hj=>⟨hj.2.1,fun e=>hj.2.2 e.symm⟩)
  clear hs3 hsf hown1 hg1 hat
  go_wp2_with fail
  go_ret
  have hset:=HS1.out.set_ 3 (.slice A6 (np+1) c6)
  have hPb:(Value.slice A6 (np+1) c6).ownBlock≠some b:=by
   rcases Hat.out with h | h
   ·rw [h];exact Hpne.out
   rw [h];intro e;injection e with e;omega
  have hfs:Far (fun i=>i=b) w1 (w1.setCell ⟨b,3,none⟩ (.slice A6 (np+1) c6)):=Far.set_ (D:=fun i=>i=b) rfl 3 _
  refine ⟨A2,c2,.slice A6 (np+1) c6,rfl,hset, ?_, ?_,Hlen.out ▸ Hc2.out,(Hfar1.out.mono (fun i h=>.inr h)).trans hfs (fun i _ h=>.inl h), ?_⟩
  ·have:=hfs.own Hown1.out (fun g hg h=>hPb (by rw [hg,h]))
   rw [List.map_append,Hlen.out];exact this
  ·rw [Hlen.out]
   refine (hfs.ints Hrow1.out (fun j hj=>⟨by have:=Hsz.out;omega,by have:=Hw.out.lt;omega⟩)).more (fun j hj=>⟨hj.1,by have:=Hsz.out;have:=hfs.size;omega, ?_⟩)
   rcases Hat.out with h | h
   ·rw [h];exact hj.2.2
   rw [h];intro e;injection e with e;omega
  rcases Hat.out with h | h
  ·exact .inl h
  exact .inr ⟨_,h,by have:=Hbel.out.size;simp;omega⟩
end
section
open Go.RowKit
def eqTo (v x:Int):Bool:=v == x
theorem indexInt_any (A:Option Addr) (n c:Nat) (xs:List Int) (v:Int) (w:World) (S:Nat->Prop) (hr:RInts w S A n xs) (hn:n<=maxLen) :
  Calls Tryz.prog 77 #[.slice A n c,.int .i64 v] w fun e w'=>e=.returned (.int .i64 (idxOf (eqTo v) xs))/\∃ q,w'=w.drewN q:=by
 unfold maxLen at hn
 have Hlen:=qh hr.len
 have Hr:=qh hr
 clear hr
 go_enter Tryz.func77,Tryz.ntmps77
 go_wp2_with fail
 go_loopg [8] n (fun g i wr=>∃ (k d:Nat),Hid (k+g=n)/\i=.int .i64 k/\wr=w.drewN d/\Hid ((xs.take k).any (eqTo v)=false))
 case atStart=>exact ⟨0,0,Nat.zero_add _,rfl,rfl,rfl⟩
 case round =>
  obtain ⟨k,d,Hk,rfl,rfl,Hany⟩:=hrel
  by_cases hk:k<n
  ·obtain ⟨b,o,rfl,hb,hc⟩:=Hr.out.at_ hk
   have hlc:k<xs.length:=by rw [Hlen.out];exact hk
   generalize hx:xs.getD k 0=x at hc
   have Hx:=qh hx;clear hx
   have Hlc:=qh hlc;clear hlc
   by_cases hv:v=x
   ·have Hpx:Hid (eqTo v x=true):=by unfold eqTo Hid;simpa using hv
    have hv':(v == x)=true:=by simpa using hv
    clear hv
    go_wp2_with fail
    go_ret
    exact ⟨ret_int (idxOf_hit Hlc.out Hx.out Hpx.out Hany.out).symm,_,rfl⟩
   have Hpx:Hid (eqTo v x=false):=by unfold eqTo Hid;simpa using hv
   have hv':(v == x)=false:=by simpa using hv
   clear hv
   go_wp2_with fail
   go_roundg (gk - 1)
   case measure=>have:=Hk.out;omega
   case rel=>exact ⟨k+1,d,by have:=Hk.out;show _=_;omega,by go_num,rfl,take_any_succ Hlc.out Hx.out Hpx.out Hany.out⟩
  go_wp2_with fail
  go_ret
  have hk':k=n:=by have:=Hk.out;omega
  subst hk'
  refine ⟨ret_int ?_,_,rfl⟩
  rw [idxOf_none]
  have:=Hany.out
  rwa [List.take_of_length_le (by rw [Hlen.out];exact qr _)] at this
theorem indexVal_any (A:Option Addr) (n c:Nat) (xs:List Int) (v:Int) (w:World) (S:Nat->Prop) (hr:RInts w S A n xs) (hn:n<=maxLen) :
  Calls Tryz.prog 97 #[.slice A n c,.int .i64 v] w fun e w'=>e=.returned (.int .i64 (idxOf (eqTo v) xs))/\∃ q,w'=w.drewN q:=by
 unfold maxLen at hn
 have Hlen:=qh hr.len
 have Hr:=qh hr
 clear hr
 go_enter Tryz.func97,Tryz.ntmps97
 go_wp2_with fail
 go_loopg [8] n (fun g i wr=>∃ (k d:Nat),Hid (k+g=n)/\i=.int .i64 k/\wr=w.drewN d/\Hid ((xs.take k).any (eqTo v)=false))
 case atStart=>exact ⟨0,0,Nat.zero_add _,rfl,rfl,rfl⟩
 case round =>
  obtain ⟨k,d,Hk,rfl,rfl,Hany⟩:=hrel
  by_cases hk:k<n
  ·obtain ⟨b,o,rfl,hb,hc⟩:=Hr.out.at_ hk
   have hlc:k<xs.length:=by rw [Hlen.out];exact hk
   generalize hx:xs.getD k 0=x at hc
   have Hx:=qh hx;clear hx
   have Hlc:=qh hlc;clear hlc
   by_cases hv:v=x
   ·have Hpx:Hid (eqTo v x=true):=by unfold eqTo Hid;simpa using hv
    have hv':(v == x)=true:=by simpa using hv
    clear hv
    go_wp2_with fail
    go_ret
    exact ⟨ret_int (idxOf_hit Hlc.out Hx.out Hpx.out Hany.out).symm,_,rfl⟩
   have Hpx:Hid (eqTo v x=false):=by unfold eqTo Hid;simpa using hv
   have hv':(v == x)=false:=by simpa using hv
   clear hv
   go_wp2_with fail
   go_roundg (gk - 1)
   case measure=>have:=Hk.out;omega
   case rel=>exact ⟨k+1,d,by have:=Hk.out;show _=_;omega,by go_num,rfl,take_any_succ Hlc.out Hx.out Hpx.out Hany.out⟩
  go_wp2_with fail
  go_ret
  have hk':k=n:=by have:=Hk.out;omega
  subst hk'
  refine ⟨ret_int ?_,_,rfl⟩
  rw [idxOf_none]
  have:=Hany.out
  rwa [List.take_of_length_le (by rw [Hlen.out];exact qr _)] at this
end
section
open Go.RowKit
def Inner (base b hi:Nat) (P:Value) (k:Nat):Prop:=base<=k/\k<hi/\k≠b/\P.ownBlock≠some k
structure SState (base b:Nat) (N:Nat) (A:Option Addr) (n cap:Nat) (cs:List (List Int)) (S0:Nat->Prop) (st:Nat) (P:Value) (hs:List (Option Addr×Nat×Nat)) (pf:List (List Int)) (hi:Nat) (w:World):Prop where
 blk:SBlk w b (N:Int) A n cap (st:Int) P (.slice none 0 0) false
 own:w.ownsRow base 117 1 P pf.length (hs.map hd)
 own_hi:∀ g,P.ownBlock=some g->g<hi
 heads:Heads w (Inner base b hi P) hs pf
 cls:RClauses w S0 A n cs
 hi_:hi<=w.heap.size
 base_:base<=hi
 s0:∀ k,S0 k->k<base/\k≠b
section
variable {base b N n cap st hi : Nat} {A : Option Addr} {cs : List (List Int)} {S0 : Nat → Prop} {P : Value} {hs : List (Option Addr × Nat × Nat)} {pf : List (List Int)} {w w' : World}
theorem SState.far {D:Nat->Prop} (h:SState base b N A n cap cs S0 st P hs pf hi w) (k:Far D w w') (hD:∀ i,i<hi->¬ D i) (hb:¬ D b):SState base b N A n cap cs S0 st P hs pf hi w' where
 blk:=k.whole h.blk hb
 own:=k.own h.own (fun g hg=>hD g (h.own_hi g hg))
 own_hi:=h.own_hi
 heads:=k.heads h.heads (fun j hj=>⟨ql hj.2.1 h.hi_,hD j hj.2.1⟩)
 cls:=k.clauses h.cls (fun j hj=>by have:=h.s0 j hj;have:=h.base_;have:=h.hi_;exact ⟨by omega,hD j (by omega)⟩)
 hi_:=qlt h.hi_ k.size
 base_:=h.base_
 s0:=h.s0
theorem SState.below (h:SState base b N A n cap cs S0 st P hs pf hi w) (k:Below w.heap.size w w'):SState base b N A n cap cs S0 st P hs pf hi w':=h.far (Far.of_below (fun _=>False) k) (fun _ _ h=>h) (fun h=>h)
theorem SState.drewN (h:SState base b N A n cap cs S0 st P hs pf hi w) (k:Nat):SState base b N A n cap cs S0 st P hs pf hi (w.drewN k):=h.below (below_drewN (qbr _ _) k)
theorem Inner.mono {hi hi':Nat} (hh:hi<=hi') {k:Nat} (h:Inner base b hi P k):Inner base b hi' P k:=⟨h.1,by have:=h.2.1;omega,h.2.2⟩
theorem SState.up (h:SState base b N A n cap cs S0 st P hs pf hi w) {hi':Nat} (h1:hi<=hi') (h2:hi'<=w.heap.size):SState base b N A n cap cs S0 st P hs pf hi' w:=
 ⟨h.blk,h.own,fun g hg=>ql (h.own_hi g hg) h1,h.heads.more (fun _ hk=>hk.mono h1),h.cls,h2,qlt h.base_ h1,h.s0⟩
theorem SState.pne {us:List Value} {t:TypeId} {g:Nat} (h:SState base b N A n cap cs S0 st P hs pf hi w) (hw:Whole w g t us) (ht:t≠117):P.ownBlock≠some g:=own_ne h.own hw ht
theorem SState.steps (h:SState base b N A n cap cs S0 st P hs pf hi w) (hb:hi<=b\/b<base) (st':Nat):SState base b N A n cap cs S0 st' P hs pf hi (w.setCell ⟨b,2,none⟩ (.int .i64 (st':Int))):=by
 have hf:Far (fun i=>i=b) w (w.setCell ⟨b,2,none⟩ (.int .i64 (st':Int))):=Far.set_ (D:=fun i=>i=b) rfl 2 _
 have hpb:=h.pne h.blk (by decide)
 have hset:=Whole.set_ h.blk 2 (.int .i64 (st':Int))
 exact ⟨hset,hf.own h.own (fun g hg e=>hpb (by rw [hg,e])),h.own_hi,hf.heads h.heads (fun j hj=>⟨ql hj.2.1 h.hi_,hj.2.2.1⟩),hf.clauses h.cls (fun j hj=>by have:=h.s0 j hj;have:=h.base_;have:=h.hi_;exact ⟨by omega,(h.s0 j hj).2⟩),by simpa [World.setCell] using h.hi_,h.base_,h.s0⟩
end
def Touched (b:Nat) (P:Value) (i:Nat):Prop:=i=b\/some i=P.ownBlock
def FromPost (base b N:Nat) (A:Option Addr) (n cap:Nat) (cs:List (List Int)) (S0:Nat->Prop) (P:Value) (w:World) (r:Qm.Res) (e:Ending) (w':World):Prop:=
 Far (Touched b P) w w'/\match r with
  | .out=>e=.returned (.bool false)/\∃ (st:Int) (P':Value),SBlk w' b (N:Int) A n cap st P' (.slice none 0 0) true
  | .found m=>e=.returned (.bool true)/\∃ (st:Int) (P':Value) (M:Option Addr) (c:Nat),SBlk w' b (N:Int) A n cap st P' (.slice M m.length c) false/\RBools w' (fun k=>base<=k/\k<w'.heap.size/\k≠b) M m.length m/\m.length<=c/\c<=maxLen/\(0<N->M.isSome=true)
  | .no st' pf'=>e=.returned (.bool false)/\∃ (P':Value) (hs':List (Option Addr×Nat×Nat)),SState base b N A n cap cs S0 st' P' hs' pf' w'.heap.size w'/\(P'.ownBlock=P.ownBlock\/∃ g,P'.ownBlock=some g/\w.heap.size<=g)
theorem FromPost.step {base b N:Nat} {A:Option Addr} {n cap:Nat} {cs:List (List Int)} {S0:Nat->Prop} {P P1:Value} {w w1 w':World} {r:Qm.Res} {e:Ending} (k:Far (Touched b P) w w1) (hP:P1.ownBlock=P.ownBlock\/∃ g,P1.ownBlock=some g/\w.heap.size<=g)
  (h:FromPost base b N A n cap cs S0 P1 w1 r e w'):FromPost base b N A n cap cs S0 P w r e w':=by
 obtain ⟨hf,hm⟩:=h
 refine ⟨k.trans hf (fun i hi ht=>?_), ?_⟩
 ·rcases ht with ht | ht
  ·exact .inl ht
  rcases hP with hP | ⟨g,hP,hg⟩
  ·exact .inr (ht.trans hP)
  rw [hP] at ht;injection ht with ht;omega
 cases r with
 | out=>exact hm
 | found m=>exact hm
 | no st pf =>
  obtain ⟨h1,P',hs',h2,h3⟩:=hm
  refine ⟨h1,P',hs',h2, ?_⟩
  rcases h3 with h3 | ⟨g,h3,hg⟩
  ·rw [h3];exact hP
  exact .inr ⟨g,h3,qlt k.size hg⟩
theorem idx_none {v:List Int} (h:Qm.idx0 v=none):idxOf (eqTo 0) (v.drop 1) = -1:=by
 unfold Qm.idx0 at h
 unfold idxOf
 have:(v.drop 1).findIdx? (eqTo 0)=none:=h
 rw [this]
theorem idx_some {v:List Int} {i:Nat} (h:Qm.idx0 v=some i):idxOf (eqTo 0) (v.drop 1)=i:=by
 unfold Qm.idx0 at h
 unfold idxOf
 have:(v.drop 1).findIdx? (eqTo 0)=some i:=h
 rw [this]
theorem no_state (base b N st:Nat) (A A':Option Addr) (n cap n' cap' hi:Nat) (P:Value) (cs:List (List Int)) (S0:Nat->Prop) (hs:List (Option Addr×Nat×Nat)) (pf:List (List Int)) (tk:List Int) (w:World) (S:Nat->Prop) (hS:∀ k,S k->k<w.heap.size)
  (h:SState base b N A n cap cs S0 st P hs pf hi w) (hr:RInts w S A' n' tk) (hn:n'<=60) (hN:N<=400) (hl:Qm.IsCl N tk) (hnp:pf.length<=100000) (hbb:b<base) :
  Calls Tryz.prog 96 #[.pointer (some ⟨b,0,none⟩),.slice A' n' cap'] w (FromPost base b N A n cap cs S0 P w (.no st (pf++[tk.map Neg.neg]))):=by
 have hbs:base<=w.heap.size:=qlt h.base_ h.hi_
 refine (no_any base b N (N:Int) (st:Int) A A' n cap n' cap' pf.length P hs tk w S hS h.blk h.own hbs hr hn hN hl hnp).mono ?_
 rintro e w' ⟨A2,c2,P',rfl,h1,h2,h3,h4,h5,h6⟩
 have hpb:=own_ne h2 h1 (by decide)
 refine ⟨h5,rfl,P',hs++[(A2,tk.length,c2)],⟨h1,by simpa using h2,fun g hg=>(h2.lt g hg).2, ?_,h5.clauses h.cls (fun j hj=>?_),qr _,qlt hbs h5.size,h.s0⟩,h6⟩
 ·have hin:∀ k,Inner base b hi P k->k<w.heap.size/\¬ (k=b\/some k=P.ownBlock):=fun k hk=>⟨ql hk.2.1 h.hi_,fun e=>by
   rcases e with e | e
   ·exact hk.2.2.1 e
   exact hk.2.2.2 e.symm⟩
  refine ((h5.heads h.heads hin).more (fun k hk=>?_)).append ((Heads.one h3 h4).more (fun k hk=>?_))
  ·refine ⟨hk.1,ql (ql hk.2.1 h.hi_) h5.size,hk.2.2.1, ?_⟩
   rcases h6 with h6 | ⟨g,h6,hg⟩
   ·rw [h6];exact hk.2.2.2
   rw [h6];intro e;injection e with e;have:=hk.2.1;have:=h.hi_;omega
  exact ⟨by have:=hk.1;omega,hk.2.1,by have:=hk.1;omega,hk.2.2⟩
 have hj':=h.s0 j hj
 refine ⟨by omega,fun e=>?_⟩
 rcases e with e | e
 ·exact hj'.2 e
 have:=(h.own.lt j e.symm).1;omega
end
end Go.Proofs.YtedbhlgjcnnknaaGreatDoor
