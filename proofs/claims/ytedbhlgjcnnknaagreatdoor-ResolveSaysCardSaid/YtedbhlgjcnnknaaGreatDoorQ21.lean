/- Parts. -/
import Derived.Test.YtedbhlgjcnnknaaGreatDoorQ20
set_option linter.unusedVariables false
set_option linter.unusedSimpArgs false
set_option linter.unusedSectionVars false
set_option maxRecDepth 100000
set_option maxHeartbeats 12800000
namespace Go.Proofs.YtedbhlgjcnnknaaGreatDoor
section
open Go.RowKit Qm
theorem tnumber_any (s:ByteArray) (w:World) (hs:s.size<=140737488355328) (hL:LaidV w) :
  Calls Tryz.prog 107 #[.string s] w fun e w'=>∃ n,e=.returned (.tuple #[.int .i64 n,.bool (number s.data.toList).isSome])/\(∀ v,number s.data.toList=some v->n=v)/\Below w.heap.size w w':=by
 obtain ⟨⟨tp,p,h1⟩,⟨tp2,p2,h2⟩,h3⟩:=hL
 rcases h:Lib.atoiAll s.data.toList with v | _ | _
 ·skip
  have hat:=Tryz.strconv_Atoi_ok s (by omega) v h w
  obtain ⟨hv0,hv1⟩:=Lib.atoiAll_bounds h
  go_enter Tryz.func107,Tryz.ntmps107
  go_wp2_with (first | (go_at_call 127;refine hat.mono ?_;rintro e w1 ⟨rfl,hw1⟩;refine Hid.out ?_))
  have hb1:Hid (Below w.heap.size w w1):=qh (by
   rcases hw1 with rfl | ⟨t,rfl⟩
   ·exact qbr _ _
   exact Lib.bytesWorld_below _ _ _)
  clear hw1
  have hit:=Tryz.strconv_Itoa v (by omega) (by omega) w1 (var_below h3 hb1.out)
  have Hit:=qh hit
  clear hit
  have hcmp:=bs_eq (Lib.itoa v) s
  have HV:=qh (show number s.data.toList=if Lib.itoa v=s.data.toList then some v else none by unfold number;rw [h])
  clear h
  generalize Lib.itoa v=T at hcmp HV Hit
  by_cases e1:T=s.data.toList
  ·rw [qdt e1] at hcmp
   have E1:=qh e1;clear e1
   refine qh ?_
   go_wp2_with (first | (go_at_call 100;refine Hit.out.mono ?_;rintro e w2 ⟨rfl,k,os,hw2⟩))
   go_ret2
   refine ⟨v, ?_, ?_,hb1.out.trans (by subst hw2;exact (Lib.below_grow _ _ (qr _) _ _).mono hb1.out.size)⟩
   ·rw [HV.out,if_pos E1.out];rfl
   rw [HV.out,if_pos E1.out];intro u hu;injection hu
  rw [qdf e1] at hcmp
  have E1:=qh e1;clear e1
  refine qh ?_
  go_wp2_with (first | (go_at_call 100;refine Hit.out.mono ?_;rintro e w2 ⟨rfl,k,os,hw2⟩))
  go_ret2
  refine ⟨v, ?_, ?_,hb1.out.trans (by subst hw2;exact (Lib.below_grow _ _ (qr _) _ _).mono hb1.out.size)⟩
  ·rw [HV.out,if_neg E1.out];rfl
  rw [HV.out,if_neg E1.out];intro u hu;cases hu
 ·have hat:=Any.strconv_Atoi_syntax_var Tryz.laysC172 s (by omega) h tp p w h1
  go_enter Tryz.func107,Tryz.ntmps107
  go_wp2_with (first | (go_at_call 127;refine hat.mono ?_;rintro e w1 ⟨N,rfl,-,-,hb⟩))
  go_ret2
  have hn:number s.data.toList=none:=by unfold number;rw [h]
  exact ⟨_,by rw [hn];rfl,(by rw [hn];intro v hv;cases hv),hb⟩
 have hat:=Tryz.strconv_Atoi_range_var s (by omega) h tp2 p2 w h2
 go_enter Tryz.func107,Tryz.ntmps107
 go_wp2_with (first | (go_at_call 127;refine hat.mono ?_;rintro e w1 ⟨N,rfl,-,-,hb⟩))
 go_ret2
 have hn:number s.data.toList=none:=by unfold number;rw [h]
 exact ⟨_,by rw [hn];rfl,(by rw [hn];intro v hv;cases hv),hb⟩
end
section
open Go.RowKit Qm
def TParsePost (w:World) (l:Qm.W) (e:Ending) (w':World):Prop:=
 ∃ A n c,e=.returned (.tuple #[.agg #[.slice A n c],.int .i64 (parseTree l).2.1,.int .i64 (parseTree l).2.2])/\RTree w' (fun i=>w.heap.size<=i/\i<w'.heap.size) A n (parseTree l).1/\n<=c/\c<=maxLen/\Below w.heap.size w w'
theorem TParsePost.none_ {w w':World} {l:Qm.W} {i:Nat} {e:Int} (h:parseTree l=([],i,e)) (hb:Below w.heap.size w w'):TParsePost w l (.returned (.tuple #[.agg #[.slice none 0 0],.int .i64 i,.int .i64 e])) w':=by
 unfold TParsePost
 rw [h]
 exact ⟨none,0,0,rfl,RTree.nil_,qr _,Nat.zero_le _,hb⟩
theorem splitN_way {l:Qm.W} (w:World) (hs:l.length<4294967281) (hM:MaxW w) :
  Calls Tryz.prog 106 #[.string ⟨l.toArray⟩,.string ⟨#[32]⟩,.int .i64 5] w fun e w'=>(∃ m cap:Nat,e=.returned (.slice (some ⟨w.heap.size,0,none⟩) m cap))/\Below w.heap.size w w':=by
 cases h:cut4 l with
 | none=>exact (splitN_not h w hs hM).mono fun e w' ⟨⟨m,cap,he,_⟩,hb⟩=>⟨⟨m,cap,he⟩,hb⟩
 | some t =>
  obtain ⟨a,b,c,d,f⟩:=t
  exact (splitN_five h w hs hM).mono fun e w' ⟨he,hw⟩=>⟨⟨5,5,he⟩,by rw [hw];exact (qbr _ _).alloc (qr _) _⟩
theorem package_info:(Tryz.prog.info? 101).map (fun i=>(i.zero,i.size,i.bytes))=some (some (.agg #[.string ⟨#[]⟩,.int .i64 0,.int .i64 0,.slice none 0 0,.int .i64 0,.string ⟨#[]⟩,.int .i64 0,.int .i64 0,.int .i64 0,.string ⟨#[]⟩,.bool false,.string ⟨#[]⟩,.bool false,.slice none 0 0]),14,176):=by kernel_rfl
theorem tnumber_l (l:Qm.W) (w:World) (hs:l.length<=140737488355328) (hL:LaidV w) :
  Calls Tryz.prog 107 #[.string ⟨l.toArray⟩] w fun e w'=>∃ n,e=.returned (.tuple #[.int .i64 n,.bool (number l).isSome])/\(∀ v,number l=some v->n=v)/\Below w.heap.size w w':=
 tnumber_any ⟨l.toArray⟩ w (by rw [bsz];exact hs) hL
theorem nparse_l (l:Qm.W) (w:World) (hs:l.length<=140737488355328) (hL:LaidV w) (hM:MaxW w) :
  Calls Tryz.prog 108 #[.string ⟨l.toArray⟩] w (NParsePost w l):=nparse_any ⟨l.toArray⟩ w (by rw [bsz];unfold maxLen;omega) hL hM
theorem tparse_any (l:Qm.W) (w:World) (hs:l.length<=maxLen) (hL:LaidV w) (hM:MaxW w) :
  Calls Tryz.prog 82 #[.string ⟨l.toArray⟩] w (TParsePost w l):=by
 unfold maxLen at hs
 have T0:=qh (Td.new w)
 have HLV:=qh hL;clear hL
 have HMV:=qh hM;clear hM
 by_cases hl:(20000:Int)<l.length
 ·have HP:=qh (parse_many (s:=l) (by omega))
  go_enter Tryz.func82,Tryz.ntmps82
  go_wp2
  have hW:=T0.out.t
  have hB:=T0.out.below
  simp only [List.length_nil] at hW
  generalize World.alloc _ _=wf at hW hB ⊢
  have e0:=hW.cell 0
  simp only [qgz] at e0
  refine bodyPost_ret (v:=.tuple #[.agg #[_],.int .i64 _,.int .i64 _]) (by simp [results,Tryz.results82,go_sem,e0];exact ⟨rfl,rfl,rfl⟩) rfl ?_
  exact TParsePost.none_ HP.out hB
 have hl':decide ((20000:Int)<l.length)=false:=qdf hl
 have HKE:Hid (∀ i e,parseLines (l.length+1) 0 l=.error (i,e)->parseTree l=([],i,e)):=qh fun i e h=>parse_err (by omega) h
 have HKO:Hid (∀ ps,parseLines (l.length+1) 0 l=.ok ps->parseTree l=if ckTree ps=0 then (ps,0,0) else ([],0,ckTree ps)):=qh fun ps h=>parse_ok (by omega) h
 go_enter Tryz.func82,Tryz.ntmps82
 go_wp2
 go_loopg [0,5] (l.length+1) (fun g sv iv wr=>∃ (r:Qm.W) (i f:Nat) (A:Option Addr) (c:Nat) (cs:List (List Value)) (ps:List Pk),sv=.string ⟨r.toArray⟩/\iv=.int .i64 i/\Hid (r.length<g)/\Hid (r.length<f/\i+r.length<=l.length/\ps.length=i) /\
  Hid (parseLines (l.length+1) 0 l=prepT ps (parseLines f i r))/\Hid (Td w A c cs ps wr))
 case atStart=>exact ⟨l,0,l.length+1,none,0,[],[],rfl,rfl,qh (Nat.lt_succ_self _),qh ⟨by omega,by omega,rfl⟩,qh (prepT_nil _).symm,T0⟩
 case round =>
  obtain ⟨r,i,f,A,c,cs,ps,rfl,rfl,Hg,Hf,Hpl,T⟩:=hrel
  clear T0
  have t0:=T.out.t.cell 0
  have tf:=T.out.t.free 0
  simp only [qgz] at t0
  have tlt:=T.out.t.lt
  by_cases hr:r=[]
  ·subst hr
   have HPL:Hid (parseLines (l.length+1) 0 l=.ok ps):=qh (by rw [Hpl.out,lines_nil];simp [prepT])
   have HPT:=qh (HKO.out _ HPL.out)
   have hck:=tCheck_any ps _ A ps.length c wr T.out.tree T.out.cap.1 T.out.cap.2 (fun k hk=>hk.2)
   generalize hz:ckTree ps=z at hck HPT
   have Hck:=qh hck;clear hck hz
   by_cases z0:z=0
   ·subst z0
    have HP:Hid (parseTree l=(ps,0,0)):=qh (by rw [HPT.out,if_pos rfl])
    go_wp2_with (first | (go_at_call 83;refine Hck.out.mono ?_;rintro e w2 ⟨rfl,hb2⟩;refine Hid.out ?_))
    refine qh ?_
    have T2:=qh (T.out.move hb2)
    clear hb2 t0 tf tlt
    have t0:=T2.out.t.cell 0
    have tf:=T2.out.t.free 0
    simp only [qgz] at t0
    have tlt:=T2.out.t.lt
    go_wp2
    have hW:=T2.out.t.set_ 0 (.slice A ps.length c)
    have hB:=T2.out.below.setCell (p:=⟨w.heap.size,0,none⟩) (qr _) (.slice A ps.length c)
    have hT:RTree (w2.setCell ⟨w.heap.size,0,none⟩ (.slice A ps.length c)) (fun i=>w.heap.size<=i/\i<(w2.setCell ⟨w.heap.size,0,none⟩ (.slice A ps.length c)).heap.size) A ps.length ps:=
     (T2.out.tree.keep fun q hq=>(Far.set_ (D:=fun i=>i=w.heap.size) rfl 0 (.slice A ps.length c)).cell hq.2 (by have:=hq.1;omega)).more fun i hi=>⟨by omega,by rw [set_len];omega⟩
    simp only [List.set_cons_zero] at hW
    generalize World.setCell _ _ _=wf at hW hB hT ⊢
    have e0:=hW.cell 0
    simp only [qgz] at e0
    refine bodyPost_ret (v:=.tuple #[.agg #[_],.int .i64 _,.int .i64 _]) (by simp [results,Tryz.results82,go_sem,e0];exact ⟨rfl,rfl,rfl⟩) rfl ?_
    exact ⟨A,ps.length,c,by rw [HP.out];rfl,by rw [HP.out];exact hT,T2.out.cap.1,T2.out.cap.2,hB⟩
   have HP:Hid (parseTree l=([],((0:Nat)),z)):=qh (by rw [HPT.out,if_neg z0])
   have z1:(z != 0)=true:=by simpa using z0
   go_wp2_with (first | (go_at_call 83;refine Hck.out.mono ?_;rintro e w2 ⟨rfl,hb2⟩;refine Hid.out ?_))
   refine qh ?_
   have T2:=qh (T.out.move hb2)
   clear hb2 t0 tf tlt
   have t0:=T2.out.t.cell 0
   have tf:=T2.out.t.free 0
   simp only [qgz] at t0
   have tlt:=T2.out.t.lt
   go_wp2
   have hW:=T2.out.t.set_ 0 (.slice none 0 0)
   have hB:=T2.out.below.setCell (p:=⟨w.heap.size,0,none⟩) (qr _) (.slice none 0 0)
   simp only [List.set_cons_zero] at hW
   generalize World.setCell _ _ _=wf at hW hB ⊢
   have e0:=hW.cell 0
   simp only [qgz] at e0
   refine bodyPost_ret (v:=.tuple #[.agg #[_],.int .i64 _,.int .i64 _]) (by simp [results,Tryz.results82,go_sem,e0];exact ⟨rfl,rfl,rfl⟩) rfl ?_
   exact TParsePost.none_ HP.out hB
  obtain ⟨f,rfl⟩:∃ f',f=f'+1:=⟨f - 1,by have:=Hf.out;omega⟩
  have hr1:(r == [])=false:=by simpa using hr
  have hr2:r.isEmpty=false:=by simpa using hr
  have HR:=qh hr
  clear hr
  have hrl:r.length<4294967281:=by have:=Hf.out;omega
  cases hc:cutAt (· == 10) r with
  | none =>
   have HP:Hid (parseTree l=([],i,1)):=qh (HKE.out _ _ (by rw [Hpl.out,lines_cut HR.out hc];rfl))
   have Hcut:=qh (cut_none hc wr hrl (HMV.out.below T.out.below))
   have Hsp:=qh (fun wx h=>splitN_way (l:=r) wx hrl h)
   clear hc
   go_wp2_with (first | (go_at_call 105;refine Hcut.out.mono ?_;rintro e w1 ⟨rfl,hb1⟩;refine Hid.out ?_))
   refine qh ?_
   have T1:=qh (T.out.move hb1)
   clear hb1 t0 tf tlt
   go_wp2_with (first | (go_at_call 106;refine (Hsp.out _ (HMV.out.below T1.out.below)).mono ?_;rintro e w2 ⟨⟨m,cap,rfl⟩,hb2⟩;refine Hid.out ?_))
   refine qh ?_
   have T2:=qh (T1.out.move hb2)
   clear hb2
   have t0:=T2.out.t.cell 0
   have tf:=T2.out.t.free 0
   simp only [qgz] at t0
   have tlt:=T2.out.t.lt
   go_wp2
   have hW:=T2.out.t.set_ 0 (.slice none 0 0)
   have hB:=T2.out.below.setCell (p:=⟨w.heap.size,0,none⟩) (qr _) (.slice none 0 0)
   simp only [List.set_cons_zero] at hW
   generalize World.setCell _ _ _=wf at hW hB ⊢
   have e0:=hW.cell 0
   simp only [qgz] at e0
   refine bodyPost_ret (v:=.tuple #[.agg #[_],.int .i64 _,.int .i64 _]) (by simp [results,Tryz.results82,go_sem,e0];exact ⟨rfl,rfl,rfl⟩) rfl ?_
   exact TParsePost.none_ HP.out hB
  | some t =>
   obtain ⟨ln,x,rest⟩:=t
   have Hcut:=qh (cut_some hc wr hrl (HMV.out.below T.out.below))
   have HRL:Hid (ln.length+rest.length+1=r.length):=qh (by have:=(of_cutAt_some hc).1;rw [this];simp;omega)
   have hll:ln.length<4294967281:=by have:=HRL.out;omega
   have HBAD:=qh (fun e (h:parseLine ln=.error e)=>HKE.out i e (by rw [Hpl.out,lines_bad HR.out hc h];rfl))
   have HGOOD:=qh (fun p (h:parseLine ln=.ok p)=>Hpl.out.trans (lines_good HR.out hc h ps))
   clear hc
   cases h4:cut4 ln with
   | none =>
    have HP:Hid (parseTree l=([],i,1)):=qh (HBAD.out 1 (line_cut h4))
    have Hsp:=qh (fun wx h=>splitN_not h4 wx hll h)
    clear h4
    go_wp2_with (first | (go_at_call 105;refine Hcut.out.mono ?_;rintro e w1 ⟨rfl,hb1⟩;refine Hid.out ?_))
    refine qh ?_
    have T1:=qh (T.out.move hb1)
    clear hb1 t0 tf tlt
    go_wp2_with (first | (go_at_call 106;refine (Hsp.out _ (HMV.out.below T1.out.below)).mono ?_;rintro e w2 ⟨⟨m,cap,rfl,hm5,hm6⟩,hb2⟩;refine Hid.out ?_))
    refine qh ?_
    have hm7:((m:Int) != 5)=true:=by simp;omega
    have T2:=qh (T1.out.move hb2)
    clear hb2
    have t0:=T2.out.t.cell 0
    have tf:=T2.out.t.free 0
    simp only [qgz] at t0
    have tlt:=T2.out.t.lt
    go_wp2
    have hW:=T2.out.t.set_ 0 (.slice none 0 0)
    have hB:=T2.out.below.setCell (p:=⟨w.heap.size,0,none⟩) (qr _) (.slice none 0 0)
    simp only [List.set_cons_zero] at hW
    generalize World.setCell _ _ _=wf at hW hB ⊢
    have e0:=hW.cell 0
    simp only [qgz] at e0
    refine bodyPost_ret (v:=.tuple #[.agg #[_],.int .i64 _,.int .i64 _]) (by simp [results,Tryz.results82,go_sem,e0];exact ⟨rfl,rfl,rfl⟩) rfl ?_
    exact TParsePost.none_ HP.out hB
   | some t =>
    obtain ⟨a,b,c',d,y⟩:=t
    have Hsp:=qh (fun wx h=>splitN_five h4 wx hll h)
    have HLN:Hid (a.length+b.length+c'.length+d.length+y.length<=ln.length):=qh (by rw [cut4_back h4];simp;omega)
    have hln:=HLN.out
    have Hn1:=qh (fun wx h=>tnumber_l b wx (by omega) h)
    have Hn2:=qh (fun wx h=>tnumber_l c' wx (by omega) h)
    have Hnp:=qh (fun wx h h'=>nparse_l y wx (by omega) h h')
    have HBN:=qh (fun h=>HBAD.out 1 (line_num h4 h))
    have HBP:=qh (fun v k hv hk hn=>HBAD.out (parseNd y).2 (line_need h4 (v:=v) (k:=k) hv hk hn))
    have HGD:=qh (fun v k hv hk hn=>HGOOD.out _ (line_good h4 (v:=v) (k:=k) hv hk hn))
    clear h4 HBAD HGOOD
    generalize number b=nb at Hn1 HBN HBP HGD
    generalize number c'=nc at Hn2 HBN HBP HGD
    unfold NParsePost at Hnp
    generalize parseNd y=g at Hnp HBP HGD
    obtain ⟨gn,ge⟩:=g
    dsimp only at Hnp HBP HGD
    go_wp2_with (first | (go_at_call 105;refine Hcut.out.mono ?_;rintro e w1 ⟨rfl,hb1⟩;refine Hid.out ?_))
    refine qh ?_
    have T1:=qh (T.out.move hb1)
    clear hb1 t0 tf tlt
    have W2:=qh (Whole.new w1 w1.heap.size 9 (strs [a,b,c',d,y]) rfl)
    have T2:=qh (T1.out.move ((qbr _ w1).alloc (qr _) (.cells (strs [a,b,c',d,y]).toArray 9)))
    go_wp2_with (first | (go_at_call 106;refine (Hsp.out _ (HMV.out.below T1.out.below)).mono ?_;rintro e w2 ⟨rfl,rfl⟩;refine Hid.out ?_))
    refine qh ?_
    generalize w1.alloc (.cells (strs [a,b,c',d,y]).toArray 9)=w2 at W2 T2 ⊢
    obtain ⟨s0,s1,s2,s3,s4⟩:=ch5 W2.out.cell
    simp only [strs,List.map_cons,List.map_nil,qgz,qgs] at s0 s1 s2 s3 s4
    have slt:=W2.out.lt
    go_wp2_with (first | (go_at_call 107;refine (Hn1.out _ (HLV.out.below T2.out.below)).mono ?_;rintro e w3 ⟨v,rfl,hv,hb3⟩;refine Hid.out ?_))
    refine qh ?_
    have T3:=qh (T2.out.move hb3)
    have W3:=qh (W2.out.below hb3 W2.out.lt)
    have HV:=qh hv
    clear hb3 hv s0 s1 s2 s3 s4 slt
    obtain ⟨s0,s1,s2,s3,s4⟩:=ch5 W3.out.cell
    simp only [strs,List.map_cons,List.map_nil,qgz,qgs] at s0 s1 s2 s3 s4
    have slt:=W3.out.lt
    go_wp2_with (first | (go_at_call 107;refine (Hn2.out _ (HLV.out.below T3.out.below)).mono ?_;rintro e w4 ⟨u,rfl,hu,hb4⟩;refine Hid.out ?_))
    refine qh ?_
    have T4:=qh (T3.out.move hb4)
    have W4:=qh (W3.out.below hb4 W3.out.lt)
    have HU:=qh hu
    clear hb4 hu s0 s1 s2 s3 s4 slt
    obtain ⟨s0,s1,s2,s3,s4⟩:=ch5 W4.out.cell
    simp only [strs,List.map_cons,List.map_nil,qgz,qgs] at s0 s1 s2 s3 s4
    have slt:=W4.out.lt
    go_wp2_with (first | (go_at_call 108;refine (Hnp.out _ (HLV.out.below T4.out.below) (HMV.out.below T4.out.below)).mono ?_;rintro e w5 ⟨k,na,nf,no,D,q,dd,rfl,hrn,hb5⟩;refine Hid.out ?_))
    refine qh ?_
    have T5:=qh (T4.out.move hb5)
    have W5:=qh (W4.out.below hb5 W4.out.lt)
    clear s0 s1 s2 s3 s4 slt
    obtain ⟨an,ao,av,as_,af,ab⟩:=na
    unfold ndRow at hrn ⊢
    dsimp only at hrn ⊢
    have HRN:=qh hrn
    clear hrn hb5
    have hbx:Below w5.heap.size w5 (w5.alloc (.cells #[.int .i64 k,.string ⟨an.toArray⟩,.int .i64 ao,.int .i64 av,.int .i64 as_,.string ⟨af.toArray⟩,.bool ab,.string ⟨nf.toArray⟩,.bool no,.slice D q dd] 99)):=(qbr _ w5).alloc (qr _) _
    have T6:=qh (T5.out.move hbx)
    have W6:=qh (W5.out.below hbx W5.out.lt)
    have N6:=qh (Whole.new w5 w5.heap.size 99 [.int .i64 k,.string ⟨an.toArray⟩,.int .i64 ao,.int .i64 av,.int .i64 as_,.string ⟨af.toArray⟩,.bool ab,.string ⟨nf.toArray⟩,.bool no,.slice D q dd] rfl)
    have HRN6:=qh (HRN.out.under hbx fun i hi=>hi.2)
    have HV2:=qh (fun x h=>HV.out x h)
    clear hbx
    rcases nb with _ | v'
    ·have HP:=qh (HBN.out (.inl rfl))
     simp only [Option.isSome_none]
     have t0:=T6.out.t.cell 0
     have tf:=T6.out.t.free 0
     simp only [qgz] at t0
     have tlt:=T6.out.t.lt
     go_wp2
     have hW:=T6.out.t.set_ 0 (.slice none 0 0)
     have hB:=T6.out.below.setCell (p:=⟨w.heap.size,0,none⟩) (qr _) (.slice none 0 0)
     simp only [List.set_cons_zero] at hW
     generalize World.setCell _ _ _=wf at hW hB ⊢
     have e0:=hW.cell 0
     simp only [qgz] at e0
     refine bodyPost_ret (v:=.tuple #[.agg #[_],.int .i64 _,.int .i64 _]) (by simp [results,Tryz.results82,go_sem,e0];exact ⟨rfl,rfl,rfl⟩) rfl ?_
     exact TParsePost.none_ HP.out hB
    rcases nc with _ | u'
    ·have HP:=qh (HBN.out (.inr rfl))
     simp only [Option.isSome_none,Option.isSome_some]
     have t0:=T6.out.t.cell 0
     have tf:=T6.out.t.free 0
     simp only [qgz] at t0
     have tlt:=T6.out.t.lt
     go_wp2
     have hW:=T6.out.t.set_ 0 (.slice none 0 0)
     have hB:=T6.out.below.setCell (p:=⟨w.heap.size,0,none⟩) (qr _) (.slice none 0 0)
     simp only [List.set_cons_zero] at hW
     generalize World.setCell _ _ _=wf at hW hB ⊢
     have e0:=hW.cell 0
     simp only [qgz] at e0
     refine bodyPost_ret (v:=.tuple #[.agg #[_],.int .i64 _,.int .i64 _]) (by simp [results,Tryz.results82,go_sem,e0];exact ⟨rfl,rfl,rfl⟩) rfl ?_
     exact TParsePost.none_ HP.out hB
    simp only [Option.isSome_some]
    by_cases g1:ge=1
    ·subst g1
     have HP:=qh (HBP.out _ _ rfl rfl (by decide))
     have t0:=T6.out.t.cell 0
     have tf:=T6.out.t.free 0
     simp only [qgz] at t0
     have tlt:=T6.out.t.lt
     go_wp2
     have hW:=T6.out.t.set_ 0 (.slice none 0 0)
     have hB:=T6.out.below.setCell (p:=⟨w.heap.size,0,none⟩) (qr _) (.slice none 0 0)
     simp only [List.set_cons_zero] at hW
     generalize World.setCell _ _ _=wf at hW hB ⊢
     have e0:=hW.cell 0
     simp only [qgz] at e0
     refine bodyPost_ret (v:=.tuple #[.agg #[_],.int .i64 _,.int .i64 _]) (by simp [results,Tryz.results82,go_sem,e0];exact ⟨rfl,rfl,rfl⟩) rfl ?_
     exact TParsePost.none_ HP.out hB
    have g1':(ge == 1)=false:=by simpa using g1
    by_cases g0:ge≠0
    ·have HP:=qh (HBP.out _ _ rfl rfl g0)
     have g0':(ge != 0)=true:=by simpa using g0
     have t0:=T6.out.t.cell 0
     have tf:=T6.out.t.free 0
     simp only [qgz] at t0
     have tlt:=T6.out.t.lt
     go_wp2
     have hW:=T6.out.t.set_ 0 (.slice none 0 0)
     have hB:=T6.out.below.setCell (p:=⟨w.heap.size,0,none⟩) (qr _) (.slice none 0 0)
     simp only [List.set_cons_zero] at hW
     generalize World.setCell _ _ _=wf at hW hB ⊢
     have e0:=hW.cell 0
     simp only [qgz] at e0
     refine bodyPost_ret (v:=.tuple #[.agg #[_],.int .i64 _,.int .i64 _]) (by simp [results,Tryz.results82,go_sem,e0];exact ⟨rfl,rfl,rfl⟩) rfl ?_
     exact TParsePost.none_ HP.out hB
    obtain rfl:ge=0:=Decidable.not_not.1 g0
    have HG:=qh (HGD.out v' u' rfl rfl rfl)
    obtain rfl:=HV.out v' rfl
    obtain rfl:=HU.out u' rfl
    clear HBN HBP HGD HV2 g0 g1 HV HU
    have t0:=T6.out.t.cell 0
    have tf:=T6.out.t.free 0
    simp only [qgz] at t0
    have tlt:=T6.out.t.lt
    obtain ⟨s0,s1,s2,s3,s4⟩:=ch5 W6.out.cell
    simp only [strs,List.map_cons,List.map_nil,qgz,qgs] at s0 s1 s2 s3 s4
    have slt:=W6.out.lt
    obtain ⟨n0,n1,n2,n3,n4,n5,n6,n7,n8,n9⟩:=ch10 N6.out.cell
    simp only [qgz,qgs] at n0 n1 n2 n3 n4 n5 n6 n7 n8 n9
    have nlt:=N6.out.lt
    go_wp2
    generalize w5.alloc _=w6 at *
    go_region_held3 (fun w'=>w'.cell? ⟨w1.heap.size,0,none⟩=some (.string ⟨a.toArray⟩)/\w'.cell? ⟨w5.heap.size,0,none⟩=some (.int .i64 k)/\w'.cell? ⟨w5.heap.size,1,none⟩=some (.string ⟨an.toArray⟩)/\w'.cell? ⟨w5.heap.size,2,none⟩=some (.int .i64 ao)/\w'.cell? ⟨w5.heap.size,3,none⟩=some (.int .i64 av)/\w'.cell? ⟨w5.heap.size,4,none⟩=some (.int .i64 as_)/\w'.cell? ⟨w5.heap.size,5,none⟩=some (.string ⟨af.toArray⟩)/\w'.cell? ⟨w5.heap.size,6,none⟩=some (.bool ab)/\w'.cell? ⟨w5.heap.size,7,none⟩=some (.string ⟨nf.toArray⟩)/\w'.cell? ⟨w5.heap.size,8,none⟩=some (.bool no)/\w'.cell? ⟨w5.heap.size,9,none⟩=some (.slice D q dd))
     (go_keep) (fail)
    have hb7:Below w6.heap.size w6 ((w6.alloc (.cells #[.string ⟨a.toArray⟩,.int .i64 v,.int .i64 u,.slice none 0 0,.int .i64 k,.string ⟨an.toArray⟩,.int .i64 ao,.int .i64 av,.int .i64 as_,.string ⟨af.toArray⟩,.bool ab,.string ⟨nf.toArray⟩,.bool no,.slice D q dd] 101)).drew):=Below.drew ((qbr _ w6).alloc (qr _) _)
    have HB7:=qh hb7
    have T7:=qh (T6.out.move hb7)
    have W7:=qh (W6.out.below hb7 W6.out.lt)
    have P7:=qh (Whole.new w6 w6.heap.size 101 [.string ⟨a.toArray⟩,.int .i64 v,.int .i64 u,.slice none 0 0,.int .i64 k,.string ⟨an.toArray⟩,.int .i64 ao,.int .i64 av,.int .i64 as_,.string ⟨af.toArray⟩,.bool ab,.string ⟨nf.toArray⟩,.bool no,.slice D q dd] rfl).drew
    have HRNX:=qh (fun (wx:World) (hb:Below w6.heap.size w6 wx)=>(HRN6.out.under hb fun i hi=>by have:=N6.out.lt;omega).more (S':=fun i=>w.heap.size+1<=i/\i<wx.heap.size/\(Value.slice A ps.length c).ownBlock≠some i) fun i hi=>⟨by have:=T5.out.size;have:=T4.out.size;omega,by have:=N6.out.lt;have:=hb.size;omega,fun e=>by have:=(T4.out.own.lt i e).2;omega⟩)
    have HOW6:=qh (fun i e=>(T6.out.own.lt i e).2)
    have HAL:Hid (a.length<=maxLen/\d.length<=140737488355328):=qh ⟨by unfold maxLen;omega,by omega⟩
    have hsz6:w.heap.size+1<=w6.heap.size:=T6.out.size
    clear hb7 t0 tf tlt s0 s1 s2 s3 s4 slt n0 n1 n2 n3 n4 n5 n6 n7 n8 n9 nlt W6 N6 HRN6 T5 W5 HRN T3 T4 W3 W4 T1 T2 W2 T
    have hlt7:=P7.out.lt
    generalize World.drew _=w7 at *
    obtain ⟨i0,hi,hz0,hz1,hz2⟩:=info_parts package_info
    have Hi:=qh hi;have Hz0:=qh hz0;have Hz1:=qh hz1;have Hz2:=qh hz2
    clear hi hz0 hz1 hz2
    obtain ⟨s0,s1,s2,s3,s4⟩:=ch5 W7.out.cell
    simp only [strs,List.map_cons,List.map_nil,qgz,qgs] at s0 s1 s2 s3 s4
    have slt:=W7.out.lt
    by_cases hd:d=[]
    ·subst hd
     have HPK:Hid (RPk w7 (fun i=>w.heap.size+1<=i/\i<w7.heap.size/\(Value.slice A ps.length c).ownBlock≠some i) [.string ⟨a.toArray⟩,.int .i64 v,.int .i64 u,.slice none 0 0,.int .i64 k,.string ⟨an.toArray⟩,.int .i64 ao,.int .i64 av,.int .i64 as_,.string ⟨af.toArray⟩,.bool ab,.string ⟨nf.toArray⟩,.bool no,.slice D q dd] ⟨a,v,u,fsOf [],gn⟩):=qh ⟨none,0,0,_,rfl,qr _,Nat.zero_le _,HAL.out.1,RWords.nil_,HRNX.out w7 HB7.out⟩
     have t0:=T7.out.t.cell 0
     have tf:=T7.out.t.free 0
     simp only [qgz] at t0
     have tlt:=T7.out.t.lt
     obtain ⟨p0,p1,p2,p3,p4,p5,p6,p7,p8,p9,p10,p11,p12,p13⟩:=ch14 P7.out.cell
     simp only [qgz,qgs] at p0 p1 p2 p3 p4 p5 p6 p7 p8 p9 p10 p11 p12 p13
     have plt:=P7.out.lt
     have hb9:Below w7.heap.size w7 (w7.alloc (.cells #[.string ⟨a.toArray⟩,.int .i64 v,.int .i64 u,.slice none 0 0,.int .i64 k,.string ⟨an.toArray⟩,.int .i64 ao,.int .i64 av,.int .i64 as_,.string ⟨af.toArray⟩,.bool ab,.string ⟨nf.toArray⟩,.bool no,.slice D q dd] 101)):=(qbr _ w7).alloc (qr _) _
     have T9:=qh (T7.out.move hb9)
     have HPK9:=qh ((HPK.out.under hb9 (fun i hi=>hi.2.1)).more (S':=fun i=>w.heap.size+1<=i/\i<(w7.alloc (.cells #[.string ⟨a.toArray⟩,.int .i64 v,.int .i64 u,.slice none 0 0,.int .i64 k,.string ⟨an.toArray⟩,.int .i64 ao,.int .i64 av,.int .i64 as_,.string ⟨af.toArray⟩,.bool ab,.string ⟨nf.toArray⟩,.bool no,.slice D q dd] 101)).heap.size/\(Value.slice A ps.length c).ownBlock≠some i) fun i hi=>⟨hi.1,ql hi.2.1 hb9.size,hi.2.2⟩)
     have HNC:=qh (new_cells w7 w7.heap.size [.string ⟨a.toArray⟩,.int .i64 v,.int .i64 u,.slice none 0 0,.int .i64 k,.string ⟨an.toArray⟩,.int .i64 ao,.int .i64 av,.int .i64 as_,.string ⟨af.toArray⟩,.bool ab,.string ⟨nf.toArray⟩,.bool no,.slice D q dd] 101 rfl)
     clear hb9
     have hpsl:ps.length<=20000:=by have:=Hf.out;omega
     have hib:i<=20000:=by have:=Hf.out;omega
     go_wp2_with (at_builtin;refine wpList_append_own_at _ rfl _ _ 22 rfl (w.heap.size+1) 101 i0 (.agg #[.string ⟨#[]⟩,.int .i64 0,.int .i64 0,.slice none 0 0,.int .i64 0,.string ⟨#[]⟩,.int .i64 0,.int .i64 0,.int .i64 0,.string ⟨#[]⟩,.bool false,.string ⟨#[]⟩,.bool false,.slice none 0 0]) 14 176 Tryz.underlying22 Hi.out Hz0.out Hz1.out Hz2.out rfl (by decide) _ _ _ rfl T9.out.own ⟨w7.heap.size,0,none⟩ 1 1 [.string ⟨a.toArray⟩,.int .i64 v,.int .i64 u,.slice none 0 0,.int .i64 k,.string ⟨an.toArray⟩,.int .i64 ao,.int .i64 av,.int .i64 as_,.string ⟨af.toArray⟩,.bool ab,.string ⟨nf.toArray⟩,.bool no,.slice D q dd] rfl rfl HNC.out (by simp [Value.oneCell']) (by unfold maxLen;omega) (by omega) (by have:=T9.out.size;omega) ?_)
     intro vv w9 hown9 hg9 _ hv9
     obtain ⟨A9,c9,hv',_,_,_⟩:=own_formK hown9
     subst hv'
     have K9:=T9.out.push HPK9.out hown9 hg9 (hv9.imp id fun e=>by first | exact e | (rw [e];simp))
     have hN:=T9.out.t.grown hg9 (by intro e;have:=(T9.out.own.lt _ e.symm).1;omega)
     have HK9:=qh K9
     clear t0 tf tlt p0 p1 p2 p3 p4 p5 p6 p7 p8 p9 p10 p11 p12 p13 plt K9 hown9 hg9 hv9
     have t0:=hN.cell 0
     have tf:=hN.free 0
     simp only [qgz] at t0
     have tlt:=hN.lt
     clear hN
     go_wp2_with fail
     go_roundg (gk - 1)
     case measure=>have:=Hg.out;have:=HRL.out;omega
     case rel =>
      have h1:=Hg.out;have h2:=HRL.out;have h3:=Hf.out
      exact ⟨rest,i+1,f,A9,c9,_,_,rfl,by go_num,qh (by omega),qh ⟨by omega,by omega,by simp;omega⟩,qh HG.out,HK9⟩
    have hd1:(d != [])=true:=by simpa using hd
    have hd2:d.isEmpty=false:=by simpa using hd
    have HF:=qh (show fsOf d=splitB 44 d by unfold fsOf;rw [if_neg hd])
    have Hspl:=qh (fun wx h=>split_any ⟨d.toArray⟩ 44 wx (by rw [bsz];omega) h)
    rw [show (⟨d.toArray⟩:ByteArray).data.toList=d from rfl] at Hspl
    have hfs:=splitB_le (c:=44) (l:=d)
    generalize splitB 44 d=fs at Hspl HF hfs
    have HFS:=qh hfs;clear hfs hd
    have hlt6:w6.heap.size<w7.heap.size:=hlt7
    have hb8:Below w6.heap.size w6 ((w7.setCell ⟨w6.heap.size,3,none⟩ (.slice (some ⟨w7.heap.size,0,none⟩) fs.length fs.length)).alloc (.cells (strs fs).toArray 9)):=(HB7.out.setCell (qr _) _).alloc (by rw [set_len];exact HB7.out.size) _
    have HB8:=qh hb8
    have T8:=qh (T6.out.move hb8)
    have P8:=qh ((P7.out.set_ 3 (.slice (some ⟨w7.heap.size,0,none⟩) fs.length fs.length)).alloc (.cells (strs fs).toArray 9))
    simp only [List.set_cons_zero,List.set_cons_succ] at P8
    have N8:=qh (Whole.new (w7.setCell ⟨w6.heap.size,3,none⟩ (.slice (some ⟨w7.heap.size,0,none⟩) fs.length fs.length)) w7.heap.size 9 (strs fs) (by rw [set_len]))
    have HN8:=qh (HRNX.out _ hb8)
    have q3:=P7.out.cell 3
    have q0:=P7.out.free 3
    simp only [qgz,qgs] at q3
    clear hb8
    go_upto_region 20 with (first | (go_at_call 109;refine (Hspl.out _ (HMV.out.below T7.out.below)).mono ?_;rintro e w8 ⟨rfl,rfl⟩;refine Hid.out ?_))
    refine qh ?_
    go_upto_region 20 with fail
    generalize World.alloc _ _=w8 at HB8 T8 P8 N8 HN8 ⊢
    have hfb:w6.heap.size<w7.heap.size:=hlt7
    clear q3 q0 s0 s1 s2 s3 s4 slt hlt6 hlt7 W7 T7 P7 HRNX
    generalize w7.heap.size=fb at P8 N8 hfb ⊢
    have HPK:Hid (RPk w8 (fun i=>w.heap.size+1<=i/\i<w8.heap.size/\(Value.slice A ps.length c).ownBlock≠some i) [.string ⟨a.toArray⟩,.int .i64 v,.int .i64 u,.slice (some ⟨fb,0,none⟩) fs.length fs.length,.int .i64 k,.string ⟨an.toArray⟩,.int .i64 ao,.int .i64 av,.int .i64 as_,.string ⟨af.toArray⟩,.bool ab,.string ⟨nf.toArray⟩,.bool no,.slice D q dd] ⟨a,v,u,fsOf d,gn⟩):=qh (by
     rw [HF.out]
     exact ⟨some ⟨fb,0,none⟩,fs.length,fs.length,_,rfl,qr _,by have:=HFS.out.2;unfold maxLen;omega,HAL.out.1,⟨Whole.row N8.out ⟨by omega,N8.out.lt,fun e=>by have:=HOW6.out _ e;omega⟩ (strs_len fs),fun f hf=>by have:=HFS.out.1 f hf;unfold maxLen;omega⟩,HN8.out⟩)
    have t0:=T8.out.t.cell 0
    have tf:=T8.out.t.free 0
    simp only [qgz] at t0
    have tlt:=T8.out.t.lt
    obtain ⟨p0,p1,p2,p3,p4,p5,p6,p7,p8,p9,p10,p11,p12,p13⟩:=ch14 P8.out.cell
    simp only [qgz,qgs] at p0 p1 p2 p3 p4 p5 p6 p7 p8 p9 p10 p11 p12 p13
    have plt:=P8.out.lt
    have hb9:Below w8.heap.size w8 (w8.alloc (.cells #[.string ⟨a.toArray⟩,.int .i64 v,.int .i64 u,.slice (some ⟨fb,0,none⟩) fs.length fs.length,.int .i64 k,.string ⟨an.toArray⟩,.int .i64 ao,.int .i64 av,.int .i64 as_,.string ⟨af.toArray⟩,.bool ab,.string ⟨nf.toArray⟩,.bool no,.slice D q dd] 101)):=(qbr _ w8).alloc (qr _) _
    have T9:=qh (T8.out.move hb9)
    have HPK9:=qh ((HPK.out.under hb9 (fun i hi=>hi.2.1)).more (S':=fun i=>w.heap.size+1<=i/\i<(w8.alloc (.cells #[.string ⟨a.toArray⟩,.int .i64 v,.int .i64 u,.slice (some ⟨fb,0,none⟩) fs.length fs.length,.int .i64 k,.string ⟨an.toArray⟩,.int .i64 ao,.int .i64 av,.int .i64 as_,.string ⟨af.toArray⟩,.bool ab,.string ⟨nf.toArray⟩,.bool no,.slice D q dd] 101)).heap.size/\(Value.slice A ps.length c).ownBlock≠some i) fun i hi=>⟨hi.1,ql hi.2.1 hb9.size,hi.2.2⟩)
    have HNC:=qh (new_cells w8 w8.heap.size [.string ⟨a.toArray⟩,.int .i64 v,.int .i64 u,.slice (some ⟨fb,0,none⟩) fs.length fs.length,.int .i64 k,.string ⟨an.toArray⟩,.int .i64 ao,.int .i64 av,.int .i64 as_,.string ⟨af.toArray⟩,.bool ab,.string ⟨nf.toArray⟩,.bool no,.slice D q dd] 101 rfl)
    clear hb9
    have hpsl:ps.length<=20000:=by have:=Hf.out;omega
    have hib:i<=20000:=by have:=Hf.out;omega
    go_wp2_with (at_builtin;refine wpList_append_own_at _ rfl _ _ 22 rfl (w.heap.size+1) 101 i0 (.agg #[.string ⟨#[]⟩,.int .i64 0,.int .i64 0,.slice none 0 0,.int .i64 0,.string ⟨#[]⟩,.int .i64 0,.int .i64 0,.int .i64 0,.string ⟨#[]⟩,.bool false,.string ⟨#[]⟩,.bool false,.slice none 0 0]) 14 176 Tryz.underlying22 Hi.out Hz0.out Hz1.out Hz2.out rfl (by decide) _ _ _ rfl T9.out.own ⟨w8.heap.size,0,none⟩ 1 1 [.string ⟨a.toArray⟩,.int .i64 v,.int .i64 u,.slice (some ⟨fb,0,none⟩) fs.length fs.length,.int .i64 k,.string ⟨an.toArray⟩,.int .i64 ao,.int .i64 av,.int .i64 as_,.string ⟨af.toArray⟩,.bool ab,.string ⟨nf.toArray⟩,.bool no,.slice D q dd] rfl rfl HNC.out (by simp [Value.oneCell']) (by unfold maxLen;omega) (by omega) (by have:=T9.out.size;omega) ?_)
    intro vv w9 hown9 hg9 _ hv9
    obtain ⟨A9,c9,hv',_,_,_⟩:=own_formK hown9
    subst hv'
    have K9:=T9.out.push HPK9.out hown9 hg9 (hv9.imp id fun e=>by first | exact e | (rw [e];simp))
    have hN:=T9.out.t.grown hg9 (by intro e;have:=(T9.out.own.lt _ e.symm).1;omega)
    have HK9:=qh K9
    clear t0 tf tlt p0 p1 p2 p3 p4 p5 p6 p7 p8 p9 p10 p11 p12 p13 plt K9 hown9 hg9 hv9
    have t0:=hN.cell 0
    have tf:=hN.free 0
    simp only [qgz] at t0
    have tlt:=hN.lt
    clear hN
    go_wp2_with fail
    go_roundg (gk - 1)
    case measure=>have:=Hg.out;have:=HRL.out;omega
    case rel =>
     have h1:=Hg.out;have h2:=HRL.out;have h3:=Hf.out
     exact ⟨rest,i+1,f,A9,c9,_,_,rfl,by go_num,qh (by omega),qh ⟨by omega,by omega,by simp;omega⟩,qh HG.out,HK9⟩
end
section
open Go.RowKit Qm
theorem TParsePost.lit {w w':World} {l:Qm.W} {e:Ending} (h:TParsePost w l e w') {ps:List Pk} {i:Nat} {z:Int} (hp:parseTree l=(ps,i,z)) :
  ∃ A c,e=.returned (.tuple #[.agg #[.slice A ps.length c],.int .i64 i,.int .i64 z])/\RTree w' (fun i=>w.heap.size<=i/\i<w'.heap.size) A ps.length ps/\ps.length<=c/\c<=maxLen/\Below w.heap.size w w':=by
 obtain ⟨A,n,c,rfl,hr,h1,h2,hb⟩:=h
 rw [hp] at hr ⊢
 have hl:ps.length=n:=hr.len
 subst hl
 exact ⟨A,c,rfl,hr,h1,h2,hb⟩
end
section
open Go.RowKit Qm
def smallB:Qm.W:=[97,32,49,32,49,32,32,40,32,98,32,41,10,97,32,50,32,49,32,120,32,40,32,120,63,32,40,32,98,32,41,32,41,10,98,32,49,32,49,32,32,40,32,33,99,32,41,10,99,32,49,32,49,32,32,40,32,41,10]
def leafW (k:Int) (c:UInt8):Nd:=.mk k ⟨[c],0,0,0,[],false⟩ [] false []
def pkS (c:UInt8) (v:Int) (fs:List Qm.W) (ks:List Nd):Pk:=⟨[c],v,1,fs,.mk 3 At.zero [] false ks⟩
def smallT:List Pk:=[pkS 97 1 [] [leafW 1 98],pkS 97 2 [[120]] [.mk 5 At.zero [120] false [leafW 1 98]],pkS 98 1 [] [leafW 2 99],pkS 99 1 [] []]
theorem parse_S:parseTree smallB=(smallT,0,0):=by kernel_rfl
def SmallPost (w:World) (e:Ending) (w':World):Prop:=
 ∃ A c,e=.returned (.tuple #[.agg #[.slice A 4 c],.bool true])/\RTree w' (fun i=>w.heap.size<=i/\i<w'.heap.size) A 4 smallT/\4<=c/\c<=maxLen/\Below w.heap.size w w'
theorem small_any (w:World) (hL:LaidV w) (hM:MaxW w) :
  Calls Tryz.prog 51 #[] w (SmallPost w):=by
 have hal:Below w.heap.size w (w.alloc (.cells #[.slice none 0 0] 24)):=(qbr _ w).alloc (qr _) _
 have hpa:=(tparse_any smallB (w.alloc (.cells #[.slice none 0 0] 24)) (by decide) (hL.below hal) (hM.below hal)).mono fun e w' h=>h.lit parse_S
 rw [show smallT.length=4 from rfl] at hpa
 unfold smallB at hpa
 have Hpa:=qh hpa
 have HA:=qh hal
 have HZ:=qh (Whole.new w w.heap.size 24 [.slice none 0 0] rfl)
 clear hpa hal hL hM
 go_enter Tryz.func51,Tryz.ntmps51
 go_wp2_with (first | (go_at_call 82;refine Hpa.out.mono ?_;rintro e w2 ⟨A,c,rfl,hT,hc1,hc2,hb2⟩;refine Hid.out ?_))
 refine qh ?_
 have hbx:Below w2.heap.size w2 (w2.alloc (.cells #[.slice A 4 c] 24)):=(qbr _ _).alloc (qr _) _
 have HW3:=qh (Whole.new w2 _ 24 [.slice A 4 c] rfl)
 have HZ3:=qh ((HZ.out.below hb2 HZ.out.lt).below hbx (HZ.out.below hb2 HZ.out.lt).lt)
 have HT3:=qh ((hT.under hbx fun k hk=>hk.2).more (S':=fun i=>w.heap.size<i/\i<w2.heap.size) fun i hi=>⟨ql HZ.out.lt hi.1,hi.2⟩)
 have HB3:=qh (HA.out.trans ((hb2.trans (hbx.mono hb2.size)).mono HA.out.size))
 have hlt3:w.heap.size<w2.heap.size:=ql HZ.out.lt hb2.size
 clear hb2 hbx hT HZ
 go_wp2
 generalize World.alloc w2 _=w3 at *
 have t0:=HW3.out.cell 0
 have z0:=HZ3.out.cell 0
 have zf:=HZ3.out.free 0
 simp only [qgz] at t0 z0
 have zlt:=HZ3.out.lt
 have tlt:=HW3.out.lt
 have s0:(w3.setCell ⟨w.heap.size,0,none⟩ (.slice A 4 c)).drew.cell? ⟨w2.heap.size,0,none⟩=some (.slice A 4 c):=(HW3.out.far (p:=⟨w.heap.size,0,none⟩) (by show w2.heap.size≠w.heap.size;omega) (.slice A 4 c)).cell 0
 go_region_held3 (fun w'=>w'.cell? ⟨w2.heap.size,0,none⟩=some (.slice A 4 c))
  (first | go_keep | exact s0) (fail)
 have hW:=(HZ3.out.set_ 0 (.slice A 4 c)).drew
 simp only [List.set_cons_zero] at hW
 have hf:Far (fun i=>i=w.heap.size) w3 (w3.setCell ⟨w.heap.size,0,none⟩ (.slice A 4 c)).drew:=(Far.set_ (D:=fun i=>i=w.heap.size) rfl 0 (.slice A 4 c)).drew
 have hT:RTree (w3.setCell ⟨w.heap.size,0,none⟩ (.slice A 4 c)).drew (fun i=>w.heap.size<=i/\i<(w3.setCell ⟨w.heap.size,0,none⟩ (.slice A 4 c)).drew.heap.size) A 4 smallT:=
  (HT3.out.keep fun q hq=>hf.cell (by have:=hq.2;omega) (by have:=hq.1;omega)).more fun i hi=>⟨by omega,by have:=hf.size;omega⟩
 have hB:Below w.heap.size w (w3.setCell ⟨w.heap.size,0,none⟩ (.slice A 4 c)).drew:=Below.drew (HB3.out.setCell (p:=⟨w.heap.size,0,none⟩) (qr _) _)
 clear s0 t0 z0 zf zlt tlt
 generalize World.drew _=wf at hW hT hB ⊢
 go_wp2
 have e0:=hW.cell 0
 simp only [qgz] at e0
 refine bodyPost_ret (v:=.tuple #[.agg #[_],.bool true]) (by simp [results,Tryz.results51,go_sem,e0];exact rfl) rfl ?_
 exact ⟨A,c,rfl,hT,hc1,hc2,hB⟩
end
section
open Go.RowKit
theorem take_eq_succ {α:Type} [DecidableEq α] {xs ys:List α} {k:Nat} (d:α) (h1:k<xs.length) (h2:k<ys.length) (h:xs.take k=ys.take k) (he:xs.getD k d=ys.getD k d):xs.take (k+1)=ys.take (k+1):=by
 rw [List.take_succ_eq_append_getElem h1,List.take_succ_eq_append_getElem h2,h]
 simp [List.getD,h1,h2] at he
 rw [he]
theorem eq_of_take_all {α:Type} {xs ys:List α} {n:Nat} (h1:xs.length=n) (h2:ys.length=n) (h:xs.take n=ys.take n):xs=ys:=by
 rwa [List.take_of_length_le (by omega),List.take_of_length_le (by omega)] at h
theorem ne_of_getD {α:Type} {xs ys:List α} {k:Nat} (d:α) (h:xs.getD k d≠ys.getD k d):xs≠ys:=fun e=>h (by rw [e])
theorem equal_int (A A':Option Addr) (n n' c c':Nat) (xs ys:List Int) (w:World) (S:Nat->Prop) (hx:RInts w S A n xs) (hy:RInts w S A' n' ys) (hn:n<=maxLen) (hn':n'<=maxLen) :
  Calls Tryz.prog 32 #[.slice A n c,.slice A' n' c'] w fun e w'=>e=.returned (.bool (xs == ys))/\∃ nq,w'=w.drewN nq:=by
 unfold maxLen at hn hn'
 have hl:=qh hx.len
 have hl':=qh hy.len
 by_cases hne:n=n'
 ·subst hne
  have h0:((n:Int) != (n:Int))=false:=by simp
  go_enter Tryz.func32,Tryz.ntmps32
  go_wp2
  go_loopw [13] (fun i wr=>∃ k:Nat,k<=n/\i=.int .i64 k/\Hid (xs.take k=ys.take k)/\∃ nq,wr=w.drewN nq) (fun i _=>n - (intOf i).toNat)
  case atStart=>exact ⟨0,Nat.zero_le _,rfl,by exact rfl,0,rfl⟩
  case round =>
   obtain ⟨k,hk,rfl,Ht,nq,rfl⟩:=hrel
   by_cases hlt:k<n
   ·obtain ⟨b,o,rfl,hb,hc⟩:=hx.at_ hlt
    obtain ⟨b',o',rfl,hb',hc'⟩:=hy.at_ hlt
    generalize hu:xs.getD k 0=u at hc
    generalize hv:ys.getD k 0=v at hc'
    have Hu:=qh hu;clear hu
    have Hv:=qh hv;clear hv
    by_cases huv:u=v
    ·have h1:(u != v)=false:=by simpa using huv
     have Huv:=qh huv;clear huv
     go_wp2
     go_quiet (fail)
     go_wp2
     go_roundw
     case rel=>exact ⟨k+1,by omega,by go_num,take_eq_succ 0 (by rw [hl.out];exact hlt) (by rw [hl'.out];exact hlt) Ht.out (by rw [Hu.out,Hv.out,Huv.out]),_,(by first | rfl | exact World.drewN_drewN _ _ _)⟩
     case measure=>simp [intOf];omega
    have h1:(u != v)=true:=by simpa using huv
    go_wp2
    go_quiet (fail)
    go_wp2
    go_ret
    exact ⟨ret_bool (by symm;rw [beq_eq_false_iff_ne];exact ne_of_getD 0 (by rw [Hu.out,Hv.out];exact huv)),_,(by first | rfl | exact World.drewN_drewN _ _ _)⟩
   have h1:k=n:=by omega
   subst h1
   go_wp2
   go_ret
   exact ⟨ret_bool (by symm;rw [beq_iff_eq];exact eq_of_take_all hl.out hl'.out Ht.out),_,rfl⟩
 have h0:((n:Int) != (n':Int))=true:=by rw [bne_iff_ne];omega
 go_enter Tryz.func32,Tryz.ntmps32
 go_wp2
 go_ret
 exact ⟨ret_bool (by symm;rw [beq_eq_false_iff_ne];intro e;exact hne (by rw [<- hl.out,<- hl'.out,e])),0,rfl⟩
end
section
open Go.RowKit
theorem equalB_any (A A':Option Addr) (n n' c c':Nat) (xs ys:List Bool) (w:World) (S:Nat->Prop) (hx:RBools w S A n xs) (hy:RBools w S A' n' ys) (hn:n<=maxLen) (hn':n'<=maxLen) :
  Calls Tryz.prog 55 #[.slice A n c,.slice A' n' c'] w fun e w'=>e=.returned (.bool (xs == ys))/\∃ nq,w'=w.drewN nq:=by
 unfold maxLen at hn hn'
 have hl:=qh hx.len
 have hl':=qh hy.len
 by_cases hne:n=n'
 ·subst hne
  have h0:((n:Int) != (n:Int))=false:=by simp
  go_enter Tryz.func55,Tryz.ntmps55
  go_wp2
  go_loopw [13] (fun i wr=>∃ k:Nat,k<=n/\i=.int .i64 k/\Hid (xs.take k=ys.take k)/\∃ nq,wr=w.drewN nq) (fun i _=>n - (intOf i).toNat)
  case atStart=>exact ⟨0,Nat.zero_le _,rfl,by exact rfl,0,rfl⟩
  case round =>
   obtain ⟨k,hk,rfl,Ht,nq,rfl⟩:=hrel
   by_cases hlt:k<n
   ·obtain ⟨b,o,rfl,hb,hc⟩:=hx.at_ hlt
    obtain ⟨b',o',rfl,hb',hc'⟩:=hy.at_ hlt
    generalize hu:xs.getD k false=u at hc
    generalize hv:ys.getD k false=v at hc'
    have Hu:=qh hu;clear hu
    have Hv:=qh hv;clear hv
    cases u <;> cases v
    all_goals
     first
      | (
       have Huv:Hid (xs.getD k false=ys.getD k false):=by rw [Hu.out,Hv.out];exact rfl
       go_wp2
       go_quiet (fail)
       go_wp2
       go_roundw
       case rel=>exact ⟨k+1,by omega,by go_num,take_eq_succ false (by rw [hl.out];exact hlt) (by rw [hl'.out];exact hlt) Ht.out Huv.out,_,(by first | rfl | exact World.drewN_drewN _ _ _)⟩
       case measure=>simp [intOf];omega)
      | (
       have Huv:Hid (xs.getD k false≠ys.getD k false):=by show _≠_;rw [Hu.out,Hv.out];intro h;cases h
       go_wp2
       go_quiet (fail)
       go_wp2
       go_ret
       exact ⟨ret_bool (by symm;rw [beq_eq_false_iff_ne];exact ne_of_getD false Huv.out),_,(by first | rfl | exact World.drewN_drewN _ _ _)⟩)
   have h1:k=n:=by omega
   subst h1
   go_wp2
   go_ret
   exact ⟨ret_bool (by symm;rw [beq_iff_eq];exact eq_of_take_all hl.out hl'.out Ht.out),_,rfl⟩
 have h0:((n:Int) != (n':Int))=true:=by rw [bne_iff_ne];omega
 go_enter Tryz.func55,Tryz.ntmps55
 go_wp2
 go_ret
 exact ⟨ret_bool (by symm;rw [beq_eq_false_iff_ne];intro e;exact hne (by rw [<- hl.out,<- hl'.out,e])),0,rfl⟩
end
section
open Go.RowKit Qm
def eqL {α:Type} (sm:α->α->Bool):List α->List α->Bool
 | [],[]=>true
 | x :: r,y :: s=>sm x y && eqL sm r s
 | _,_=>false
theorem eqL_iff {α:Type} {sm:α->α->Bool} (h:∀ x y,sm x y=true↔x=y):∀ {xs ys:List α},eqL sm xs ys=true↔xs=ys
 | [],[]=>by simp [eqL]
 | [],_ :: _=>by simp [eqL]
 | _ :: _,[]=>by simp [eqL]
 | x :: r,y :: s=>by simp only [eqL,Bool.and_eq_true,h,eqL_iff h,List.cons.injEq]
theorem eqL_len {α:Type} {sm:α->α->Bool}:∀ {xs ys:List α},xs.length≠ys.length->eqL sm xs ys=false
 | [],[],h=>absurd rfl h
 | [],_ :: _,_=>rfl
 | _ :: _,[],_=>rfl
 | x :: r,y :: s,h=>by
  simp only [eqL]
  rw [eqL_len (by simpa using h),Bool.and_false]
theorem eqL_step {α:Type} {sm:α->α->Bool} {xs ys:List α} {j:Nat} {x y:α} (hx:xs[j]? = some x) (hy:ys[j]? = some y):eqL sm (xs.drop j) (ys.drop j)=(sm x y && eqL sm (xs.drop (j+1)) (ys.drop (j+1))):=by
 obtain ⟨h1,rfl⟩:=List.getElem?_eq_some_iff.1 hx
 obtain ⟨h2,rfl⟩:=List.getElem?_eq_some_iff.1 hy
 rw [List.drop_eq_getElem_cons h1,List.drop_eq_getElem_cons h2]
 rfl
def AsksEq {α:Type} (P:Program) (w:World) (F:FuncId) (R:List Value->α->Prop) (sm:α->α->Bool):Prop:=
 (∀ (args:Array Value) (W:World),(callFunc F args).run P W=.ok (.enter F args) W) /\
  ∀ (x y:α) (cx cy:List Value) (W:World),Below w.heap.size w W->R cx x->R cy y->Calls P F #[.agg cx.toArray,.agg cy.toArray] W fun e w'=>e=.returned (.bool (sm x y))/\Below W.heap.size W w'
end
section
open Go.RowKit Qm
def Shape_M (x:List Value):Prop:=∃ (x0:Int) (x1a:Option Addr) (x1n x1c:Nat),x=[.int .i64 x0,.slice x1a x1n x1c]
theorem equalF_M {α:Type} (R:List Value->α->Prop) (sm:α->α->Bool) (A B:Option Addr) (n c m d:Nat) (xs ys:List α) (F:FuncId) (w:World) (S:Nat->Prop) (hK:RSeq 2 R w S A n xs) (hL:RSeq 2 R w S B m ys) (hS:∀ k,S k->k<w.heap.size) (hn:n<=maxLen) (hm:m<=maxLen) (hF:AsksEq Tryz.prog w F R sm) (hsh:∀ x y,R x y->Shape_M x) :
  Calls Tryz.prog 53 #[.slice A n c,.slice B m d,.func (.func F) #[] #[]] w fun e w'=>e=.returned (.bool (eqL sm xs ys))/\Below w.heap.size w w':=by
 unfold maxLen at hn hm
 have HK:=qh hK;have HL:=qh hL;have HS:=qh hS;have HF:=qh hF;clear hK hL hS hF
 by_cases hnm:n=m
 ·subst hnm
  go_enter Tryz.func53,Tryz.ntmps53
  go_wp2
  go_loopg [17] n (fun g iv wr=>∃ (j:Nat),Hid (j+g=n)/\iv=.int .i64 j/\Hid (eqL sm xs ys=eqL sm (xs.drop j) (ys.drop j))/\Below w.heap.size w wr)
  case atStart=>exact ⟨0,qh (Nat.zero_add _),rfl,qh rfl,qbr _ _⟩
  case round =>
   obtain ⟨j,Hj,rfl,Hcl,hb⟩:=hrel
   have HBr:=qh hb;clear hb
   by_cases hj:j<n
   ·obtain ⟨b,o,x,y,rfl,hb,hy,hxy,hxl,hcell⟩:=(HK.out.keep (w':=wr) (fun p hp=>HBr.out.cell (HS.out _ hp)) fun _ _ h=>h).at_ hj (by decide)
    obtain ⟨b',o',x',y',rfl,hb',hy',hxy',hxl',hcell'⟩:=(HL.out.keep (w':=wr) (fun p hp=>HBr.out.cell (HS.out _ hp)) fun _ _ h=>h).at_ hj (by decide)
    have Hdr:Hid (eqL sm (xs.drop j) (ys.drop j)=(sm y y' && eqL sm (xs.drop (j+1)) (ys.drop (j+1)))):=qh (eqL_step hy hy')
    have hlt:b'<wr.heap.size:=ql (HS.out _ hb') HBr.out.size
    obtain ⟨x0,x1a,x1n,x1c,rfl⟩:=hsh _ _ hxy
    obtain ⟨y0,y1a,y1n,y1c,rfl⟩:=hsh _ _ hxy'
    have g0:=hcell 0 (by omega);have g1:=hcell 1 (by omega)
    have k0:=hcell' 0 (by omega);have k1:=hcell' 1 (by omega)
    simp only [qgz,qgs,Nat.add_zero] at g0 g1 k0 k1
    clear hcell hcell' hy hy'
    have hW1:Below wr.heap.size wr ((wr.alloc (.cells #[.int .i64 x0,.slice x1a x1n x1c] 85)).alloc (.cells #[.int .i64 y0,.slice y1a y1n y1c] 85)):=((qbr _ wr).alloc (qr _) _).alloc (by simp) _
    have hcall:=HF.out.2 _ _ _ _ _ (HBr.out.trans (hW1.mono HBr.out.size)) hxy hxy'
    have henter:=HF.out.1
    have HB2:=qh (HBr.out.trans (hW1.mono HBr.out.size))
    clear hW1 hxy hxy' hxl hxl'
    generalize sm y y'=q at hcall Hdr
    have Hcall:=qh hcall;clear hcall
    cases q
    ·go_wp2_with fail
     refine Hcall.out.mono ?_
     rintro e w' ⟨rfl,hb'⟩
     have HB3:=qh (HB2.out.trans (hb'.mono HB2.out.size));clear hb'
     go_wp2_with fail
     go_ret
     exact ⟨ret_bool (by rw [Hcl.out,Hdr.out];rfl),HB3.out⟩
    go_wp2_with fail
    refine Hcall.out.mono ?_
    rintro e w' ⟨rfl,hb'⟩
    have HB3:=qh (HB2.out.trans (hb'.mono HB2.out.size));clear hb'
    go_wp2_with fail
    go_roundg (gk - 1)
    case measure=>have:=Hj.out;omega
    case rel=>exact ⟨j+1,qh (by have:=Hj.out;omega),by go_num,qh (by rw [Hcl.out,Hdr.out,Bool.true_and]),HB3.out⟩
   go_wp2_with fail
   go_ret
   refine ⟨ret_bool ?_,HBr.out⟩
   rw [Hcl.out,List.drop_of_length_le (by have:=HK.out.len;omega),List.drop_of_length_le (by have:=HL.out.len;omega)];rfl
 have e1:((n:Int) != (m:Int))=true:=by simp;omega
 have e2:((n:Int) == (m:Int))=false:=by simp;omega
 have HE:Hid (eqL sm xs ys=false):=qh (eqL_len (by have:=HK.out.len;have:=HL.out.len;omega))
 go_enter Tryz.func53,Tryz.ntmps53
 go_wp2
 go_ret
 exact ⟨ret_bool HE.out.symm,qbr _ _⟩
end
section
open Go.RowKit Qm
def sameMem (x y:Mem):Bool:=decide (x.pl=y.pl) && (x.on == y.on)
theorem sameMemr_any (x y:Mem) (S:Nat->Prop) (cx cy:List Value) (w:World) (hx:RMem w S cx x) (hy:RMem w S cy y) (hS:∀ k,S k->k<w.heap.size) :
  Calls Tryz.prog 70 #[.agg cx.toArray,.agg cy.toArray] w fun e w'=>e=.returned (.bool (sameMem x y))/\Below w.heap.size w w':=by
 obtain ⟨A,n,c,rfl,hn,hc,hon⟩:=hx
 obtain ⟨B,m,d,rfl,hm,hd,hon'⟩:=hy
 have hbx:Below w.heap.size w ((w.alloc (.cells #[.int .i64 x.pl,.slice A n c] 85)).alloc (.cells #[.int .i64 y.pl,.slice B m d] 85)):=((qbr _ w).alloc (qr _) _).alloc (by simp) _
 have heq:=equalB_any A B n m c d x.on y.on _ S (Row.keep hon fun p hp=>hbx.cell (hS _ hp)) (Row.keep hon' fun p hp=>hbx.cell (hS _ hp)) (qlt hn hc) (qlt hm hd)
 have HC:Hid (sameMem x y=(decide (x.pl=y.pl) && (x.on == y.on))):=qh rfl
 obtain ⟨pl,on⟩:=x
 obtain ⟨pl',on'⟩:=y
 dsimp only at heq HC hbx
 generalize sameMem ⟨pl,on⟩ ⟨pl',on'⟩=R at HC ⊢
 generalize (on == on')=q at heq HC
 have Heq:=qh heq
 have HB:=qh hbx
 clear heq hbx hon hon' hS
 by_cases hp:pl=pl'
 ·subst hp
  have hpp:(pl == pl)=true:=by simp
  have HR:Hid (R=q):=qh (by rw [HC.out,qdt rfl,Bool.true_and])
  clear HC
  go_enter Tryz.func70,Tryz.ntmps70
  go_wp2_with (first | (go_at_call 55;refine Heq.out.mono ?_;rintro e w3 ⟨rfl,nq,rfl⟩;refine Hid.out ?_))
  refine qh ?_
  go_wp2
  go_ret
  exact ⟨ret_bool (by rw [HR.out]),below_drewN HB.out _⟩
 have hpp:(pl == pl')=false:=by simpa using hp
 have HR:Hid (R=false):=qh (by rw [HC.out,qdf hp,Bool.false_and])
 clear HC hp
 go_enter Tryz.func70,Tryz.ntmps70
 go_wp2
 go_ret
 exact ⟨ret_bool (by rw [HR.out]),HB.out⟩
theorem sameSetr_any (xs ys:List Mem) (S:Nat->Prop) (A B:Option Addr) (n c m d:Nat) (w:World) (hT:RSet w S A n xs) (hU:RSet w S B m ys) (hS:∀ k,S k->k<w.heap.size) (hn:n<=maxLen) (hm:m<=maxLen) :
  Calls Tryz.prog 24 #[.slice A n c,.slice B m d] w fun e w'=>e=.returned (.bool (eqL sameMem xs ys))/\Below w.heap.size w w':=by
 have hq:=equalF_M (RMem w S) sameMem A B n c m d xs ys 70 w S hT hU hS hn hm
  ⟨fun args W=>by kernel_rfl,fun x y cx cy W hb hx hy=>sameMemr_any x y S cx cy W (hx.under hb hS) (hy.under hb hS) (fun k hk=>ql (hS k hk) hb.size)⟩
  (fun x y h=>by obtain ⟨A,n,c,rfl,_⟩:=h;exact ⟨_,_,_,_,rfl⟩)
 generalize eqL sameMem xs ys=q at hq ⊢
 have Hq:=qh hq
 clear hq hT hU hS
 go_enter Tryz.func24,Tryz.ntmps24
 go_wp2_with (first | (go_at_call 53;refine Hq.out.mono ?_;rintro e w3 ⟨rfl,hb3⟩;refine Hid.out ?_))
 refine qh ?_
 have HB3:=qh hb3
 clear hb3
 go_wp2
 go_ret
 exact ⟨rfl,HB3.out⟩
end
section
open Go.RowKit Qm
def atR1:At:=⟨[97],0,0,0,[],false⟩
def atR2:At:=⟨[97],0,0,0,[120],true⟩
def wsR1:Ws:=⟨[atR1],[⟨3,[]⟩],[],[]⟩
def wsR2:Ws:=⟨[atR2],[⟨3,[]⟩],[],[]⟩
def wsR3:Ws:=⟨[atR2],[⟨3,[]⟩],[0,2],[]⟩
def memR1:List Mem:=[⟨1,[false]⟩,⟨3,[]⟩]
def memR2:List Mem:=[⟨1,[true]⟩,⟨2,[]⟩]
theorem ck_R3:ckWish smallT wsR3=0:=by decide +kernel
theorem res_R1:resE smallT wsR1 40000=0/\resM smallT wsR1 40000=memR1:=by decide +kernel
theorem res_R2:resE smallT wsR2 40000=0/\resM smallT wsR2 40000=memR2:=by decide +kernel
theorem res_R3:resE smallT wsR3 40000=7:=by decide +kernel
theorem unm_R3:unmE smallT wsR3=0/\unmL smallT wsR3=[2]:=by decide +kernel
theorem prf_R3:0<(resP smallT wsR3 40000).length:=by
 rcases res_max ck_R3 with ⟨h,_⟩ | ⟨_,_,_,h,_⟩
 ·rw [res_R3] at h;cases h
 exact h
theorem eq_R1:eqL sameMem memR1 memR1=true:=by decide +kernel
theorem eq_R2:eqL sameMem memR2 memR2=true:=by decide +kernel
end
end Go.Proofs.YtedbhlgjcnnknaaGreatDoor
