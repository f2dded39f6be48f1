/- Parts. -/
import Derived.Test.YtedbhlgjcnnknaaGreatDoorQ12
import Derived.Laws.EntriesVeiled
import Derived.Lib.OwnBridge
set_option linter.unusedVariables false
set_option linter.unusedSimpArgs false
set_option linter.unusedSectionVars false
set_option maxRecDepth 100000
set_option maxHeartbeats 12800000
namespace Go.Proofs.YtedbhlgjcnnknaaGreatDoor
section
open Go.RowKit Qm
theorem strs_of {L:List ByteArray} {ws:List Qm.W} (h:L.map (·.data.toList)=ws):L.map Value.string=strs ws:=by
 subst h
 unfold strs
 rw [List.map_map]
 congr 1
theorem splitGo_le {c:UInt8}:∀ {l acc:Qm.W},(∀ x∈splitGo c acc l,x.length<=acc.length+l.length)/\(splitGo c acc l).length<=l.length+1
 | [],acc=>by simp [splitGo]
 | x :: r,acc=>by
  rw [splitGo]
  by_cases h:x=c
  ·rw [if_pos h]
   obtain ⟨h1,h2⟩:=splitGo_le (c:=c) (l:=r) (acc:=[])
   refine ⟨fun y hy=>?_,by simp;omega⟩
   rcases List.mem_cons.1 hy with rfl | hy
   ·simp
   have:=h1 y hy;simp at this ⊢;omega
  rw [if_neg h]
  obtain ⟨h1,h2⟩:=splitGo_le (c:=c) (l:=r) (acc:=acc++[x])
  refine ⟨fun y hy=>?_,by simp;omega⟩
  have:=h1 y hy;simp at this ⊢;omega
theorem splitB_le {c:UInt8} {l:Qm.W}:(∀ x∈splitB c l,x.length<=l.length)/\(splitB c l).length<=l.length+1:=by
 have:=splitGo_le (c:=c) (l:=l) (acc:=[])
 simpa [splitB] using this
def MaxW (w:World):Prop:=∃ m,w.cell? ⟨0,0,none⟩=some (.int .i64 m)
theorem MaxW.below {w w':World} (h:MaxW w) (hb:Below w.heap.size w w'):MaxW w':=by
 obtain ⟨m,hm⟩:=h
 exact ⟨m,(hb.cell (World.block_lt_of_cell? _ _ hm)).trans hm⟩
theorem split_any (s:ByteArray) (c:UInt8) (w:World) (hs:s.size<4294967281) (hM:MaxW w) :
  Calls Tryz.prog 109 #[.string s,.string ⟨#[c]⟩] w fun e w'=>e=.returned (.slice (some ⟨w.heap.size,0,none⟩) (splitB c s.data.toList).length (splitB c s.data.toList).length)/\w'=w.alloc (.cells (strs (splitB c s.data.toList)).toArray 9):=by
 obtain ⟨m,hm⟩:=hM
 have h:=Tryz.strings_Split s ⟨#[c]⟩ m w hs hm (Nat.le_refl 1)
 have hd:(Lib.splitB ⟨#[c]⟩ 0 (Lib.countB s ⟨#[c]⟩) s).map (·.data.toList)=splitB c s.data.toList:=by
  rcases splitB_bytes c s ⟨#[c]⟩ with h | h
  ·exact h
  exact absurd rfl h
 have hl:(splitB c s.data.toList).length=Lib.countB s ⟨#[c]⟩+1:=by
  rw [<- hd,List.length_map]
  exact Lib.splitB_all ⟨#[c]⟩ (Nat.le_refl 1) 0 _ s rfl
 rw [strs_of hd,<- hl] at h
 exact h
def NParsePost (w:World) (l:Qm.W) (e:Ending) (w':World):Prop:=
 ∃ k a f no A n c,e=.returned (.tuple #[.agg (ndRow k a f no A n c).toArray,.int .i64 (parseNd l).2])/\RNd w' (fun i=>w.heap.size<=i/\i<w'.heap.size) (ndRow k a f no A n c) (parseNd l).1/\Below w.heap.size w w'
theorem RNd.zero (w:World) (S:Nat->Prop):RNd w S (ndRow 0 At.zero [] false none 0 0) Nd.zero:=RNd.shut (qr _) (Nat.zero_le _) (Nat.zero_le _) (Nat.zero_le _) (Nat.zero_le _) RKids.nil_
theorem far_ownB {w w1 w2:World} {b:Nat} (h:Below w.heap.size w w1) (k:Far (fun i=>i=b) w1 w2) (hb:w.heap.size<=b):Below w.heap.size w w2:=
 ⟨k.base.os.trans h.os,k.base.tape.trans h.tape,k.base.output.trans h.output,qlt h.size k.size,fun i hi=>(k.block i (ql hi h.size) (by omega)).trans (h.block i hi)⟩
theorem parse_start (w:World) (ws:List Qm.W) (hl:ws.length<=maxLen) (hL:LaidV w) :
  let w3:=((w.alloc (.cells (ndRow 0 At.zero [] false none 0 0).toArray 99)).alloc (.cells (strs ws).toArray 9)).alloc (.cells #[.slice (some ⟨w.heap.size+1,0,none⟩) ws.length ws.length] 181)
  RdSt w3 (w.heap.size+1+1) (fun k=>k=w.heap.size+1) ws/\Env w w3 (w.heap.size+1+1) (fun k=>k=w.heap.size+1)/\Whole w3 w.heap.size 99 (ndRow 0 At.zero [] false none 0 0)/\Below w.heap.size w w3:=by
 intro w3
 have h1:=(Whole.new w _ 99 (ndRow 0 At.zero [] false none 0 0) rfl)
 have h2:=Whole.new (w.alloc (.cells (ndRow 0 At.zero [] false none 0 0).toArray 99)) (w.heap.size+1) 9 (strs ws) (by simp)
 have h3:=Whole.new ((w.alloc (.cells (ndRow 0 At.zero [] false none 0 0).toArray 99)).alloc (.cells (strs ws).toArray 9)) (w.heap.size+1+1) 181 [.slice (some ⟨w.heap.size+1,0,none⟩) ws.length ws.length] (by simp)
 have hb:Below w.heap.size w w3:=(((qbr _ w).alloc (qr _) _).alloc (by simp) _).alloc (by simp;omega) _
 have h2':=h2.alloc (.cells #[.slice (some ⟨w.heap.size+1,0,none⟩) ws.length ws.length] 181)
 refine ⟨⟨_,_,h3,qr _,hl,Whole.row (S:=fun k=>k=w.heap.size+1) h2' rfl (strs_len ws),by omega⟩,⟨hL,hb,by omega,h3.lt,fun k hk=>by subst hk;exact h2'.lt⟩,(h1.alloc _).alloc _,hb⟩
theorem nparse_any (s:ByteArray) (w:World) (hs:s.size<=maxLen) (hL:LaidV w) (hM:MaxW w) :
  Calls Tryz.prog 108 #[.string s] w (NParsePost w s.data.toList):=by
 unfold maxLen at hs
 have HSZ:=qh (Lib.size_eq s)
 have HLV:=qh hL;clear hL
 have HMV:=qh hM;clear hM
 have HZ:=qh (Whole.new w _ 99 [.int .i64 0,.string ⟨#[]⟩,.int .i64 0,.int .i64 0,.int .i64 0,.string ⟨#[]⟩,.bool false,.string ⟨#[]⟩,.bool false,.slice none 0 0] rfl)
 have HB:=qh ((qbr _ w).alloc (qr _) (.cells #[.int .i64 0,.string ⟨#[]⟩,.int .i64 0,.int .i64 0,.int .i64 0,.string ⟨#[]⟩,.bool false,.string ⟨#[]⟩,.bool false,.slice none 0 0] 99))
 by_cases hl:20000<s.size
 ·have hl':(20000:Int)<(s.size:Int):=by omega
  have HP:Hid (parseNd s.data.toList=(Nd.zero,2)):=qh (by unfold parseNd;rw [if_pos (by rw [<- HSZ.out];exact hl)])
  go_enter Tryz.func108,Tryz.ntmps108
  go_wp2
  have hW:=HZ.out
  have hB:=HB.out
  generalize World.alloc _ _=wf at hW hB ⊢
  obtain ⟨e0,e1,e2,e3,e4,e5,e6,e7,e8,e9⟩:=ch10 hW.cell
  simp only [qgz,qgs] at e0 e1 e2 e3 e4 e5 e6 e7 e8 e9
  refine bodyPost_ret (v:=.tuple #[.agg #[_,_,_,_,_,_,_,_,_,_],.int .i64 _]) (by simp [results,Tryz.results108,go_sem,e0,e1,e2,e3,e4,e5,e6,e7,e8,e9];exact ⟨⟨rfl,rfl,rfl,rfl,rfl,rfl,rfl,rfl,rfl,rfl⟩,rfl⟩) rfl ?_
  exact ⟨0,At.zero,[],false,none,0,0,by rw [HP.out];rfl,by rw [HP.out];exact RNd.zero _ _,hB⟩
 have hl':decide ((20000:Int)<(s.size:Int))=false:=by simp;omega
 have HP:Hid (parseNd s.data.toList=toldNd (readN 4 (splitB 32 s.data.toList))):=qh (by unfold parseNd;rw [if_neg (by rw [<- HSZ.out];exact hl)])
 have hsp:=fun wx hM=>split_any s 32 wx (by omega) hM
 obtain ⟨hw1,hw2⟩:=splitB_le (c:=32) (l:=s.data.toList)
 rw [<- HSZ.out] at hw1 hw2
 generalize splitB 32 s.data.toList=ws at hsp hw1 hw2 HP
 have Hsp:=qh hsp
 have Hw1:=qh hw1
 clear hsp hw1
 have hst:=parse_start w ws (by unfold maxLen;omega) HLV.out
 unfold At.zero at hst
 have Hst:=qh hst;clear hst
 have hneed:=fun wx h1 h2=>need_any 4 1 (w.heap.size+1+1) (fun k=>k=w.heap.size+1) ws w wx rfl (by decide) h1 h2 (fun x hx=>by have:=Hw1.out x hx;omega) (by omega)
 unfold NeedPost at hneed
 generalize readN 4 ws=q at hneed HP
 have Hneed:=qh hneed;clear hneed
 rcases q with _ | ⟨y,u⟩
 ·have HP2:Hid (parseNd s.data.toList=(Nd.zero,1)):=qh HP.out
  go_enter Tryz.func108,Tryz.ntmps108
  go_wp2_with (first | (go_at_call 109;refine (Hsp.out _ (HMV.out.below HB.out)).mono ?_;rintro e w1 ⟨rfl,rfl⟩))
  refine (Hneed.out _ Hst.out.1 Hst.out.2.1).mono ?_
  rintro e w4 ⟨k',a',f',no',A',n',c',rfl,hf4,-⟩
  obtain ⟨xn,xo,xv,xs,xf,xb⟩:=a'
  have HZ4:=qh (hf4.whole Hst.out.2.2.1 (by show w.heap.size≠_;omega))
  have HB4:=qh (far_ownB Hst.out.2.2.2 hf4 (by omega))
  clear hf4
  unfold ndRow at HZ4 ⊢
  try simp only [Option.isSome_none]
  obtain ⟨z0,z1,z2,z3,z4,z5,z6,z7,z8,z9⟩:=ch10 HZ4.out.cell
  obtain ⟨y0,y1,y2,y3,y4,y5,y6,y7,y8,y9⟩:=ch10 HZ4.out.free
  simp only [qgz,qgs] at z0 z1 z2 z3 z4 z5 z6 z7 z8 z9
  have hlt:=HZ4.out.lt
  go_wp2
  obtain ⟨wz,hwz,hW,hF,hsz⟩:=store10 HZ4.out rfl (.int .i64 0) (.string ⟨#[]⟩) (.int .i64 0) (.int .i64 0) (.int .i64 0) (.string ⟨#[]⟩) (.bool false) (.string ⟨#[]⟩) (.bool false) (.slice none 0 0)
  rw [hwz]
  clear hwz
  have hW2:=hW.alloc (.cells #[.int .i64 k',.string ⟨xn.toArray⟩,.int .i64 xo,.int .i64 xv,.int .i64 xs,.string ⟨xf.toArray⟩,.bool xb,.string ⟨f'.toArray⟩,.bool no',.slice A' n' c'] 99)
  have hB2:=(far_ownB HB4.out hF (qr _)).alloc (by rw [hsz];exact HB4.out.size) (.cells #[.int .i64 k',.string ⟨xn.toArray⟩,.int .i64 xo,.int .i64 xv,.int .i64 xs,.string ⟨xf.toArray⟩,.bool xb,.string ⟨f'.toArray⟩,.bool no',.slice A' n' c'] 99)
  generalize wz.alloc _=wf at hW2 hB2 ⊢
  obtain ⟨e0,e1,e2,e3,e4,e5,e6,e7,e8,e9⟩:=ch10 hW2.cell
  simp only [qgz,qgs] at e0 e1 e2 e3 e4 e5 e6 e7 e8 e9
  refine bodyPost_ret (v:=.tuple #[.agg #[_,_,_,_,_,_,_,_,_,_],.int .i64 _]) (by simp [results,Tryz.results108,go_sem,e0,e1,e2,e3,e4,e5,e6,e7,e8,e9];exact ⟨⟨rfl,rfl,rfl,rfl,rfl,rfl,rfl,rfl,rfl,rfl⟩,rfl⟩) rfl ?_
  exact ⟨0,At.zero,[],false,none,0,0,by rw [HP2.out];rfl,by rw [HP2.out];exact RNd.zero _ _,hB2⟩
 have hck:=fun (S:Nat->Prop) (x:List Value) (wx:World) h1 h2=>nCheck_any y S x wx h1 h2
 have HP2:Hid (parseNd s.data.toList=toldNd (some (y,u))):=qh HP.out
 have HCK:Hid (∀ e,ckNeed y=e->finNd y=if e=0 then (y,0) else (Nd.zero,e)):=qh fun e he=>by subst he;rfl
 go_enter Tryz.func108,Tryz.ntmps108
 go_wp2_with (first | (go_at_call 109;refine (Hsp.out _ (HMV.out.below HB.out)).mono ?_;rintro e w1 ⟨rfl,rfl⟩))
 refine (Hneed.out _ Hst.out.1 Hst.out.2.1).mono ?_
 rintro e w4 ⟨k',a',f',no',A',n',c',rfl,hf4,hsome⟩
 obtain ⟨hrn,hrd⟩:=hsome y u rfl
 have hlow:w.heap.size<=((w.alloc (.cells (ndRow 0 At.zero [] false none 0 0).toArray 99)).alloc (.cells (strs ws).toArray 9)).heap.size:=by simp;omega
 have HRN:=qh (hrn.more (S':=fun i=>w.heap.size<i/\i<w4.heap.size) fun i hi=>⟨by have h1:=hi.1;simp at h1;omega,hi.2⟩)
 obtain ⟨Ar,cr,hrw,-⟩:=hrd
 have r0:=hrw.cell 0
 simp only [qgz] at r0
 have hltr:=hrw.lt
 have HZ4:=qh (hf4.whole Hst.out.2.2.1 (by show w.heap.size≠_;omega))
 have HB4:=qh (far_ownB Hst.out.2.2.2 hf4 (by omega))
 clear hf4 hsome hrn hrw hlow
 have HA':=qh (show atOf ⟨a'.nm.toArray⟩ a'.op a'.ver a'.slot ⟨a'.fl.toArray⟩ a'.on=a' from atOf_mk a')
 obtain ⟨xn,xo,xv,xs,xf,xb⟩:=a'
 unfold ndRow at HZ4 HRN ⊢
 try simp only [Option.isSome_some]
 cases u with
 | cons a r =>
  have HP3:Hid (parseNd s.data.toList=(Nd.zero,1)):=qh HP2.out
  have hul:(0:Int)<((a :: r).length:Int):=by simp only [List.length_cons];omega
  obtain ⟨z0,z1,z2,z3,z4,z5,z6,z7,z8,z9⟩:=ch10 HZ4.out.cell
  obtain ⟨y0,y1,y2,y3,y4,y5,y6,y7,y8,y9⟩:=ch10 HZ4.out.free
  simp only [qgz,qgs] at z0 z1 z2 z3 z4 z5 z6 z7 z8 z9
  have hlt:=HZ4.out.lt
  go_wp2
  obtain ⟨wz,hwz,hW,hF,hsz⟩:=store10 HZ4.out rfl (.int .i64 0) (.string ⟨#[]⟩) (.int .i64 0) (.int .i64 0) (.int .i64 0) (.string ⟨#[]⟩) (.bool false) (.string ⟨#[]⟩) (.bool false) (.slice none 0 0)
  rw [hwz]
  clear hwz
  have hW2:=hW.alloc (.cells #[.int .i64 k',.string ⟨xn.toArray⟩,.int .i64 xo,.int .i64 xv,.int .i64 xs,.string ⟨xf.toArray⟩,.bool xb,.string ⟨f'.toArray⟩,.bool no',.slice A' n' c'] 99)
  have hB2:=(far_ownB HB4.out hF (qr _)).alloc (by rw [hsz];exact HB4.out.size) (.cells #[.int .i64 k',.string ⟨xn.toArray⟩,.int .i64 xo,.int .i64 xv,.int .i64 xs,.string ⟨xf.toArray⟩,.bool xb,.string ⟨f'.toArray⟩,.bool no',.slice A' n' c'] 99)
  generalize wz.alloc _=wf at hW2 hB2 ⊢
  obtain ⟨e0,e1,e2,e3,e4,e5,e6,e7,e8,e9⟩:=ch10 hW2.cell
  simp only [qgz,qgs] at e0 e1 e2 e3 e4 e5 e6 e7 e8 e9
  refine bodyPost_ret (v:=.tuple #[.agg #[_,_,_,_,_,_,_,_,_,_],.int .i64 _]) (by simp [results,Tryz.results108,go_sem,e0,e1,e2,e3,e4,e5,e6,e7,e8,e9];exact ⟨⟨rfl,rfl,rfl,rfl,rfl,rfl,rfl,rfl,rfl,rfl⟩,rfl⟩) rfl ?_
  exact ⟨0,At.zero,[],false,none,0,0,by rw [HP3.out];rfl,by rw [HP3.out];exact RNd.zero _ _,hB2⟩
 | nil =>
  simp only [List.length_nil] at r0
  have hbl:Below w4.heap.size w4 (w4.alloc (.cells #[.int .i64 k',.string ⟨xn.toArray⟩,.int .i64 xo,.int .i64 xv,.int .i64 xs,.string ⟨xf.toArray⟩,.bool xb,.string ⟨f'.toArray⟩,.bool no',.slice A' n' c'] 99)):=(qbr _ _).alloc (qr _) _
  have HN5:=qh (Whole.new w4 _ 99 [.int .i64 k',.string ⟨xn.toArray⟩,.int .i64 xo,.int .i64 xv,.int .i64 xs,.string ⟨xf.toArray⟩,.bool xb,.string ⟨f'.toArray⟩,.bool no',.slice A' n' c'] rfl)
  have HRN5:=qh (HRN.out.under hbl fun q hq=>hq.2)
  have HZ5:=qh (HZ4.out.below hbl HZ4.out.lt)
  have HB5:=qh (HB4.out.trans (hbl.mono HB4.out.size))
  have Hck:=qh (hck _ _ _ HRN5.out fun q hq=>ql hq.2 hbl.size)
  clear hck hbl
  generalize ckNeed y=e at Hck HCK
  have HF2:=qh (HCK.out e rfl)
  by_cases h0:e=0
  ·subst h0
   have HP3:Hid (parseNd s.data.toList=(y,0)):=qh (by rw [HP2.out];exact HF2.out)
   go_wp2_with (first | (go_at_call 129;refine Hck.out.mono ?_;rintro e w6 ⟨rfl,hb6⟩;refine Hid.out ?_))
   refine qh ?_
   have HB6:=qh (HB5.out.trans (hb6.mono HB5.out.size))
   have HZ6:=qh (HZ5.out.below hb6 HZ5.out.lt)
   have HN6:=qh (HN5.out.below hb6 HN5.out.lt)
   have HRN6:=qh (HRN5.out.under hb6 fun q hq=>by have:=HN5.out.lt;omega)
   clear hb6 HB5 HZ5 HN5 HRN5
   obtain ⟨n0,n1,n2,n3,n4,n5,n6,n7,n8,n9⟩:=ch10 HN6.out.cell
   simp only [qgz,qgs] at n0 n1 n2 n3 n4 n5 n6 n7 n8 n9
   obtain ⟨z0,z1,z2,z3,z4,z5,z6,z7,z8,z9⟩:=ch10 HZ6.out.cell
   obtain ⟨y0,y1,y2,y3,y4,y5,y6,y7,y8,y9⟩:=ch10 HZ6.out.free
   simp only [qgz,qgs] at z0 z1 z2 z3 z4 z5 z6 z7 z8 z9
   have hlt:=HZ6.out.lt
   have hlt2:=HN6.out.lt
   go_wp2
   obtain ⟨wz,hwz,hW,hF,hsz⟩:=store10 HZ6.out rfl (.int .i64 k') (.string ⟨xn.toArray⟩) (.int .i64 xo) (.int .i64 xv) (.int .i64 xs) (.string ⟨xf.toArray⟩) (.bool xb) (.string ⟨f'.toArray⟩) (.bool no') (.slice A' n' c')
   rw [hwz]
   clear hwz
   have hB2:=far_ownB HB6.out hF (qr _)
   obtain ⟨e0,e1,e2,e3,e4,e5,e6,e7,e8,e9⟩:=ch10 hW.cell
   simp only [qgz,qgs] at e0 e1 e2 e3 e4 e5 e6 e7 e8 e9
   refine bodyPost_ret (v:=.tuple #[.agg #[_,_,_,_,_,_,_,_,_,_],.int .i64 _]) (by simp [results,Tryz.results108,go_sem,e0,e1,e2,e3,e4,e5,e6,e7,e8,e9];exact ⟨⟨rfl,rfl,rfl,rfl,rfl,rfl,rfl,rfl,rfl,rfl⟩,rfl⟩) rfl ?_
   refine ⟨k',⟨xn,xo,xv,xs,xf,xb⟩,f',no',A',n',c',by rw [HP3.out];rfl, ?_,hB2⟩
   rw [HP3.out]
   exact (HRN6.out.far hF fun i hi=>⟨by omega,by omega⟩).more fun i hi=>⟨by omega,by omega⟩
  have h1:(e != 0)=true:=by simpa using h0
  have HP3:Hid (parseNd s.data.toList=(Nd.zero,e)):=qh (by rw [HP2.out];have:=HF2.out;rw [if_neg h0] at this;exact this)
  clear h0
  go_wp2_with (first | (go_at_call 129;refine Hck.out.mono ?_;rintro e w6 ⟨rfl,hb6⟩;refine Hid.out ?_))
  refine qh ?_
  have HB6:=qh (HB5.out.trans (hb6.mono HB5.out.size))
  have HZ6:=qh (HZ5.out.below hb6 HZ5.out.lt)
  have HN6:=qh (HN5.out.below hb6 HN5.out.lt)
  clear hb6 HB5 HZ5 HN5 HRN5
  obtain ⟨n0,n1,n2,n3,n4,n5,n6,n7,n8,n9⟩:=ch10 HN6.out.cell
  simp only [qgz,qgs] at n0 n1 n2 n3 n4 n5 n6 n7 n8 n9
  obtain ⟨z0,z1,z2,z3,z4,z5,z6,z7,z8,z9⟩:=ch10 HZ6.out.cell
  obtain ⟨y0,y1,y2,y3,y4,y5,y6,y7,y8,y9⟩:=ch10 HZ6.out.free
  simp only [qgz,qgs] at z0 z1 z2 z3 z4 z5 z6 z7 z8 z9
  have hlt:=HZ6.out.lt
  have hlt2:=HN6.out.lt
  go_wp2
  obtain ⟨wz,hwz,hW,hF,hsz⟩:=store10 HZ6.out rfl (.int .i64 0) (.string ⟨#[]⟩) (.int .i64 0) (.int .i64 0) (.int .i64 0) (.string ⟨#[]⟩) (.bool false) (.string ⟨#[]⟩) (.bool false) (.slice none 0 0)
  rw [hwz]
  clear hwz
  have hB2:=far_ownB HB6.out hF (qr _)
  obtain ⟨e0,e1,e2,e3,e4,e5,e6,e7,e8,e9⟩:=ch10 hW.cell
  simp only [qgz,qgs] at e0 e1 e2 e3 e4 e5 e6 e7 e8 e9
  refine bodyPost_ret (v:=.tuple #[.agg #[_,_,_,_,_,_,_,_,_,_],.int .i64 _]) (by simp [results,Tryz.results108,go_sem,e0,e1,e2,e3,e4,e5,e6,e7,e8,e9];exact ⟨⟨rfl,rfl,rfl,rfl,rfl,rfl,rfl,rfl,rfl,rfl⟩,rfl⟩) rfl ?_
  exact ⟨0,At.zero,[],false,none,0,0,by rw [HP3.out];rfl,by rw [HP3.out];exact RNd.zero _ _,hB2⟩
end
section
open Go.RowKit Qm
structure Fl (base BL BF:Nat) (fs:List Qm.W) (A:Option Addr) (c:Nat) (w:World):Prop where
 l:Whole w BL 96 [.slice A fs.length c]
 fn:Whole w BF 170 [.func (.func 153) #[] #[.pointer (some ⟨BL,0,none⟩),.pointer (some ⟨BF,0,none⟩)]]
 own:w.ownsRow base 9 1 (.slice A fs.length c) fs.length (strs fs)
 ltL:BL<base
 ltF:BF<base
 ne:BL≠BF
def FD (BL:Nat) (v:Value) (i:Nat):Prop:=i=BL\/v.ownBlock=some i
def FlPost (base BL BF:Nat) (fs:List Qm.W) (v:Value) (gs:List Qm.W) (w:World) (e:Ending) (w':World):Prop:=
 ∃ A' c',e=.returned (.tuple #[])/\Fl base BL BF (fs++gs) A' c' w'/\Far (FD BL v) w w' /\
  ((Value.slice A' (fs++gs).length c').ownBlock=v.ownBlock\/∃ g,(Value.slice A' (fs++gs).length c').ownBlock=some g/\w.heap.size<=g)
structure Fw (w:World) (base BL BF:Nat) (v:Value) (fs:List Qm.W) (A:Option Addr) (c:Nat) (wx:World):Prop where
 fl:Fl base BL BF fs A c wx
 far:Far (FD BL v) w wx
 at_:(Value.slice A fs.length c).ownBlock=v.ownBlock\/∃ g,(Value.slice A fs.length c).ownBlock=some g/\w.heap.size<=g
section
variable {w wx wy : World} {base BL BF : Nat} {v : Value} {fs gs : List Qm.W} {A : Option Addr} {c : Nat}
theorem Fl.below (h:Fl base BL BF fs A c wx) (hb:Below wx.heap.size wx wy):Fl base BL BF fs A c wy:=
 ⟨h.l.below hb h.l.lt,h.fn.below hb h.fn.lt,own_below h.own hb,h.ltL,h.ltF,h.ne⟩
theorem Fw.below (h:Fw w base BL BF v fs A c wx) (hb:Below wx.heap.size wx wy):Fw w base BL BF v fs A c wy:=
 ⟨h.fl.below hb,h.far.trans (Far.of_below (FD BL v) hb) fun _ _ h=>h,h.at_⟩
theorem FD.back (h:Fw w base BL BF v fs A c wx):∀ i,i<w.heap.size->FD BL (.slice A fs.length c) i->FD BL v i:=by
 intro i hi hd
 rcases hd with hd | hd
 ·exact .inl hd
 rcases h.at_ with e | ⟨g,e,hg⟩
 ·exact .inr (e ▸ hd)
 rw [e] at hd;injection hd with hd;omega
theorem Fw.call (h:Fw w base BL BF v fs A c wx) {A':Option Addr} {c':Nat} (hl:Fl base BL BF (fs++gs) A' c' wy) (hf:Far (FD BL (.slice A fs.length c)) wx wy)
  (ha:(Value.slice A' (fs++gs).length c').ownBlock=(Value.slice A fs.length c).ownBlock\/∃ g,(Value.slice A' (fs++gs).length c').ownBlock=some g/\wx.heap.size<=g):Fw w base BL BF v (fs++gs) A' c' wy:=by
 refine ⟨hl,h.far.trans hf (FD.back h), ?_⟩
 rcases ha with e | ⟨g,e,hg⟩
 ·rcases h.at_ with e2 | ⟨g,e2,hg⟩
  ·exact .inl (e.trans e2)
  exact .inr ⟨g,e.trans e2,hg⟩
 exact .inr ⟨g,e,qlt h.far.size hg⟩
theorem Fw.push (h:Fw w base BL BF v fs A c wx) {A':Option Addr} {c':Nat} {f:Qm.W} (hown:wy.ownsRow base 9 1 (.slice A' (fs.length+1) c') (fs.length+1) (strs fs++[.string ⟨f.toArray⟩])) (hg:wx.grownBy wy (Value.slice A fs.length c).ownBlock)
  (hv:(Value.slice A' (fs.length+1) c').ownBlock=(Value.slice A fs.length c).ownBlock\/(Value.slice A' (fs.length+1) c').ownBlock=some wx.heap.size) :
  Fw w base BL BF v (fs++[f]) A' c' (wy.setCell ⟨BL,0,none⟩ (.slice A' (fs.length+1) c')):=by
 have hD:∀ i,some i=(Value.slice A fs.length c).ownBlock->base<=i:=fun i hi=>(h.fl.own.lt i hi.symm).1
 have hlen:(fs++[f]).length=fs.length+1:=by simp
 have f1:Far (FD BL (.slice A fs.length c)) wx wy:=Far.of_grown hg fun i hi=>.inr hi.symm
 have f2:Far (fun i=>i=BL) wy (wy.setCell ⟨BL,0,none⟩ (.slice A' (fs.length+1) c')):=Far.set_ (D:=fun i=>i=BL) rfl 0 _
 have n1:¬ FD BL (.slice A fs.length c) BF:=by
  rintro (e | e)
  ·exact h.fl.ne e.symm
  have:=hD _ e.symm;have:=h.fl.ltF;omega
 refine ⟨⟨?_, ?_, ?_,h.fl.ltL,h.fl.ltF,h.fl.ne⟩, ?_, ?_⟩
 ·rw [hlen]
  exact (h.fl.l.grown hg (fun e=>by have:=hD _ e;have:=h.fl.ltL;omega)).set_ 0 _
 ·exact f2.whole (f1.whole h.fl.fn n1) (fun e=>h.fl.ne e.symm)
 ·rw [hlen,strs_append]
  exact f2.own hown fun g hg=>by have:=(hown.lt g hg).1;have:=h.fl.ltL;omega
 ·exact (h.far.trans f1 (FD.back h)).trans f2 fun i _ e=>.inl e
 rw [hlen]
 rcases hv with e | e
 ·rcases h.at_ with e2 | ⟨g,e2,hg⟩
  ·exact .inl (e.trans e2)
  exact .inr ⟨g,e.trans e2,hg⟩
 exact .inr ⟨_,e,h.far.size⟩
end
end
section
open Go.RowKit Qm
theorem callFuncF (args:Array Value) (W:World):(callFunc 153 args).run Tryz.prog W=.ok (.enter 153 args) W:=by kernel_rfl
theorem flagsC_any:∀ (y:Nd) (S:Nat->Prop) (x:List Value) (base BL BF:Nat) (fs:List Qm.W) (A:Option Addr) (c:Nat) (w:World),RNd w S x y->(∀ k,S k->k<BL)->Fl base BL BF fs A c w->base<=w.heap.size->fs.length+(flagsN y).length<=10000 ->
  Calls Tryz.prog 153 #[.agg x.toArray,.pointer (some ⟨BL,0,none⟩),.pointer (some ⟨BF,0,none⟩)] w (FlPost base BL BF fs (.slice A fs.length c) (flagsN y) w):=by
 refine Nd.ind fun k a f no ks ih=>?_
 intro S x base BL BF fs A c w hR hS hF hbase hcnt
 have HI:=qh ih;clear ih
 obtain ⟨B,n,cb,rfl,hnc,hc,h1,h2,h3,hK⟩:=hR.open_
 clear hR
 obtain ⟨i0,hi,hz0,hz1,hz2⟩:=info_parts string_info
 have Hi:=qh hi;have Hz0:=qh hz0;have Hz1:=qh hz1;have Hz2:=qh hz2
 clear hi hz0 hz1 hz2
 have HS:=qh hS;clear hS
 have HK:=qh hK;clear hK
 unfold maxLen at hc
 have hfn:flagsN (.mk k a f no ks)=(if k=5 then [f] else [])++flagsL ks:=rfl
 rw [hfn] at hcnt ⊢
 clear hfn
 obtain ⟨hd,hhd⟩:∃ hd,(if k=5 then [f] else [])=hd:=⟨_,rfl⟩
 rw [hhd] at hcnt ⊢
 have HHD:=qh hhd;clear hhd
 have hb0:Below w.heap.size w (w.alloc (.cells (ndRow k a f no B n cb).toArray 99)):=(qbr _ w).alloc (qr _) _
 have HW0:Hid (Fw w base BL BF (.slice A fs.length c) fs A c (w.alloc (.cells (ndRow k a f no B n cb).toArray 99))):=qh ⟨hF.below hb0,Far.of_below _ hb0,.inl rfl⟩
 have HOW:=qh (fun i (e:(Value.slice A fs.length c).ownBlock=some i)=>(hF.own.lt i e).1)
 have HX:=qh (Whole.new w _ 99 (ndRow k a f no B n cb) rfl)
 have hbl:=hF.l.lt
 have hbf:=hF.fn.lt
 have hLb:=hF.ltL
 have hFb:=hF.ltF
 obtain ⟨nm,op,ver,slot,fl,on⟩:=a
 clear hF hb0 h1 h2 h3
 unfold ndRow at HW0 HX ⊢
 have henter:=callFuncF
 have hl0:=HW0.out.fl.l.cell 0
 have hlf:=HW0.out.fl.l.free 0
 simp only [qgz] at hl0
 go_enter Tryz.func153,Tryz.ntmps153
 go_upto_if 8 with fail
 go_cut [] (fun wx=>∃ A5 c5,Fw w base BL BF (.slice A fs.length c) (fs++hd) A5 c5 wx/\Whole wx w.heap.size 99 [.int .i64 k,.string ⟨nm.toArray⟩,.int .i64 op,.int .i64 ver,.int .i64 slot,.string ⟨fl.toArray⟩,.bool on,.string ⟨f.toArray⟩,.bool no,.slice B n cb])
 case first =>
  by_cases hk:k=5
  ·subst hk
   obtain rfl:[f]=hd:=by have:=HHD.out;rwa [if_pos rfl] at this
   go_wp2_with (at_builtin;refine wpList_append_own_at _ rfl _ _ 96 rfl base 9 i0 (.string ⟨#[]⟩) 1 16 Tryz.underlying96 Hi.out Hz0.out Hz1.out Hz2.out rfl (by decide) _ _ _ rfl (HW0.out.fl.own.alloc _) ⟨w.heap.size+1,0,none⟩ 1 1 [.string ⟨f.toArray⟩] rfl rfl (new_cells _ _ [.string ⟨f.toArray⟩] 9 (by simp)) (by simp [Value.oneCell']) (by unfold maxLen;simp at hcnt;omega) (by simp at hcnt;omega) (by simp;omega) ?_)
   intro v' w8 hown8 hg8 _ hv8
   obtain ⟨A8,c8,hv',_,_,_⟩:=own_formK hown8
   subst hv'
   have hbl2:Below (w.alloc (.cells #[.int .i64 5,.string ⟨nm.toArray⟩,.int .i64 op,.int .i64 ver,.int .i64 slot,.string ⟨fl.toArray⟩,.bool on,.string ⟨f.toArray⟩,.bool no,.slice B n cb] 99)).heap.size (w.alloc (.cells #[.int .i64 5,.string ⟨nm.toArray⟩,.int .i64 op,.int .i64 ver,.int .i64 slot,.string ⟨fl.toArray⟩,.bool on,.string ⟨f.toArray⟩,.bool no,.slice B n cb] 99)) ((w.alloc (.cells #[.int .i64 5,.string ⟨nm.toArray⟩,.int .i64 op,.int .i64 ver,.int .i64 slot,.string ⟨fl.toArray⟩,.bool on,.string ⟨f.toArray⟩,.bool no,.slice B n cb] 99)).alloc (.cells #[.string ⟨f.toArray⟩] 9)):=(qbr _ _).alloc (qr _) _
   have HF8:=qh ((HW0.out.below hbl2).push hown8 hg8 (hv8.imp id fun e=>by rw [e];simp))
   have hX8:=(HX.out.below hbl2 HX.out.lt).grown hg8 (by
    intro e
    have:=own_ne (HW0.out.fl.own) HX.out (by decide)
    exact this e.symm)
   have HX8:=qh (hX8.far (p:=⟨BL,0,none⟩) (by show w.heap.size≠BL;omega) (.slice A8 (fs.length+1) c8))
   have hl8:=(HW0.out.below hbl2).fl.l.grown hg8 (by
    intro e
    have h1:=(HW0.out.fl.own.lt _ e.symm).1
    omega)
   have p0:=hl8.cell 0
   have pf:=hl8.free 0
   have hlt8:=hl8.lt
   simp only [qgz] at p0
   clear hown8 hg8 hv8 hbl2 hX8 hl8
   go_wp2_with fail
   go_meet
   case rel=>exact ⟨A8,c8,HF8.out,HX8.out⟩
  have hk1:(k == 5)=false:=by simpa using hk
  obtain rfl:[]=hd:=by have:=HHD.out;rwa [if_neg hk] at this
  clear hk
  go_wp2_with fail
  go_meet
  case rel=>exact ⟨A,c,by rw [List.append_nil];exact HW0.out,HX.out⟩
 case rest =>
  obtain ⟨A5,c5,hW,hX5⟩:=hcut
  clear hl0 hlf HW0 HX
  clear HHD
  have HW5:=qh hW
  have g9:=hX5.cell 9
  simp only [qgz,qgs] at g9
  have HBsz:=qh hbase
  clear hW
  have hltx:=hX5.lt
  clear hX5
  simp only [List.length_append] at hcnt
  go_wp2_with fail
  clear g9 hltx
  go_loopg [17] n (fun g iv wr=>∃ (j:Nat) (A6:Option Addr) (c6:Nat),Hid (j+g=n)/\iv=.int .i64 j/\Hid (Fw w base BL BF (.slice A fs.length c) (fs++(hd++flagsL (ks.take j))) A6 c6 wr))
  case atStart=>exact ⟨0,A5,c5,qh (Nat.zero_add _),rfl,qh (by simpa [flagsL] using HW5.out)⟩
  case round =>
   clear HW5
   obtain ⟨j,A6,c6,Hj,rfl,W6⟩:=hrel
   by_cases hj:j<n
   ·obtain ⟨b,o,x,y,rfl,hb,hy,hxy,hcell⟩:=(HK.out.keep fun p hp=>W6.out.far.cell (by have:=HS.out _ hp;omega) (by
     rintro (e | e)
     ·have:=HS.out _ hp;omega
     have h1:=HOW.out _ e;have:=HS.out _ hp;omega)).at_ hj
    have Hdr:=qh (take_snocN hy)
    have hmem:=List.mem_of_getElem? hy
    have hcn:fs.length+(hd.length+(flagsL (ks.take j)).length)+(flagsN y).length<=10000:=by
     have h1:=flagsL_take ks (j+1)
     rw [Hdr.out,flagsL_snoc,List.length_append] at h1
     omega
    have hcall:=fun wx=>HI.out y hmem S x base BL BF (fs++(hd++flagsL (ks.take j))) A6 c6 wx
    obtain ⟨yk,ya,yf,yn,yks⟩:=y
    obtain ⟨A',n',c',rfl,-⟩:=hxy.open_
    have k0:=hcell 0 (by omega);have k1:=hcell 1 (by omega);have k2:=hcell 2 (by omega);have k3:=hcell 3 (by omega);have k4:=hcell 4 (by omega);have k5:=hcell 5 (by omega);have k6:=hcell 6 (by omega);have k7:=hcell 7 (by omega);have k8:=hcell 8 (by omega);have k9:=hcell 9 (by omega)
    clear hcell hy
    have hbl2:Below wr.heap.size wr (wr.alloc (.cells (ndRow yk ya yf yn A' n' c').toArray 99)):=(qbr _ wr).alloc (qr _) _
    have hwsz:=W6.out.far.size
    have hcall2:=hcall _ (hxy.under hbl2 fun q hq=>by have:=HS.out q hq;omega) HS.out (W6.out.fl.below hbl2) (by have:=hbl2.size;omega) (by simp only [List.length_append];omega)
    have W7:=qh (W6.out.below hbl2)
    have Hcall:=qh hcall2
    clear hcall hcall2 hxy hbl2
    unfold ndRow at k0 k1 k2 k3 k4 k5 k6 k7 k8 k9 Hcall W7
    simp only [qgz,qgs,Nat.add_zero] at k0 k1 k2 k3 k4 k5 k6 k7 k8 k9
    have f0:=W6.out.fl.fn.cell 0
    simp only [qgz] at f0
    have hbfw:BF<wr.heap.size:=W6.out.fl.fn.lt
    generalize hq:flagsN (.mk yk ya yf yn yks)=q at Hcall
    have HQ:=qh hq;clear hq
    go_wp2_with fail
    refine Hcall.out.mono ?_
    rintro e w7 ⟨A7,c7,rfl,hfl7,hf7,ha7⟩
    have W8:=qh (W7.out.call hfl7 hf7 ha7)
    clear hfl7 hf7 ha7 W7 f0 k0 k1 k2 k3 k4 k5 k6 k7 k8 k9
    go_wp2_with fail
    go_roundg (gk - 1)
    case measure=>have:=Hj.out;omega
    case rel =>
     refine ⟨j+1,A7,c7,qh (by have:=Hj.out;omega),by go_num,qh ?_⟩
     have:fs++(hd++flagsL (ks.take (j+1)))=(fs++(hd++flagsL (ks.take j)))++q:=by
      rw [Hdr.out,flagsL_snoc,HQ.out];simp
     rw [this];exact W8.out
   obtain rfl:j=n:=by have:=Hj.out;omega
   go_wp2_with fail
   have hw:=W6.out
   rw [List.take_of_length_le (by have:=HK.out.len;omega)] at hw
   go_end0
   exact ⟨A6,c6,rfl,hw.fl,hw.far,hw.at_⟩
end
section
open Go.RowKit Go.Sort Qm
def sortW (fs:List Qm.W):List Qm.W:=fs.mergeSort fun x y=>decide (x<=y)
def flP (y:Nd):List Qm.W:=if ckNeed y=0 then Lib.compact (sortW (flagsN y)) else []
theorem strs_enc (fs:List Qm.W):strs fs=fs.map encStr:=rfl
theorem far_sorted {w:World} {g n:Nat} {os:Array Obj} (d:Array Qm.W):Far (fun i=>i=g) w (grow (putRow encStr (Sort.ahead w n) g 0 d) os):=by
 refine ⟨⟨rfl,rfl,rfl,by simp [grow,putRow,mapBlock,Sort.ahead],fun k hk=>absurd hk (by omega)⟩,fun i hi hn=>?_⟩
 rw [heap_grow_old _ _ (by simpa [putRow,mapBlock,Sort.ahead] using hi)]
 simp only [putRow,mapBlock,Sort.ahead,Array.getElem?_modify]
 rw [if_neg (fun e=>hn e.symm)]
theorem own_grow {w:World} {base:Nat} {e:TypeId} {size:Nat} {v:Value} {n:Nat} {xs:List Value} (os:Array Obj) (h:w.ownsRow base e size v n xs):(grow w os).ownsRow base e size v n xs:=
 own_below h ⟨rfl,rfl,rfl,by simp [grow],fun i hi=>heap_grow_old _ _ hi⟩
theorem grow_nil (w:World):grow w #[]=w:=by simp [grow]
def SortPost (base g n cap:Nat) (fs:List Qm.W) (w:World) (e:Ending) (w':World):Prop:=
 e=.returned (.tuple #[])/\w'.ownsRow base 9 1 (.slice (some ⟨g,0,none⟩) n cap) n (strs (sortW fs))/\Far (fun i=>i=g) w w'
theorem sortS_any (base g n cap:Nat) (fs:List Qm.W) (w:World) (hown:w.ownsRow base 9 1 (.slice (some ⟨g,0,none⟩) n cap) n (strs fs)) (hn:n<=100000) :
  Calls Tryz.prog 140 #[.slice (some ⟨g,0,none⟩) n cap] w (SortPost base g n cap fs w):=by
 have hl:fs.length=n:=by have:=hown.1;simpa [strs] using this
 rw [strs_enc] at hown
 obtain ⟨g',cap',hv,hb,hlt,hnc,hcm,_,hH⟩:=Lib.holds_of_ownsRow hown (by simp)
 injection hv with hv1 _ hv2
 injection hv1 with hv1
 injection hv1 with hv1
 subst hv1 hv2
 have h:=Tryz.slices_Sort_string g 0 cap fs w hH hlt (by omega)
 rw [hl] at h
 refine h.mono ?_
 rintro e w' ⟨rfl,k,os,rfl⟩
 refine ⟨rfl, ?_,far_sorted _⟩
 have hs:(sortW fs).length=n:=by unfold sortW;rw [List.length_mergeSort];exact hl
 have:=Lib.ownsRow_putRow (q:=k) (k:=n) (ys:=sortW fs) hown hs (qr _)
 rw [List.take_of_length_le (by omega),<- strs_enc] at this
 exact own_grow os this
def CompPost (base g cap:Nat) (fs:List Qm.W) (w:World) (e:Ending) (w':World):Prop:=
 e=.returned (.slice (some ⟨g,0,none⟩) (Lib.compact fs).length cap)/\w'.ownsRow base 9 1 (.slice (some ⟨g,0,none⟩) (Lib.compact fs).length cap) (Lib.compact fs).length (strs (Lib.compact fs))/\Far (fun i=>i=g) w w'
theorem compact_le (fs:List Qm.W):(Lib.compact fs).length<=fs.length:=by
 have h:∀ (d:Array Qm.W) (m:Nat),(Lib.compactUpTo d m).length<=m:=by
  intro d m
  induction m with
  | zero=>simp [Lib.compactUpTo]
  | succ m ih =>
   rw [Lib.compactUpTo_succ,List.length_append]
   split <;> simp <;> omega
 exact h _ _
theorem compS_any (base g n cap:Nat) (fs:List Qm.W) (w:World) (hown:w.ownsRow base 9 1 (.slice (some ⟨g,0,none⟩) n cap) n (strs fs)) (hn:n<=100000) :
  Calls Tryz.prog 154 #[.slice (some ⟨g,0,none⟩) n cap] w (CompPost base g cap fs w):=by
 have hl:fs.length=n:=by have:=hown.1;simpa [strs] using this
 rw [strs_enc] at hown
 obtain ⟨g',cap',hv,hb,hlt,hnc,hcm,_,hH⟩:=Lib.holds_of_ownsRow hown (by simp)
 injection hv with hv1 _ hv2
 injection hv1 with hv1
 injection hv1 with hv1
 subst hv1 hv2
 have h:=Tryz.slices_Compact_string g 0 cap fs w hH (by omega) (by omega)
 rw [hl] at h
 refine h.mono ?_
 rintro e w' ⟨rfl,q,rfl⟩
 have hcl:=compact_le fs
 refine ⟨rfl, ?_, ?_⟩
 ·have:=Lib.ownsRow_putRow (q:=q) (k:=(Lib.compact fs).length) (ys:=Lib.compact fs++List.replicate (n - (Lib.compact fs).length) []) hown (by simp;omega) (by omega)
  rw [List.take_left' rfl,<- strs_enc] at this
  exact this
 have:=far_sorted (w:=w) (g:=g) (n:=q) (os:=#[]) (Lib.compact fs++List.replicate (n - (Lib.compact fs).length) []).toArray
 rw [grow_nil] at this
 exact this
def FlagsPost (w:World) (y:Nd) (e:Ending) (w':World):Prop:=
 ∃ A c,e=.returned (.tuple #[.slice A (flP y).length c,.int .i64 (ckNeed y)])/\Row w' (fun i=>w.heap.size<=i/\i<w'.heap.size) A (flP y).length (strs (flP y))/\(flP y).length<=c/\c<=maxLen/\Below w.heap.size w w'
theorem nflags_any (y:Nd) (S:Nat->Prop) (x:List Value) (w:World) (hR:RNd w S x y) (hS:∀ k,S k->k<w.heap.size) :
  Calls Tryz.prog 130 #[.agg x.toArray] w (FlagsPost w y):=by
 have hck:=fun wx h1 h2=>nCheck_any y S x wx h1 h2
 have hfc:=fun base BL BF wx h1 h2 h3 h4=>flagsC_any y S x base BL BF [] none 0 wx h1 h2 h3 h4
 have HN:=qh (fun h=>(ckNeed_zero (n:=y) h).2.1)
 have HFN:=qh (flagsN_le y)
 have HFP:Hid (flP y=if ckNeed y=0 then Lib.compact (sortW (flagsN y)) else []):=qh rfl
 unfold FlagsPost
 generalize flP y=R at HFP ⊢
 generalize hq:ckNeed y=q at HFP hck ⊢
 have HQ:=qh hq;clear hq
 generalize flagsN y=fs at HFP hfc HFN
 obtain ⟨k,a,f,no,ks⟩:=y
 obtain ⟨A,n,c,rfl,-⟩:=hR.open_
 have hb:=(qbr _ w).alloc (qr _) (.cells (ndRow k a f no A n c).toArray 99)
 have HB:=qh hb
 have HW:=qh (Whole.new w _ 99 (ndRow k a f no A n c) rfl)
 have HR:=qh (hR.under HB.out hS)
 have HS:=qh hS
 clear hR hS hb
 obtain ⟨nm,op,ver,slot,fl,on⟩:=a
 unfold ndRow at HB HW HR hck hfc ⊢
 have Hck:=qh hck;have Hfc:=qh hfc;clear hck hfc
 by_cases h0:q=0
 ·subst h0
  have HRE:Hid (R=Lib.compact (sortW fs)):=qh (by rw [HFP.out,if_pos rfl])
  have hfl:fs.length<=20:=by have h1:=HN.out HQ.out;have h2:=HFN.out;omega
  have henter:=callFuncF
  go_enter Tryz.func130,Tryz.ntmps130
  go_wp2_with (first | (go_at_call 129;refine (Hck.out _ HR.out (fun k hk=>ql (HS.out k hk) HB.out.size)).mono ?_;rintro e w1 ⟨rfl,hb1⟩;refine Hid.out ?_))
  refine qh ?_
  have HB1:=qh (HB.out.trans (hb1.mono HB.out.size))
  have HR1:=qh (HR.out.under hb1 fun k hk=>ql (HS.out k hk) HB.out.size)
  have HW1:=qh (HW.out.below hb1 HW.out.lt);clear hb1
  obtain ⟨g0,g1,g2,g3,g4,g5,g6,g7,g8,g9⟩:=ch10 HW1.out.cell
  simp only [qgz,qgs] at g0 g1 g2 g3 g4 g5 g6 g7 g8 g9
  have hlt:=HW1.out.lt
  go_wp2_with fail
  have hfl0:Fl (w1.heap.size+2) w1.heap.size (w1.heap.size+1) [] none 0 ((w1.alloc (.cells #[.slice none 0 0] 96)).alloc (.cells #[.func (.func 153) #[] #[.pointer (some ⟨w1.heap.size,0,none⟩),.pointer (some ⟨w1.heap.size+1,0,none⟩)]] 170)):=
   ⟨(Whole.new w1 _ _ [.slice none 0 0] rfl).alloc _,Whole.new (w1.alloc (.cells #[.slice none 0 0] 96)) (w1.heap.size+1) _ [_] (by simp),World.ownsRow_nil _ _ _ _,by omega,by omega,by omega⟩
  have hbl:Below w1.heap.size w1 ((w1.alloc (.cells #[.slice none 0 0] 96)).alloc (.cells #[.func (.func 153) #[] #[.pointer (some ⟨w1.heap.size,0,none⟩),.pointer (some ⟨w1.heap.size+1,0,none⟩)]] 170)):=((qbr _ _).alloc (qr _) _).alloc (by simp) _
  have hR2:=HR1.out.under hbl fun q hq=>ql (HS.out q hq) HB1.out.size
  have HB2:=qh (HB1.out.trans (hbl.mono HB1.out.size))
  refine (Hfc.out (w1.heap.size+2) _ _ _ hR2 (fun q hq=>ql (HS.out q hq) HB1.out.size) hfl0 (by simp) (by simp;omega)).mono ?_
  rintro e w4 ⟨A',c',rfl,hfl4,hf4,ha4⟩
  clear hfl0 hbl hR2
  simp only [List.nil_append] at hfl4
  have hbase:=HB1.out.size
  have hB4:Below w.heap.size w w4:=⟨hf4.base.os.trans HB2.out.os,hf4.base.tape.trans HB2.out.tape,hf4.base.output.trans HB2.out.output,qlt HB2.out.size hf4.size,fun i hi=>(hf4.block i (ql hi HB2.out.size) (by
   rintro (e | e)
   ·omega
   simp [Value.ownBlock] at e)).trans (HB2.out.block i hi)⟩
  have HB4:=qh hB4
  have HF4:=qh hfl4
  clear hf4 ha4 hB4 hfl4 g0 g1 g2 g3 g4 g5 g6 g7 g8 g9
  have l0:=HF4.out.l.cell 0
  have l1:=HF4.out.l.lt
  simp only [qgz] at l0
  clear henter
  rcases HF4.out.own.2 with ⟨hv,hn0⟩ | ⟨g,cap,cur,hv,hg1,hg2,hg3⟩
  ·injection hv with e1 e2 e3
   subst e1 e3
   obtain rfl:fs=[]:=List.eq_nil_of_length_eq_zero e2
   obtain rfl:R=[]:=by rw [HRE.out];unfold sortW;simp [Lib.compact,Lib.compactUpTo]
   simp only [List.length_nil] at l0
   clear hn0 e2
   have hs1:=Tryz.slices_Sort_string_none none 0 w4
   have hs2:=Tryz.slices_Compact_string_empty none 0 w4
   go_wp2_with (first
    | (go_at_call 140;refine hs1.mono ?_;rintro e w5 ⟨rfl,rfl⟩)
    | (go_at_call 154;refine hs2.mono ?_;rintro e w6 ⟨rfl,rfl⟩))
   go_ret2
   exact ⟨none,0,rfl,Row.nil_,qr _,Nat.zero_le _,HB4.out⟩
  injection hv with e1 e2 e3
  subst e1 e3
  clear hg2 hg3
  have hso:=sortS_any (w1.heap.size+2) g fs.length c' fs w4 HF4.out.own (by omega)
  have Hso:=qh hso;clear hso
  have hne:w1.heap.size≠g:=by omega
  go_wp2_with (first | (go_at_call 140;refine Hso.out.mono ?_;rintro e w5 ⟨rfl,hown5,hf5⟩;refine Hid.out ?_))
  refine qh ?_
  have HB5:=qh (far_ownB HB4.out hf5 (by omega))
  have hl5:=hf5.whole HF4.out.l (fun e=>hne e)
  have HO5:=qh hown5
  clear l0 l1
  have l0:=hl5.cell 0
  have l1:=hl5.lt
  simp only [qgz] at l0
  clear hown5 hf5 hl5
  have hsl:(sortW fs).length=fs.length:=by unfold sortW;rw [List.length_mergeSort]
  have hco:=compS_any (w1.heap.size+2) g fs.length c' (sortW fs) w5 HO5.out (by omega)
  have HCL:=qh (compact_le (sortW fs))
  rw [hsl] at HCL
  unfold CompPost at hco
  rw [<- HRE.out] at hco HCL
  have Hco:=qh hco;clear hco hsl
  go_wp2_with (first | (go_at_call 154;refine Hco.out.mono ?_;rintro e w6 ⟨rfl,hown6,hf6⟩;refine Hid.out ?_))
  refine qh ?_
  have HB6:=qh (far_ownB HB5.out hf6 (by omega))
  have HO6:=qh hown6
  clear hown6 hf6
  go_wp2
  go_ret2
  obtain ⟨_,_,he,h1,h2,_⟩:=own_form HO6.out
  injection he with _ _ he
  exact ⟨some ⟨g,0,none⟩,c',rfl,(own_row HO6.out).more fun i hi=>by omega,by omega,by omega,HB6.out⟩
 have h1:(q != 0)=true:=by simpa using h0
 obtain rfl:R=[]:=by rw [HFP.out,if_neg h0]
 clear h0
 go_enter Tryz.func130,Tryz.ntmps130
 go_wp2_with (first | (go_at_call 129;refine (Hck.out _ HR.out (fun k hk=>ql (HS.out k hk) HB.out.size)).mono ?_;rintro e w1 ⟨rfl,hb1⟩;refine Hid.out ?_))
 refine qh ?_
 have HB1:=qh (HB.out.trans (hb1.mono HB.out.size));clear hb1
 go_wp2
 go_ret2
 exact ⟨none,0,rfl,Row.nil_,qr _,Nat.zero_le _,HB1.out⟩
end
section
open Go.RowKit Qm
structure Pb (w:World) (b:Nat) (vs:List Value) (wr:World):Prop where
 below:Below w.heap.size w wr
 whole:Whole wr b 101 vs
theorem Pb.move {w:World} {b:Nat} {vs:List Value} {w1 w2:World} (h:Pb w b vs w1) (hb:Below w1.heap.size w1 w2):Pb w b vs w2:=⟨h.below.trans (hb.mono h.below.size),h.whole.below hb h.whole.lt⟩
theorem Pb.new (w:World) (vs:List Value):Pb w w.heap.size vs (w.alloc (.cells vs.toArray 101)):=⟨(qbr _ w).alloc (qr _) _,Whole.new w _ _ vs rfl⟩
theorem flP_all {y:Nd} (h:ckNeed y=0) (p:Qm.W->Bool):(flP y).all p=(flagsN y).all p:=by
 unfold flP
 rw [if_pos h]
 refine all_mem p fun x=>?_
 rw [mem_compact]
 unfold sortW
 exact (List.mergeSort_perm _ _).mem_iff
theorem all_step {l:List Qm.W} {p:Qm.W->Bool} {j:Nat} {x:Qm.W} (h:l[j]? = some x):(l.drop j).all p=(p x && (l.drop (j+1)).all p):=by
 obtain ⟨hj,rfl⟩:=List.getElem?_eq_some_iff.1 h
 rw [List.drop_eq_getElem_cons hj];rfl
theorem all_done {l:List Qm.W} {p:Qm.W->Bool} {j:Nat} (h:l.length<=j):(l.drop j).all p=true:=by rw [List.drop_eq_nil_of_le h];rfl
theorem tcheck_any (p:Pk) (S:Nat->Prop) (x:List Value) (w:World) (hR:RPk w S x p) (hS:∀ k,S k->k<w.heap.size) :
  Calls Tryz.prog 110 #[.agg x.toArray] w fun e w'=>e=.returned (.int .i64 (ckPk p))/\Below w.heap.size w w':=by
 obtain ⟨A,n,c,y,rfl,hP⟩:=hR
 rcases p with ⟨nm,ver,slot,fs,⟨k,a,f,no,ks⟩⟩
 obtain ⟨D,q,d,rfl,-⟩:=RNd.open_ hP.nd
 have HK:Hid (ckPk ⟨nm,ver,slot,fs,.mk k a f no ks⟩=if isName nm=false then 1 else if ver<1\/99<ver\/slot<1\/9<slot then 3 else if 2<fs.length then 2 else if ckFlags none fs≠0 then ckFlags none fs
  else if k≠3 then 4 else if ckNeed (.mk k a f no ks)≠0 then ckNeed (.mk k a f no ks) else if (flagsN (.mk k a f no ks)).all (fun f=>fs.contains f)=true then 0 else 5):=qh rfl
 generalize ckPk _=R at HK ⊢
 have hfl:=fun W h1 h2=>nflags_any (.mk k a f no ks) S (ndRow k a f no D q d) W h1 h2
 unfold FlagsPost at hfl
 have HA:=qh (fun h p=>flP_all (y:=.mk k a f no ks) h p)
 have HND:=qh hP.nd
 generalize flP (.mk k a f no ks)=fl at hfl HA
 generalize flagsN (.mk k a f no ks)=fn at HA HK
 generalize ckNeed (.mk k a f no ks)=z at hfl HK HA
 have hln:fs.length=n:=hP.fs.len
 have P0:=qh (Pb.new w (pkRow ⟨nm,ver,slot,fs,.mk k a f no ks⟩ A n c (ndRow k a f no D q d)))
 have hna:=fun wx=>name_any ⟨nm.toArray⟩ wx (by rw [bsz];exact hP.nm)
 have HFS:=qh hP.fs
 have hcap:=hP.cap
 have hmax:=hP.max
 unfold maxLen at hmax
 have HS:=qh hS;clear hP hS
 unfold pkRow at P0 ⊢
 unfold ndRow at P0 hfl HND ⊢
 dsimp only at P0 HFS HND ⊢
 have Hfl:=qh hfl;clear hfl
 have Hna:Hid (∀ wx,Calls Tryz.prog 104 #[.string ⟨nm.toArray⟩] wx fun e w'=>e=.returned (.bool (isName nm))/\Below wx.heap.size wx w'):=qh hna
 clear hna
 cases hn:isName nm
 ·rw [hn] at Hna
  go_enter Tryz.func110,Tryz.ntmps110
  go_wp2_with (first | (go_at_call 104;refine (Hna.out _).mono ?_;rintro e w1 ⟨rfl,hb1⟩;refine Hid.out ?_))
  refine qh ?_
  have P1:=qh (P0.out.move hb1)
  clear hb1
  obtain ⟨d0,d1,d2,d3,d4,d5,d6,d7,d8,d9,d10,d11,d12,d13⟩:=ch14 P1.out.whole.cell
  simp only [qgz,qgs] at d0 d1 d2 d3 d4 d5 d6 d7 d8 d9 d10 d11 d12 d13
  have hlt:=P1.out.whole.lt
  go_wp2
  go_ret
  exact ⟨ret_int (by rw [HK.out,if_pos hn]),P1.out.below⟩
 rw [hn] at Hna
 by_cases v1:ver<1
 ·
  go_enter Tryz.func110,Tryz.ntmps110
  go_wp2_with (first | (go_at_call 104;refine (Hna.out _).mono ?_;rintro e w1 ⟨rfl,hb1⟩;refine Hid.out ?_))
  refine qh ?_
  have P1:=qh (P0.out.move hb1)
  clear hb1
  obtain ⟨d0,d1,d2,d3,d4,d5,d6,d7,d8,d9,d10,d11,d12,d13⟩:=ch14 P1.out.whole.cell
  simp only [qgz,qgs] at d0 d1 d2 d3 d4 d5 d6 d7 d8 d9 d10 d11 d12 d13
  have hlt:=P1.out.whole.lt
  go_wp2
  go_ret
  exact ⟨ret_int (by rw [HK.out,if_neg (by simp [hn]),if_pos (by omega)]),P1.out.below⟩
 have v1':decide (ver<1)=false:=by simpa using v1
 by_cases v2:99<ver
 ·
  go_enter Tryz.func110,Tryz.ntmps110
  go_wp2_with (first | (go_at_call 104;refine (Hna.out _).mono ?_;rintro e w1 ⟨rfl,hb1⟩;refine Hid.out ?_))
  refine qh ?_
  have P1:=qh (P0.out.move hb1)
  clear hb1
  obtain ⟨d0,d1,d2,d3,d4,d5,d6,d7,d8,d9,d10,d11,d12,d13⟩:=ch14 P1.out.whole.cell
  simp only [qgz,qgs] at d0 d1 d2 d3 d4 d5 d6 d7 d8 d9 d10 d11 d12 d13
  have hlt:=P1.out.whole.lt
  go_wp2
  go_ret
  exact ⟨ret_int (by rw [HK.out,if_neg (by simp [hn]),if_pos (by omega)]),P1.out.below⟩
 have v2':decide (99<ver)=false:=by simpa using v2
 by_cases s1:slot<1
 ·
  go_enter Tryz.func110,Tryz.ntmps110
  go_wp2_with (first | (go_at_call 104;refine (Hna.out _).mono ?_;rintro e w1 ⟨rfl,hb1⟩;refine Hid.out ?_))
  refine qh ?_
  have P1:=qh (P0.out.move hb1)
  clear hb1
  obtain ⟨d0,d1,d2,d3,d4,d5,d6,d7,d8,d9,d10,d11,d12,d13⟩:=ch14 P1.out.whole.cell
  simp only [qgz,qgs] at d0 d1 d2 d3 d4 d5 d6 d7 d8 d9 d10 d11 d12 d13
  have hlt:=P1.out.whole.lt
  go_wp2
  go_ret
  exact ⟨ret_int (by rw [HK.out,if_neg (by simp [hn]),if_pos (by omega)]),P1.out.below⟩
 have s1':decide (slot<1)=false:=by simpa using s1
 by_cases s2:9<slot
 ·
  go_enter Tryz.func110,Tryz.ntmps110
  go_wp2_with (first | (go_at_call 104;refine (Hna.out _).mono ?_;rintro e w1 ⟨rfl,hb1⟩;refine Hid.out ?_))
  refine qh ?_
  have P1:=qh (P0.out.move hb1)
  clear hb1
  obtain ⟨d0,d1,d2,d3,d4,d5,d6,d7,d8,d9,d10,d11,d12,d13⟩:=ch14 P1.out.whole.cell
  simp only [qgz,qgs] at d0 d1 d2 d3 d4 d5 d6 d7 d8 d9 d10 d11 d12 d13
  have hlt:=P1.out.whole.lt
  go_wp2
  go_ret
  exact ⟨ret_int (by rw [HK.out,if_neg (by simp [hn]),if_pos (by omega)]),P1.out.below⟩
 have s2':decide (9<slot)=false:=by simpa using s2
 have HK1:Hid (R=if 2<fs.length then 2 else if ckFlags none fs≠0 then ckFlags none fs
  else if k≠3 then 4 else if z≠0 then z else if fn.all (fun f=>fs.contains f)=true then 0 else 5):=qh (by rw [HK.out,if_neg (by simp [hn]),if_neg (by omega)])
 clear HK
 by_cases n2:(2:Int)<n
 ·
  go_enter Tryz.func110,Tryz.ntmps110
  go_wp2_with (first | (go_at_call 104;refine (Hna.out _).mono ?_;rintro e w1 ⟨rfl,hb1⟩;refine Hid.out ?_))
  refine qh ?_
  have P1:=qh (P0.out.move hb1)
  clear hb1
  obtain ⟨d0,d1,d2,d3,d4,d5,d6,d7,d8,d9,d10,d11,d12,d13⟩:=ch14 P1.out.whole.cell
  simp only [qgz,qgs] at d0 d1 d2 d3 d4 d5 d6 d7 d8 d9 d10 d11 d12 d13
  have hlt:=P1.out.whole.lt
  go_wp2
  go_ret
  exact ⟨ret_int (by rw [HK1.out,if_pos (by omega)]),P1.out.below⟩
 have n2':decide ((2:Int)<n)=false:=qdf n2
 have HK2:Hid (R=if ckFlags none fs≠0 then ckFlags none fs else if k≠3 then 4 else if z≠0 then z else if fn.all (fun f=>fs.contains f)=true then 0 else 5):=qh (by rw [HK1.out,if_neg (by omega)])
 clear HK1
 go_enter Tryz.func110,Tryz.ntmps110
 go_wp2_with (first | (go_at_call 104;refine (Hna.out _).mono ?_;rintro e w1 ⟨rfl,hb1⟩;refine Hid.out ?_))
 refine qh ?_
 have P1:=qh (P0.out.move hb1)
 clear hb1
 obtain ⟨d0,d1,d2,d3,d4,d5,d6,d7,d8,d9,d10,d11,d12,d13⟩:=ch14 P1.out.whole.cell
 simp only [qgz,qgs] at d0 d1 d2 d3 d4 d5 d6 d7 d8 d9 d10 d11 d12 d13
 have hlt:=P1.out.whole.lt
 go_wp2
 clear d0 d1 d2 d3 d4 d5 d6 d7 d8 d9 d10 d11 d12 d13 hlt
 clear v1 v2 s1 s2 v1' v2' s1' s2' n2' hn Hna
 go_loopg [38] n (fun g iv wr=>∃ (j:Nat),Hid (j+g=n)/\iv=.int .i64 j/\Hid (ckFlags none fs=ckFlags (prevOf fs j) (fs.drop j))/\Hid (Pb w w.heap.size [.string ⟨nm.toArray⟩,.int .i64 ver,.int .i64 slot,.slice A n c,.int .i64 k,.string ⟨a.nm.toArray⟩,.int .i64 a.op,.int .i64 a.ver,.int .i64 a.slot,.string ⟨a.fl.toArray⟩,.bool a.on,.string ⟨f.toArray⟩,.bool no,.slice D q d] wr))
 case atStart=>exact ⟨0,qh (Nat.zero_add _),rfl,qh rfl,P1⟩
 case round =>
  obtain ⟨j,Hj,rfl,Hcl,PR⟩:=hrel
  clear P1
  by_cases hj:j<n
  ·obtain ⟨b,o,g,rfl,hbS,hg,hgl,hcell⟩:=(HFS.out.under PR.out.below HS.out).at_ hj
   have hlb:b<wr.heap.size:=ql (HS.out _ hbS) PR.out.below.size
   have Hst:=qh (ckFlags_step hg)
   have Hnm:Hid (∀ wx,Calls Tryz.prog 104 #[.string ⟨g.toArray⟩] wx fun e w'=>e=.returned (.bool (isName g))/\Below wx.heap.size wx w'):=qh (fun wx=>name_any ⟨g.toArray⟩ wx (by rw [bsz];exact hgl))
   clear hgl
   cases hq:isName g
   ·rw [hq] at Hnm
    clear hg
    obtain ⟨d0,d1,d2,d3,d4,d5,d6,d7,d8,d9,d10,d11,d12,d13⟩:=ch14 PR.out.whole.cell
    simp only [qgz,qgs] at d0 d1 d2 d3 d4 d5 d6 d7 d8 d9 d10 d11 d12 d13
    have hlt:=PR.out.whole.lt
    go_wp2_with (first | (go_at_call 104;refine (Hnm.out _).mono ?_;rintro e w2 ⟨rfl,hb2⟩;refine Hid.out ?_))
    refine qh ?_
    clear d0 d1 d2 d3 d4 d5 d6 d7 d8 d9 d10 d11 d12 d13 hlt
    have P2:=qh (PR.out.move hb2)
    replace hcell:=(hb2.cell (p:=⟨b,_,none⟩) hlb).trans hcell
    clear hb2
    obtain ⟨d0,d1,d2,d3,d4,d5,d6,d7,d8,d9,d10,d11,d12,d13⟩:=ch14 P2.out.whole.cell
    simp only [qgz,qgs] at d0 d1 d2 d3 d4 d5 d6 d7 d8 d9 d10 d11 d12 d13
    have hlt:=P2.out.whole.lt
    go_wp2
    go_ret
    exact ⟨ret_int (by rw [HK2.out,Hcl.out,Hst.out,if_pos hq];rfl),P2.out.below⟩
   rw [hq] at Hnm
   rcases j with _ | i
   ·clear hg
    rw [Nat.add_zero] at hcell
    obtain ⟨d0,d1,d2,d3,d4,d5,d6,d7,d8,d9,d10,d11,d12,d13⟩:=ch14 PR.out.whole.cell
    simp only [qgz,qgs] at d0 d1 d2 d3 d4 d5 d6 d7 d8 d9 d10 d11 d12 d13
    have hlt:=PR.out.whole.lt
    go_wp2_with (first | (go_at_call 104;refine (Hnm.out _).mono ?_;rintro e w2 ⟨rfl,hb2⟩;refine Hid.out ?_))
    refine qh ?_
    clear d0 d1 d2 d3 d4 d5 d6 d7 d8 d9 d10 d11 d12 d13 hlt
    have P2:=qh (PR.out.move hb2)
    replace hcell:=(hb2.cell (p:=⟨b,_,none⟩) hlb).trans hcell
    clear hb2
    obtain ⟨d0,d1,d2,d3,d4,d5,d6,d7,d8,d9,d10,d11,d12,d13⟩:=ch14 P2.out.whole.cell
    simp only [qgz,qgs] at d0 d1 d2 d3 d4 d5 d6 d7 d8 d9 d10 d11 d12 d13
    have hlt:=P2.out.whole.lt
    go_wp2
    go_roundg (gk - 1)
    case measure=>have:=Hj.out;omega
    case rel=>exact ⟨1,qh (by have:=Hj.out;omega),by go_num,qh (by rw [Hcl.out,Hst.out,if_neg (by simp [hq])];rfl),P2⟩
   obtain ⟨b',o',u,eA,_,hu,_,hucell⟩:=(HFS.out.under PR.out.below HS.out).at_ (j:=i) (by omega)
   injection eA with eA;injection eA with e1 e2;subst e1 e2
   have hpr:prevOf fs (i+1)=some u:=prevOf_succ hu
   have Hpr:=qh hpr
   have hbl:=bytesLess_eq u g
   clear hg hu hpr
   by_cases hug:u<g
   ·rw [qdt hug] at hbl
    have Hug:Hid (badNext (some u) g=false):=qh (qdf (List.not_le.2 hug))
    clear hug
    obtain ⟨d0,d1,d2,d3,d4,d5,d6,d7,d8,d9,d10,d11,d12,d13⟩:=ch14 PR.out.whole.cell
    simp only [qgz,qgs] at d0 d1 d2 d3 d4 d5 d6 d7 d8 d9 d10 d11 d12 d13
    have hlt:=PR.out.whole.lt
    go_wp2_with (first | (go_at_call 104;refine (Hnm.out _).mono ?_;rintro e w2 ⟨rfl,hb2⟩;refine Hid.out ?_))
    refine qh ?_
    clear d0 d1 d2 d3 d4 d5 d6 d7 d8 d9 d10 d11 d12 d13 hlt
    have P2:=qh (PR.out.move hb2)
    replace hcell:=(hb2.cell (p:=⟨b,_,none⟩) hlb).trans hcell
    replace hucell:=(hb2.cell (p:=⟨b,_,none⟩) hlb).trans hucell
    clear hb2
    obtain ⟨d0,d1,d2,d3,d4,d5,d6,d7,d8,d9,d10,d11,d12,d13⟩:=ch14 P2.out.whole.cell
    simp only [qgz,qgs] at d0 d1 d2 d3 d4 d5 d6 d7 d8 d9 d10 d11 d12 d13
    have hlt:=P2.out.whole.lt
    go_wp2
    go_roundg (gk - 1)
    case measure=>have:=Hj.out;omega
    case rel=>exact ⟨i+1+1,qh (by have:=Hj.out;omega),by go_num,qh (by rw [Hcl.out,Hst.out,if_neg (by simp [hq]),Hpr.out,if_neg (by rw [Hug.out];simp)]),P2⟩
   rw [qdf hug] at hbl
   have Hug:Hid (badNext (some u) g=true):=qh (qdt (List.not_lt.1 hug))
   clear hug
   obtain ⟨d0,d1,d2,d3,d4,d5,d6,d7,d8,d9,d10,d11,d12,d13⟩:=ch14 PR.out.whole.cell
   simp only [qgz,qgs] at d0 d1 d2 d3 d4 d5 d6 d7 d8 d9 d10 d11 d12 d13
   have hlt:=PR.out.whole.lt
   go_wp2_with (first | (go_at_call 104;refine (Hnm.out _).mono ?_;rintro e w2 ⟨rfl,hb2⟩;refine Hid.out ?_))
   refine qh ?_
   clear d0 d1 d2 d3 d4 d5 d6 d7 d8 d9 d10 d11 d12 d13 hlt
   have P2:=qh (PR.out.move hb2)
   replace hcell:=(hb2.cell (p:=⟨b,_,none⟩) hlb).trans hcell
   replace hucell:=(hb2.cell (p:=⟨b,_,none⟩) hlb).trans hucell
   clear hb2
   obtain ⟨d0,d1,d2,d3,d4,d5,d6,d7,d8,d9,d10,d11,d12,d13⟩:=ch14 P2.out.whole.cell
   simp only [qgz,qgs] at d0 d1 d2 d3 d4 d5 d6 d7 d8 d9 d10 d11 d12 d13
   have hlt:=P2.out.whole.lt
   go_wp2
   go_ret
   have e6:ckFlags none fs=6:=by rw [Hcl.out,Hst.out,if_neg (by simp [hq]),Hpr.out,if_pos Hug.out]
   exact ⟨ret_int (by rw [HK2.out,e6];rfl),P2.out.below⟩
  obtain rfl:n=j:=by have:=Hj.out;omega
  have HK3:Hid (R=if k≠3 then 4 else if z≠0 then z else if fn.all (fun f=>fs.contains f)=true then 0 else 5):=qh (by rw [HK2.out,if_neg (by rw [Hcl.out,ckFlags_done (by omega)];simp)])
  clear HK2 Hcl
  obtain ⟨d0,d1,d2,d3,d4,d5,d6,d7,d8,d9,d10,d11,d12,d13⟩:=ch14 PR.out.whole.cell
  simp only [qgz,qgs] at d0 d1 d2 d3 d4 d5 d6 d7 d8 d9 d10 d11 d12 d13
  have hlt:=PR.out.whole.lt
  by_cases k3:k=3
  ·subst k3
   have HK4:Hid (R=if z≠0 then z else if fn.all (fun f=>fs.contains f)=true then 0 else 5):=qh (by rw [HK3.out,if_neg (by simp)])
   clear HK3
   go_wp2_with (first | (go_at_call 130;refine (Hfl.out _ (HND.out.under PR.out.below HS.out) (fun k hk=>ql (HS.out k hk) PR.out.below.size)).mono ?_;rintro e w3 ⟨Af,cf,rfl,hrf,hf1,hf2,hb3⟩;refine Hid.out ?_))
   refine qh ?_
   clear d0 d1 d2 d3 d4 d5 d6 d7 d8 d9 d10 d11 d12 d13 hlt
   have P3:=qh (PR.out.move hb3)
   clear hb3 PR Hfl
   by_cases z0:z=0
   ·subst z0
    have HK5:Hid (R=if fl.all (fun f=>fs.contains f)=true then 0 else 5):=qh (by rw [HK4.out,if_neg (by simp),HA.out rfl])
    clear HK4 HA
    have HRF:=qh hrf;clear hrf
    have hfll:fl.length<=maxLen:=qlt hf1 hf2
    unfold maxLen at hfll
    go_wp2
    go_loopg [74] fl.length (fun g iv wr=>∃ (j:Nat),Hid (j+g=fl.length)/\iv=.int .i64 j/\Hid (fl.all (fun f=>fs.contains f)=(fl.drop j).all (fun f=>fs.contains f))/\Hid (Below w3.heap.size w3 wr))
    case atStart=>exact ⟨0,qh (Nat.zero_add _),rfl,qh rfl,qh (qbr _ _)⟩
    case round =>
     obtain ⟨j,Hj,rfl,Hcl,HBr⟩:=hrel
     have P4:=qh (P3.out.move HBr.out)
     clear P3
     by_cases hj:j<fl.length
     ·obtain ⟨b,o,rfl,hbS,hcell⟩:=(HRF.out.below HBr.out fun q hq=>hq.2).at_ hj
      have hlb:b<wr.heap.size:=ql hbS.2 HBr.out.size
      have hgj:fl[j]? = some (fl[j]'hj):=qge hj
      generalize fl[j]'hj=g at hgj
      rw [strs,qgm,hgj] at hcell
      dsimp only [Option.map_some] at hcell
      have Hst:=qh (all_step (p:=fun f=>fs.contains f) hgj)
      have Hco:=qh (fun wx h=>containsS_any A n c fs g wx S h (by unfold maxLen;omega))
      have HRW:=qh (HFS.out.under P4.out.below HS.out).row
      clear hgj
      cases hq:fs.contains g
      ·rw [hq] at Hco
       obtain ⟨d0,d1,d2,d3,d4,d5,d6,d7,d8,d9,d10,d11,d12,d13⟩:=ch14 P4.out.whole.cell
       simp only [qgz,qgs] at d0 d1 d2 d3 d4 d5 d6 d7 d8 d9 d10 d11 d12 d13
       have hlt:=P4.out.whole.lt
       go_wp2_with (first | (go_at_call 92;refine (Hco.out _ HRW.out).mono ?_;rintro e w5 ⟨rfl,rfl⟩;refine Hid.out ?_))
       refine qh ?_
       go_wp2
       go_ret
       exact ⟨ret_int (by rw [HK5.out,if_neg (by rw [Hcl.out,Hst.out];simp only [hq,Bool.false_and];decide)]),P4.out.below⟩
      rw [hq] at Hco
      obtain ⟨d0,d1,d2,d3,d4,d5,d6,d7,d8,d9,d10,d11,d12,d13⟩:=ch14 P4.out.whole.cell
      simp only [qgz,qgs] at d0 d1 d2 d3 d4 d5 d6 d7 d8 d9 d10 d11 d12 d13
      have hlt:=P4.out.whole.lt
      go_wp2_with (first | (go_at_call 92;refine (Hco.out _ HRW.out).mono ?_;rintro e w5 ⟨rfl,rfl⟩;refine Hid.out ?_))
      refine qh ?_
      go_wp2
      go_roundg (gk - 1)
      case measure=>have:=Hj.out;omega
      case rel=>exact ⟨j+1,qh (by have:=Hj.out;omega),by go_num,qh (by rw [Hcl.out,Hst.out];simp only [hq,Bool.true_and]),HBr⟩
     obtain rfl:j=fl.length:=by have:=Hj.out;omega
     obtain ⟨d0,d1,d2,d3,d4,d5,d6,d7,d8,d9,d10,d11,d12,d13⟩:=ch14 P4.out.whole.cell
     simp only [qgz,qgs] at d0 d1 d2 d3 d4 d5 d6 d7 d8 d9 d10 d11 d12 d13
     have hlt:=P4.out.whole.lt
     go_wp2
     go_ret
     exact ⟨ret_int (by rw [HK5.out,if_pos (by rw [Hcl.out,all_done (qr _)])]),P4.out.below⟩
   have z1:(z != 0)=true:=by simpa using z0
   go_wp2
   go_ret
   exact ⟨ret_int (by rw [HK4.out,if_pos z0]),P3.out.below⟩
  have k1:(k != 3)=true:=by simpa using k3
  go_wp2
  go_ret
  exact ⟨ret_int (by rw [HK3.out,if_pos k3]),PR.out.below⟩
end
end Go.Proofs.YtedbhlgjcnnknaaGreatDoor
