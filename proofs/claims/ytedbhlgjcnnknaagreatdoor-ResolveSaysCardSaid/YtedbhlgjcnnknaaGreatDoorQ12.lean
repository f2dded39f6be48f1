/- Parts. -/
import Derived.Test.YtedbhlgjcnnknaaGreatDoorQ11
set_option linter.unusedVariables false
set_option linter.unusedSimpArgs false
set_option linter.unusedSectionVars false
set_option maxRecDepth 100000
set_option maxHeartbeats 12800000
namespace Go.Proofs.YtedbhlgjcnnknaaGreatDoor
open Go.RowKit Qm
theorem far_own {D:Nat->Prop} {w w1 w2:World} {b:Nat} (h:Far D w w1) (k:Far (fun i=>i=b) w1 w2) (hb:w.heap.size<=b):Far D w w2:=
 ⟨h.base.trans k.base,fun i hi hn=>(k.block i (ql hi h.size) (by omega)).trans (h.block i hi hn)⟩
structure Env (w0 w:World) (R:Nat) (S:Nat->Prop):Prop where
 laid:LaidV w0
 old:Below w0.heap.size w0 w
 newR:w0.heap.size<=R
 ltR:R<w.heap.size
 ltS:∀ k,S k->k<w.heap.size
theorem Env.far {w0 w w':World} {R:Nat} {S:Nat->Prop} (h:Env w0 w R S) (hf:Far (fun i=>i=R) w w'):Env w0 w' R S:=
 ⟨h.laid,h.old.trans (hf.below h.old.size fun i hi=>by have:=h.newR;omega),h.newR,ql h.ltR hf.size,fun k hk=>ql (h.ltS k hk) hf.size⟩
theorem Env.laidV {w0 w:World} {R:Nat} {S:Nat->Prop} (h:Env w0 w R S):LaidV w:=h.laid.below h.old
def CutA (w:World) (R:Nat) (S:Nat->Prop) (us:List Qm.W) (s:Qm.W) (rd:List Qm.W->Option (Nd×List Qm.W)) (Q:Option (Nd×List Qm.W)) (wx:World):Prop:=
 ∃ k f no,f.length<=20000/\RdSt wx R S us/\Whole wx w.heap.size 99 [.int .i64 0,.string ⟨#[]⟩,.int .i64 0,.int .i64 0,.int .i64 0,.string ⟨#[]⟩,.bool false,.string ⟨#[]⟩,.bool false,.slice none 0 0]/\Whole wx (w.heap.size+1) 99 (ndRow k At.zero f no none 0 0)/\Far (fun i=>i=R) w wx/\Q=if s=[40] then readBody rd k f no us else openB rd k f no us
structure Bx (w:World) (R nb:Nat) (S:Nat->Prop) (us:List Qm.W) (zr nr:List Value) (wx:World):Prop where
 rd:RdSt wx R S us
 z:Whole wx w.heap.size 99 zr
 n:Whole wx nb 99 nr
 nb_:nb=w.heap.size+1
 far:Far (fun i=>i=R) w wx
 ltR:R<w.heap.size
 ltS:∀ k,S k->k<w.heap.size
section
variable {w wx wy : World} {R nb : Nat} {S : Nat → Prop} {us us' : List Qm.W} {zr nr : List Value}
theorem Bx.move (h:Bx w R nb S us zr nr wx) (hf:Far (fun _=>False) wx wy):Bx w R nb S us zr nr wy where
 rd:=h.rd.far hf (fun h=>h) fun q hq=>⟨ql (h.ltS q hq) h.far.size,fun h=>h⟩
 z:=hf.whole h.z fun h=>h
 n:=hf.whole h.n fun h=>h
 nb_:=h.nb_
 far:=h.far.trans (hf.mono (D':=fun i=>i=R) fun _ h=>h.elim) fun _ _ h=>h
 ltR:=h.ltR
 ltS:=h.ltS
theorem Bx.below (h:Bx w R nb S us zr nr wx) (hb:Below wx.heap.size wx wy):Bx w R nb S us zr nr wy:=h.move (Far.of_below _ hb)
theorem Bx.next (h:Bx w R nb S us zr nr wx) (hf:Far (fun i=>i=R) wx wy) (hr:RdSt wy R S us'):Bx w R nb S us' zr nr wy where
 rd:=hr
 z:=hf.whole h.z (by have:=h.ltR;omega)
 n:=hf.whole h.n (by have:=h.ltR;have:=h.nb_;omega)
 nb_:=h.nb_
 far:=h.far.trans hf fun _ _ h=>h
 ltR:=h.ltR
 ltS:=h.ltS
theorem Bx.setz (h:Bx w R nb S us zr nr wx) {zr':List Value} (hf:Far (fun i=>i=w.heap.size) wx wy) (hz:Whole wy w.heap.size 99 zr'):Bx w R nb S us zr' nr wy where
 rd:=h.rd.far hf (by have:=h.ltR;omega) fun q hq=>⟨ql (h.ltS q hq) h.far.size,by have:=h.ltS q hq;omega⟩
 z:=hz
 n:=hf.whole h.n (by have:=h.nb_;omega)
 nb_:=h.nb_
 far:=far_own h.far hf (qr _)
 ltR:=h.ltR
 ltS:=h.ltS
theorem Bx.setn (h:Bx w R nb S us zr nr wx) {nr':List Value} (hf:Far (fun i=>i=nb) wx wy) (hn:Whole wy nb 99 nr'):Bx w R nb S us zr nr' wy where
 rd:=h.rd.far hf (by have:=h.ltR;have:=h.nb_;omega) fun q hq=>⟨ql (h.ltS q hq) h.far.size,by have:=h.ltS q hq;have:=h.nb_;omega⟩
 z:=hf.whole h.z (by have:=h.nb_;omega)
 n:=hn
 nb_:=h.nb_
 far:=far_own h.far hf (by have:=h.nb_;omega)
 ltR:=h.ltR
 ltS:=h.ltS
theorem Bx.toA (h:Bx w R nb S us [.int .i64 0,.string ⟨#[]⟩,.int .i64 0,.int .i64 0,.int .i64 0,.string ⟨#[]⟩,.bool false,.string ⟨#[]⟩,.bool false,.slice none 0 0] nr wx) {k:Int} {f s:Qm.W} {no:Bool} {rd:List Qm.W->Option (Nd×List Qm.W)} {Q:Option (Nd×List Qm.W)} (hn:nr=ndRow k At.zero f no none 0 0) (hf:f.length<=20000)
  (hq:Q=if s=[40] then readBody rd k f no us else openB rd k f no us):CutA w R S us s rd Q wx:=by
 subst hn
 obtain ⟨h1,h2,h3,rfl,h5,_,_⟩:=h
 exact ⟨k,f,no,hf,h1,h2,h3,h5,hq⟩
end
def CutB (w:World) (R:Nat) (S:Nat->Prop) (k:Int) (f:Qm.W) (no:Bool) (rd:List Qm.W->Option (Nd×List Qm.W)) (Q:Option (Nd×List Qm.W)) (v:Value) (wx:World):Prop:=
 (v=.bool true/\∃ us,Q=none/\Bx w R (w.heap.size+1) S us [.int .i64 0,.string ⟨#[]⟩,.int .i64 0,.int .i64 0,.int .i64 0,.string ⟨#[]⟩,.bool false,.string ⟨#[]⟩,.bool false,.slice none 0 0] (ndRow k At.zero f no none 0 0) wx) \/
 (v=.bool false/\∃ us,(∀ x∈us,x.length<=20000)/\us.length<=30000/\Q=readBody rd k f no us/\Bx w R (w.heap.size+1) S us [.int .i64 0,.string ⟨#[]⟩,.int .i64 0,.int .i64 0,.int .i64 0,.string ⟨#[]⟩,.bool false,.string ⟨#[]⟩,.bool false,.slice none 0 0] (ndRow k At.zero f no none 0 0) wx)
theorem prepK_nil (o:Option (List Nd×List Qm.W)):prepK [] o=o:=by
 cases o <;> rfl
def nextK (rd:List Qm.W->Option (Nd×List Qm.W)) (f:Nat):Option (Nd×List Qm.W)->Option (List Nd×List Qm.W)
 | none=>none
 | some (k,ws')=>match readKids rd f ws' with
  | none=>none
  | some (ks,ws'')=>some (k :: ks,ws'')
theorem nextK_some {rd:List Qm.W->Option (Nd×List Qm.W)} {f:Nat} {ys:List Nd} {y:Nd} {u:List Qm.W}:prepK ys (nextK rd f (some (y,u)))=prepK (ys++[y]) (readKids rd f u):=by
 show prepK ys (match readKids rd f u with | none=>none | some (ks,ws'')=>some (y :: ks,ws''))=_
 cases readKids rd f u with
 | none=>rfl
 | some p=>obtain ⟨ks,v⟩:=p;simp [prepK]
theorem read_less {d:Nat} {ws us':List Qm.W} {y:Nd} (h:readN d ws=some (y,us')):us'.length<ws.length/\∀ x∈us',x∈ws:=by
 obtain ⟨e,_,_⟩:=of_readN _ _ _ _ h
 have hw:=words_ne y
 rw [e]
 refine ⟨?_,fun x hx=>List.mem_append_right _ hx⟩
 cases hq:wordsN y with
 | nil=>exact absurd hq hw
 | cons a r=>simp;omega
theorem new_cells (w:World) (b:Nat) (xs:List Value) (t:TypeId) (hb:b=w.heap.size):∀ j u,xs[j]? = some u->(w.alloc (.cells xs.toArray t)).cell? ((⟨b,0,none⟩:Addr).add j)=some u:=by
 intro j u hj
 have h:=(Whole.new w b t xs hb).cell j
 have hadd:(⟨b,0,none⟩:Addr).add j=⟨b,j,none⟩:=by unfold Addr.add;split <;> simp_all
 rw [hadd,h,hj]
theorem leaf_post {w wf:World} {R nb d:Nat} {S:Nat->Prop} {ws us:List Qm.W} {zr nr:List Value} {kk q:Int} {x:At} {Q:Option (Nd×List Qm.W)} (h:Bx w R nb S us zr nr wf) (hQ:readN (d+1) ws=Q)
  (h3:Q=if q=0 then some (.mk kk x [] false [],us) else none) (hp:q=0->ckAtom x=0):NeedPost w R S (d+1) ws (.returned (.tuple #[.agg (ndRow kk x [] false none 0 0).toArray,.bool (q == 0)])) wf:=by
 refine ⟨kk,x,[],false,none,0,0, ?_,h.far, ?_⟩
 ·rw [hQ,h3]
  by_cases h0:q=0
  ·subst h0;rfl
  have:(q == 0)=false:=by simpa using h0
  rw [if_neg h0,this];rfl
 intro y ws' hy
 rw [hQ,h3] at hy
 by_cases h0:q=0
 ·rw [if_pos h0] at hy
  simp only [Option.some.injEq,Prod.mk.injEq] at hy
  obtain ⟨rfl,rfl⟩:=hy
  have ha:=atOk (hp h0)
  have h1:=isName_len ha.nm
  have h2:x.fl.length<=8:=by
   by_cases e:x.fl=[]
   ·rw [e];exact Nat.zero_le _
   exact (isName_len (ha.fl e)).2
  exact ⟨RNd.shut (qr _) (Nat.zero_le _) (by unfold maxLen;omega) (by unfold maxLen;omega) (Nat.zero_le _) RKids.nil_,h.rd⟩
 rw [if_neg h0] at hy;cases hy
theorem suffix_last {s:Qm.W}:Lib.hasSuffix s [63]=true↔s.getLast? = some 63:=by
 unfold Lib.hasSuffix
 rw [List.isSuffixOf_iff_suffix,List.getLast?_eq_some_iff]
 constructor
 ·rintro ⟨t,h⟩;exact ⟨t,h.symm⟩
 rintro ⟨t,h⟩;exact ⟨t,h.symm⟩
theorem cutBang_le (s:Qm.W):(cutBang s).1.length<=s.length:=by
 cases s with
 | nil=>simp [cutBang]
 | cons c r=>simp only [cutBang];split <;> simp
theorem cut_told33 (s:Qm.W):(Lib.trimPrefix s [33],Lib.hasPrefix s [33])=cutBang s:=by
 cases s with
 | nil=>rfl
 | cons c r =>
  by_cases h:c=33
  ·subst h;simp [Lib.trimPrefix,Lib.hasPrefix,List.isPrefixOf,cutBang]
  have:(33 == c)=false:=by rw [beq_d];simp;exact fun e=>h e.symm
  simp [Lib.trimPrefix,Lib.hasPrefix,List.isPrefixOf,cutBang,h,this]
theorem cut33a (s:Qm.W):Lib.trimPrefix s [33]=(cutBang s).1:=by rw [<- cut_told33]
theorem cut33b (s:Qm.W):Lib.hasPrefix s [33]=(cutBang s).2:=by rw [<- cut_told33]
theorem need_any:∀ (d:Nat) (D:Int) (R:Nat) (S:Nat->Prop) (ws:List Qm.W) (w0 w:World),D=5 - (d:Int)->d<=4->RdSt w R S ws->Env w0 w R S->(∀ x∈ws,x.length<=20000)->ws.length<=30000 ->
  Calls Tryz.prog 128 #[.pointer (some ⟨R,0,none⟩),.int .i64 D] w (NeedPost w R S d ws):=by
 intro d
 induction d with
 | zero =>
  intro D R S ws w0 w hD hd hr he hx hl
  have hD5:D=5:=by simpa using hD
  subst hD5
  have HE:=qh he
  have HA:=qh (Far.of_below (fun i=>i=R) ((qbr _ w).alloc (qr _) (.cells #[.int .i64 0,.string ⟨#[]⟩,.int .i64 0,.int .i64 0,.int .i64 0,.string ⟨#[]⟩,.bool false,.string ⟨#[]⟩,.bool false,.slice none 0 0] 99)))
  have HZ:=qh (Whole.new w _ 99 [.int .i64 0,.string ⟨#[]⟩,.int .i64 0,.int .i64 0,.int .i64 0,.string ⟨#[]⟩,.bool false,.string ⟨#[]⟩,.bool false,.slice none 0 0] rfl)
  have HR:=qh (hr.far (D:=fun _=>False) (Far.of_below _ ((qbr _ w).alloc (qr _) (.cells #[.int .i64 0,.string ⟨#[]⟩,.int .i64 0,.int .i64 0,.int .i64 0,.string ⟨#[]⟩,.bool false,.string ⟨#[]⟩,.bool false,.slice none 0 0] 99))) (fun h=>h) fun q hq=>⟨he.ltS q hq,fun h=>h⟩)
  clear hr he hx hl hD hd
  have Hn:=qh (fun wx=>next_any R S ws wx)
  go_enter Tryz.func128,Tryz.ntmps128
  go_wp2_with (first | (go_at_call 147;refine (Hn.out _ HR.out).mono ?_;rintro e w1 ⟨rfl,hr1,hf1,hs1⟩;refine Hid.out ?_))
  refine qh ?_
  have HF1:=qh (HA.out.trans hf1 fun _ _ h=>h)
  have hs1':w1.heap.size=w.heap.size+1:=by simpa using hs1
  have HZ1:=qh (hf1.whole HZ.out (by have:=HE.out.ltR;omega))
  have HS1:=qh hs1'
  clear hr1 hf1 hs1 hs1'
  obtain ⟨z0,z1,z2,z3,z4,z5,z6,z7,z8,z9⟩:=ch10 HZ1.out.cell
  obtain ⟨y0,y1,y2,y3,y4,y5,y6,y7,y8,y9⟩:=ch10 HZ1.out.free
  simp only [qgz,qgs] at z0 z1 z2 z3 z4 z5 z6 z7 z8 z9
  have hlt:=HZ1.out.lt
  go_wp2
  obtain ⟨wz,hwz,hW,hF,hsz⟩:=store10 HZ1.out rfl (.int .i64 3) (.string ⟨#[]⟩) (.int .i64 0) (.int .i64 0) (.int .i64 0) (.string ⟨#[]⟩) (.bool false) (.string ⟨#[]⟩) (.bool false) (.slice none 0 0)
  rw [hwz]
  have hW2:=hW.alloc (.cells #[.int .i64 3,.string ⟨#[]⟩,.int .i64 0,.int .i64 0,.int .i64 0,.string ⟨#[]⟩,.bool false,.string ⟨#[]⟩,.bool false,.slice none 0 0] 99)
  have hF2:Far (fun i=>i=R) w (wz.alloc (.cells #[.int .i64 3,.string ⟨#[]⟩,.int .i64 0,.int .i64 0,.int .i64 0,.string ⟨#[]⟩,.bool false,.string ⟨#[]⟩,.bool false,.slice none 0 0] 99)):=far_own HF1.out hF (qr _) |>.trans (Far.of_below _ ((qbr _ _).alloc (qr _) _)) fun _ _ h=>h
  generalize wz.alloc _=wf at hW2 hF2 ⊢
  obtain ⟨e0,e1,e2,e3,e4,e5,e6,e7,e8,e9⟩:=ch10 hW2.cell
  simp only [qgz,qgs] at e0 e1 e2 e3 e4 e5 e6 e7 e8 e9
  refine bodyPost_ret (v:=.tuple #[.agg #[_,_,_,_,_,_,_,_,_,_],.bool _]) (by simp [results,Tryz.results128,go_sem,e0,e1,e2,e3,e4,e5,e6,e7,e8,e9];exact ⟨⟨rfl,rfl,rfl,rfl,rfl,rfl,rfl,rfl,rfl,rfl⟩,rfl⟩) rfl ?_
  exact ⟨3,At.zero,[],false,none,0,0,rfl,hF2,fun y ws' h=>by cases h⟩
 | succ d ih =>
  intro D R S ws w0 w hD hd hr he hx hl
  have hD1:1<=D:=by omega
  have hD4:D<=4:=by omega
  have HD:=qh hD
  have HE:=qh he
  have HIH:=qh ih
  obtain ⟨i0,hi,hz0,hz1,hz2⟩:=info_parts need_info
  have Hi:=qh hi;have Hz0:=qh hz0;have Hz1:=qh hz1;have Hz2:=qh hz2
  clear hi hz0 hz1 hz2
  have HA:=qh (Far.of_below (fun i=>i=R) ((qbr _ w).alloc (qr _) (.cells #[.int .i64 0,.string ⟨#[]⟩,.int .i64 0,.int .i64 0,.int .i64 0,.string ⟨#[]⟩,.bool false,.string ⟨#[]⟩,.bool false,.slice none 0 0] 99)))
  have HZ:=qh (Whole.new w _ 99 [.int .i64 0,.string ⟨#[]⟩,.int .i64 0,.int .i64 0,.int .i64 0,.string ⟨#[]⟩,.bool false,.string ⟨#[]⟩,.bool false,.slice none 0 0] rfl)
  have HR:=qh (hr.far (D:=fun _=>False) (Far.of_below _ ((qbr _ w).alloc (qr _) (.cells #[.int .i64 0,.string ⟨#[]⟩,.int .i64 0,.int .i64 0,.int .i64 0,.string ⟨#[]⟩,.bool false,.string ⟨#[]⟩,.bool false,.slice none 0 0] 99))) (fun h=>h) fun q hq=>⟨he.ltS q hq,fun h=>h⟩)
  have hn:=fun wx=>next_any R S ws wx
  unfold NextPost at hn
  have HQ:Hid (readN (d+1) ws=readS (readN d) (ws.headD []) ws.tail):=qh rfl
  have hsl:(ws.headD []).length<=20000:=by
   cases ws with
   | nil=>simp
   | cons a r=>exact hx a (List.mem_cons_self ..)
  have HX:=qh (show ∀ x∈ws.tail,x.length<=20000 from fun x h=>hx x (List.mem_of_mem_tail h))
  have HL:=qh (show ws.tail.length<=30000 by rw [List.length_tail];omega)
  generalize hs:ws.headD []=s at hn HQ hsl
  generalize ws.tail=us at hn HQ HX HL
  have Hn:=qh hn
  clear hn hr he hx hl hD hd ih hs
  generalize hrd:readN (d+1) ws=Q at HQ
  have HQR:=qh hrd;clear hrd
  go_enter Tryz.func128,Tryz.ntmps128
  go_wp2_with (first | (go_at_call 147;refine (Hn.out _ HR.out).mono ?_;rintro e w1 ⟨rfl,hr1,hf1,hs1⟩;refine Hid.out ?_))
  refine qh ?_
  have HF1:=qh (HA.out.trans hf1 fun _ _ h=>h)
  have hs1':w1.heap.size=w.heap.size+1:=by simpa using hs1
  have HZ1:=qh (hf1.whole HZ.out (by have:=HE.out.ltR;omega))
  have HS1:=qh hs1'
  have HR1:=qh hr1
  have hlt:w.heap.size<w1.heap.size:=by omega
  clear hr1 hf1 hs1 hs1' HR HA HZ Hn
  obtain ⟨z0,z1,z2,z3,z4,z5,z6,z7,z8,z9⟩:=ch10 HZ1.out.cell
  obtain ⟨y0,y1,y2,y3,y4,y5,y6,y7,y8,y9⟩:=ch10 HZ1.out.free
  simp only [qgz,qgs] at z0 z1 z2 z3 z4 z5 z6 z7 z8 z9
  go_upto_block 0 with fail
  have HB0:Hid (∀ nr,Bx w R w1.heap.size S us [.int .i64 0,.string ⟨#[]⟩,.int .i64 0,.int .i64 0,.int .i64 0,.string ⟨#[]⟩,.bool false,.string ⟨#[]⟩,.bool false,.slice none 0 0] nr (w1.alloc (.cells nr.toArray 99))):=qh fun nr=>by
   have hal:=Far.of_below (fun _=>False) ((qbr _ w1).alloc (qr _) (.cells nr.toArray 99))
   exact ⟨HR1.out.far hal (fun h=>h) fun q hq=>⟨(HE.out.far HF1.out).ltS q hq,fun h=>h⟩,HZ1.out.alloc _,Whole.new w1 _ _ nr rfl,HS1.out,HF1.out.trans (hal.mono (D':=fun i=>i=R) fun _ h=>h.elim) fun _ _ h=>h,HE.out.ltR,HE.out.ltS⟩
  go_cut [] (CutA w R S us s (readN d) Q)
  case first =>
   by_cases hs1:s=[40]
   ·subst hs1
    have HC:=qh ((HB0.out (ndRow 3 At.zero [] false none 0 0)).toA (s:=[40]) (rd:=readN d) (Q:=Q) rfl (by simp) (by rw [HQ.out];rfl))
    unfold ndRow At.zero at HC
    go_wp2
    go_meet
    case rel=>exact HC.out
   by_cases hs2:s=[124,124]
   ·subst hs2
    have HC:=qh ((HB0.out (ndRow 4 At.zero [] false none 0 0)).toA (s:=[124,124]) (rd:=readN d) (Q:=Q) rfl (by simp) (by rw [HQ.out];rfl))
    unfold ndRow At.zero at HC
    go_wp2
    go_meet
    case rel=>exact HC.out
   have hs1':(s == [40])=false:=by simpa using hs1
   have hs2':(s == [124,124])=false:=by simpa using hs2
   have hsuf:=fun wx=>Tryz.strings_HasSuffix ⟨s.toArray⟩ ⟨#[63]⟩ wx (by rw [bsz];omega)
   rw [show (⟨s.toArray⟩:ByteArray).data.toList=s from by simp,show (⟨#[63]⟩:ByteArray).data.toList=[63] from rfl] at hsuf
   by_cases hq:s.getLast? = some 63
   ·rw [show Lib.hasSuffix s [63]=true from suffix_last.2 hq] at hsuf
    have Hsuf:=qh hsuf;clear hsuf
    have hne:s≠[]:=by rintro rfl;simp at hq
    have hpos:1<=s.length:=by cases s;exact absurd rfl hne;simp
    have hcut:=fun wx=>Tryz.strings_CutPrefix ((⟨s.toArray⟩:ByteArray).extract 0 (s.length - 1)) ⟨#[33]⟩ wx
    have hext:((⟨s.toArray⟩:ByteArray).extract 0 (s.length - 1)).data.toList=s.dropLast:=by
     rw [Lib.extract_from_zero];simp [List.dropLast_eq_take]
    rw [hext,show (⟨#[33]⟩:ByteArray).data.toList=[33] from rfl,cut33a,cut33b] at hcut
    have HQ3:Hid (Q=if isName (cutBang s.dropLast).1 then openB (readN d) 5 (cutBang s.dropLast).1 (cutBang s.dropLast).2 us else none):=qh (by rw [HQ.out,readS,if_neg hs1,if_neg hs2,if_pos hq])
    have hfl:(cutBang s.dropLast).1.length<=20000:=by
     have:=cutBang_le s.dropLast
     have:s.dropLast.length<=s.length:=by simp
     omega
    generalize (cutBang s.dropLast).1=f at hcut HQ3 hfl
    generalize (cutBang s.dropLast).2=no at hcut HQ3
    have Hcut:=qh hcut;clear hcut hext hne hq
    have hnm:=fun wx=>name_any ⟨f.toArray⟩ wx (by rw [bsz];unfold maxLen;omega)
    rw [show (⟨f.toArray⟩:ByteArray).data.toList=f from by simp] at hnm
    have Hnm:=qh hnm;have Hs1:=qh hs1;clear hnm hs1 hs2
    have hsz:(⟨s.toArray⟩:ByteArray).size=s.length:=bsz s
    go_wp2_with (first
     | (go_at_call 148;refine (Hsuf.out _).mono ?_;rintro e w2 ⟨rfl,rfl⟩)
     | (go_at_call 149;refine (Hcut.out _).mono ?_;rintro e w3 ⟨rfl,rfl⟩)
     | (go_at_call 104;refine (Hnm.out _).mono ?_;rintro e w4 ⟨rfl,hb4⟩;refine Hid.out ?_))
    refine qh ?_
    have B4:=qh ((HB0.out (ndRow 3 At.zero [] false none 0 0)).below hb4)
    unfold ndRow At.zero at B4
    clear hb4
    clear z0 z1 z2 z3 z4 z5 z6 z7 z8 z9 y0 y1 y2 y3 y4 y5 y6 y7 y8 y9
    obtain ⟨z0,z1,z2,z3,z4,z5,z6,z7,z8,z9⟩:=ch10 B4.out.z.cell
    obtain ⟨y0,y1,y2,y3,y4,y5,y6,y7,y8,y9⟩:=ch10 B4.out.z.free
    simp only [qgz,qgs] at z0 z1 z2 z3 z4 z5 z6 z7 z8 z9
    have hlt4:=B4.out.z.lt
    obtain ⟨n0,n1,n2,n3,n4,n5,n6,n7,n8,n9⟩:=ch10 B4.out.n.cell
    obtain ⟨m0,m1,m2,m3,m4,m5,m6,m7,m8,m9⟩:=ch10 B4.out.n.free
    simp only [qgz,qgs] at n0 n1 n2 n3 n4 n5 n6 n7 n8 n9
    cases hnq:isName f
    ·have HQ4:Hid (Q=none):=qh (by rw [HQ3.out,hnq];rfl)
     clear hnq
     go_wp2
     obtain ⟨wz,hwz,hW,hF,hsz⟩:=store10 B4.out.z rfl (.int .i64 3) (.string ⟨#[]⟩) (.int .i64 0) (.int .i64 0) (.int .i64 0) (.string ⟨#[]⟩) (.bool false) (.string ⟨#[]⟩) (.bool false) (.slice none 0 0)
     rw [hwz]
     have B5:=B4.out.setz hF hW
     clear hwz
     obtain ⟨e0,e1,e2,e3,e4,e5,e6,e7,e8,e9⟩:=ch10 hW.cell
     simp only [qgz,qgs] at e0 e1 e2 e3 e4 e5 e6 e7 e8 e9
     refine bodyPost_ret (v:=.tuple #[.agg #[_,_,_,_,_,_,_,_,_,_],.bool _]) (by simp [results,Tryz.results128,go_sem,e0,e1,e2,e3,e4,e5,e6,e7,e8,e9];exact ⟨⟨rfl,rfl,rfl,rfl,rfl,rfl,rfl,rfl,rfl,rfl⟩,rfl⟩) rfl ?_
     exact ⟨3,At.zero,[],false,none,0,0,by rw [HQR.out,HQ4.out];rfl,B5.far,fun y ws' h=>by rw [HQR.out,HQ4.out] at h;cases h⟩
    have HQ4:Hid (Q=openB (readN d) 5 f no us):=qh (by rw [HQ3.out,hnq];rfl)
    clear hnq
    go_wp2
    obtain ⟨wz,hwz,hW,hF,hsz⟩:=store10 B4.out.n rfl (.int .i64 5) (.string ⟨#[]⟩) (.int .i64 0) (.int .i64 0) (.int .i64 0) (.string ⟨#[]⟩) (.bool false) (.string ⟨f.toArray⟩) (.bool no) (.slice none 0 0)
    rw [hwz]
    clear hwz
    go_meet
    case rel=>exact (B4.out.setn hF hW).toA (k:=5) (f:=f) (no:=no) rfl hfl (by rw [HQ4.out,if_neg Hs1.out])
   rw [show Lib.hasSuffix s [63]=false from by rw [Bool.eq_false_iff];exact fun h=>hq (suffix_last.1 h)] at hsuf
   have Hsuf:=qh hsuf;clear hsuf
   have hcut:=fun wx=>Tryz.strings_CutPrefix ⟨s.toArray⟩ ⟨#[33]⟩ wx
   rw [show (⟨s.toArray⟩:ByteArray).data.toList=s from by simp,show (⟨#[33]⟩:ByteArray).data.toList=[33] from rfl,cut33a,cut33b] at hcut
   have HQ3:Hid (Q=leafB (cutBang s).1 (cutBang s).2 us):=qh (by rw [HQ.out,readS,if_neg hs1,if_neg hs2,if_neg hq])
   have htl:(cutBang s).1.length<=20000:=by
    have:=cutBang_le s
    omega
   generalize (cutBang s).1=t at hcut HQ3 htl
   generalize (cutBang s).2=b at hcut HQ3
   have Hcut:=qh hcut;clear hcut hq
   have hpa:=parse_any ⟨t.toArray⟩ (w1.alloc (.cells (ndRow 3 At.zero [] false none 0 0).toArray 99)) (by rw [bsz];unfold maxLen;omega) (HE.out.far (HB0.out (ndRow 3 At.zero [] false none 0 0)).far).laidV
   rw [show (⟨t.toArray⟩:ByteArray).data.toList=t from by simp] at hpa
   have HPK:=qh (fun h=>leaf_of_parse (t:=t) (x:=(parseAt t).1) h rfl)
   unfold leafB at HQ3
   generalize parseAt t=g at hpa HQ3 HPK
   obtain ⟨⟨xn,xo,xv,xs,xf,xb⟩,q⟩:=g
   unfold ndRow At.zero at hpa
   simp only [AtEnd] at hpa HQ3 HPK
   have Hpa:=qh hpa;clear hpa hs1 hs2
   go_wp2_with (first
    | (go_at_call 148;refine (Hsuf.out _).mono ?_;rintro e w2 ⟨rfl,rfl⟩)
    | (go_at_call 149;refine (Hcut.out _).mono ?_;rintro e w3 ⟨rfl,rfl⟩)
    | (go_at_call 150;refine Hpa.out.mono ?_;rintro e w4 ⟨rfl,hb4⟩;refine Hid.out ?_))
   refine qh ?_
   have B4:=qh ((HB0.out (ndRow 3 At.zero [] false none 0 0)).below hb4)
   unfold ndRow At.zero at B4
   clear hb4
   clear z0 z1 z2 z3 z4 z5 z6 z7 z8 z9 y0 y1 y2 y3 y4 y5 y6 y7 y8 y9
   obtain ⟨z0,z1,z2,z3,z4,z5,z6,z7,z8,z9⟩:=ch10 B4.out.z.cell
   obtain ⟨y0,y1,y2,y3,y4,y5,y6,y7,y8,y9⟩:=ch10 B4.out.z.free
   simp only [qgz,qgs] at z0 z1 z2 z3 z4 z5 z6 z7 z8 z9
   have hlt4:=B4.out.z.lt
   have hlt5:=B4.out.n.lt
   obtain ⟨n0,n1,n2,n3,n4,n5,n6,n7,n8,n9⟩:=ch10 B4.out.n.cell
   obtain ⟨m0,m1,m2,m3,m4,m5,m6,m7,m8,m9⟩:=ch10 B4.out.n.free
   simp only [qgz,qgs] at n0 n1 n2 n3 n4 n5 n6 n7 n8 n9
   cases b
   ·go_wp2
    obtain ⟨wn,hwn,hWn,hFn,hsn⟩:=store10 B4.out.n rfl (.int .i64 1) (.string ⟨xn.toArray⟩) (.int .i64 xo) (.int .i64 xv) (.int .i64 xs) (.string ⟨xf.toArray⟩) (.bool xb) (.string ⟨#[]⟩) (.bool false) (.slice none 0 0)
    rw [hwn]
    clear hwn
    have Bn:=B4.out.setn hFn hWn
    obtain ⟨wz,hwz,hW,hF,hsz⟩:=store10 Bn.z rfl (.int .i64 1) (.string ⟨xn.toArray⟩) (.int .i64 xo) (.int .i64 xv) (.int .i64 xs) (.string ⟨xf.toArray⟩) (.bool xb) (.string ⟨#[]⟩) (.bool false) (.slice none 0 0)
    rw [hwz]
    clear hwz
    have Bf:=(Bn.setz hF hW).below ((qbr _ wz).alloc (qr _) (.cells #[.string ⟨xn.toArray⟩,.int .i64 xo,.int .i64 xv,.int .i64 xs,.string ⟨xf.toArray⟩,.bool xb] 75))
    clear Bn
    generalize wz.alloc _=wf at Bf ⊢
    obtain ⟨e0,e1,e2,e3,e4,e5,e6,e7,e8,e9⟩:=ch10 Bf.z.cell
    simp only [qgz,qgs] at e0 e1 e2 e3 e4 e5 e6 e7 e8 e9
    refine bodyPost_ret (v:=.tuple #[.agg #[_,_,_,_,_,_,_,_,_,_],.bool _]) (by simp [results,Tryz.results128,go_sem,e0,e1,e2,e3,e4,e5,e6,e7,e8,e9];exact ⟨⟨rfl,rfl,rfl,rfl,rfl,rfl,rfl,rfl,rfl,rfl⟩,rfl⟩) rfl ?_
    exact leaf_post (kk:=1) (x:=⟨xn,xo,xv,xs,xf,xb⟩) Bf HQR.out HQ3.out fun h=>(HPK.out h).1
   go_wp2
   obtain ⟨wn,hwn,hWn,hFn,hsn⟩:=store10 B4.out.n rfl (.int .i64 1) (.string ⟨xn.toArray⟩) (.int .i64 xo) (.int .i64 xv) (.int .i64 xs) (.string ⟨xf.toArray⟩) (.bool xb) (.string ⟨#[]⟩) (.bool false) (.slice none 0 0)
   rw [hwn]
   clear hwn
   have Bn:=(B4.out.setn hFn hWn).setn (Far.set_ (D:=fun i=>i=w1.heap.size) rfl 0 (.int .i64 2)) (hWn.set_ 0 (.int .i64 2))
   obtain ⟨wz,hwz,hW,hF,hsz⟩:=store10 Bn.z rfl (.int .i64 2) (.string ⟨xn.toArray⟩) (.int .i64 xo) (.int .i64 xv) (.int .i64 xs) (.string ⟨xf.toArray⟩) (.bool xb) (.string ⟨#[]⟩) (.bool false) (.slice none 0 0)
   rw [hwz]
   clear hwz
   have Bf:=(Bn.setz hF hW).below ((qbr _ wz).alloc (qr _) (.cells #[.string ⟨xn.toArray⟩,.int .i64 xo,.int .i64 xv,.int .i64 xs,.string ⟨xf.toArray⟩,.bool xb] 75))
   clear Bn
   generalize wz.alloc _=wf at Bf ⊢
   obtain ⟨e0,e1,e2,e3,e4,e5,e6,e7,e8,e9⟩:=ch10 Bf.z.cell
   simp only [qgz,qgs] at e0 e1 e2 e3 e4 e5 e6 e7 e8 e9
   refine bodyPost_ret (v:=.tuple #[.agg #[_,_,_,_,_,_,_,_,_,_],.bool _]) (by simp [results,Tryz.results128,go_sem,e0,e1,e2,e3,e4,e5,e6,e7,e8,e9];exact ⟨⟨rfl,rfl,rfl,rfl,rfl,rfl,rfl,rfl,rfl,rfl⟩,rfl⟩) rfl ?_
   exact leaf_post (kk:=2) (x:=⟨xn,xo,xv,xs,xf,xb⟩) Bf HQR.out HQ3.out fun h=>(HPK.out h).1
  case rest =>
   obtain ⟨k,f,no,hf,hr,hz,hnn,hF,hQ⟩:=hcut
   have hQl:Hid (Q=if s=[40] then readBody (readN d) k f no us else openB (readN d) k f no us):=qh hQ
   clear HB0 HR1 HZ1 HQ hQ
   clear z0 z1 z2 z3 z4 z5 z6 z7 z8 z9 y0 y1 y2 y3 y4 y5 y6 y7 y8 y9
   rw [HS1.out]
   clear hlt
   have B0:Hid (Bx w R (w.heap.size+1) S us [.int .i64 0,.string ⟨#[]⟩,.int .i64 0,.int .i64 0,.int .i64 0,.string ⟨#[]⟩,.bool false,.string ⟨#[]⟩,.bool false,.slice none 0 0] (ndRow k At.zero f no none 0 0) wc):=qh ⟨hr,hz,hnn,rfl,hF,HE.out.ltR,HE.out.ltS⟩
   clear hr hz hnn hF HF1 HS1
   go_upto_region 19 with fail
   go_cut [72] (fun v wx=>CutB w R S k f no (readN d) Q v wx)
   case first =>
    by_cases hs:s=[40]
    ·subst hs
     have HC:Hid (CutB w R S k f no (readN d) Q (.bool false) wc):=qh (.inr ⟨rfl,us,HX.out,HL.out,by rw [hQl.out,if_pos rfl],B0.out⟩)
     go_wp2
     go_meet
     case rel=>exact HC.out
    have hs1:(s == [40])=false:=by simpa using hs
    have hs2:(s != [40])=true:=by simpa using hs
    have HQ2:Hid (Q=openB (readN d) k f no us):=qh (by rw [hQl.out,if_neg hs])
    have hn:=fun wx=>next_any R S us wx
    unfold NextPost at hn
    have HO:Hid (∀ t,t=us.headD []->Q=if t=[40] then readBody (readN d) k f no us.tail else none):=qh fun t ht=>by
     rw [HQ2.out]
     cases us with
     | nil=>subst ht;rfl
     | cons a r=>subst ht;rfl
    have HX2:Hid (∀ x∈us.tail,x.length<=20000):=qh fun x h=>HX.out x (List.mem_of_mem_tail h)
    have HL2:Hid (us.tail.length<=30000):=qh (by have:=HL.out;rw [List.length_tail];omega)
    generalize ht:us.headD []=t at hn
    generalize us.tail=us2 at hn HO HX2 HL2
    have HO2:=qh (HO.out t ht.symm)
    have Hn:=qh hn
    clear hn ht hs hQl HO HQ2
    go_wp2_with (first | (go_at_call 147;refine (Hn.out _ B0.out.rd).mono ?_;rintro e w2 ⟨rfl,hr2,hf2,hs2⟩;refine Hid.out ?_))
    refine qh ?_
    have B2:=qh (B0.out.next hf2 hr2)
    clear hf2 hr2 hs2
    by_cases h40:t=[40]
    ·subst h40
     have HC:Hid (CutB w R S k f no (readN d) Q (.bool false) w2):=qh (.inr ⟨rfl,us2,HX2.out,HL2.out,by rw [HO2.out,if_pos rfl],B2.out⟩)
     go_wp2
     go_meet
     case rel=>exact HC.out
    have h41:(t == [40])=false:=by simpa using h40
    have h42:(t != [40])=true:=by simpa using h40
    have HC:Hid (CutB w R S k f no (readN d) Q (.bool true) w2):=qh (.inl ⟨rfl,us2,by rw [HO2.out,if_neg h40],B2.out⟩)
    clear h40
    go_wp2
    go_meet
    case rel=>exact HC.out
   case rest =>
    clear B0 hQl
    rcases hcut with ⟨rfl,us,hQ,hB⟩ | ⟨rfl,us,hx2,hl2,hQ,hB⟩
    ·have HQ:=qh hQ;have B1:=qh hB;clear hQ hB
     unfold ndRow At.zero at B1
     obtain ⟨z0,z1,z2,z3,z4,z5,z6,z7,z8,z9⟩:=ch10 B1.out.z.cell
     obtain ⟨y0,y1,y2,y3,y4,y5,y6,y7,y8,y9⟩:=ch10 B1.out.z.free
     simp only [qgz,qgs] at z0 z1 z2 z3 z4 z5 z6 z7 z8 z9
     obtain ⟨n0,n1,n2,n3,n4,n5,n6,n7,n8,n9⟩:=ch10 B1.out.n.cell
     obtain ⟨m0,m1,m2,m3,m4,m5,m6,m7,m8,m9⟩:=ch10 B1.out.n.free
     simp only [qgz,qgs] at n0 n1 n2 n3 n4 n5 n6 n7 n8 n9
     go_wp2
     obtain ⟨wz,hwz,hW,hF,hsz⟩:=store10 B1.out.z rfl (.int .i64 k) (.string ⟨#[]⟩) (.int .i64 0) (.int .i64 0) (.int .i64 0) (.string ⟨#[]⟩) (.bool false) (.string ⟨f.toArray⟩) (.bool no) (.slice none 0 0)
     rw [hwz]
     have B5:=B1.out.setz hF hW
     clear hwz
     obtain ⟨e0,e1,e2,e3,e4,e5,e6,e7,e8,e9⟩:=ch10 hW.cell
     simp only [qgz,qgs] at e0 e1 e2 e3 e4 e5 e6 e7 e8 e9
     refine bodyPost_ret (v:=.tuple #[.agg #[_,_,_,_,_,_,_,_,_,_],.bool _]) (by simp [results,Tryz.results128,go_sem,e0,e1,e2,e3,e4,e5,e6,e7,e8,e9];exact ⟨⟨rfl,rfl,rfl,rfl,rfl,rfl,rfl,rfl,rfl,rfl⟩,rfl⟩) rfl ?_
     exact ⟨k,At.zero,f,no,none,0,0,by rw [HQR.out,HQ.out];rfl,B5.far,fun y ws' h=>by rw [HQR.out,HQ.out] at h;cases h⟩
    have hK:Kd w R S [.int .i64 0,.string ⟨#[]⟩,.int .i64 0,.int .i64 0,.int .i64 0,.string ⟨#[]⟩,.bool false,.string ⟨#[]⟩,.bool false,.slice none 0 0] k f no none 0 [] [] us wc:=⟨hB.rd,hB.z,hB.n,hB.far,rfl,World.ownsRow_nil _ _ _ _,fun j x y h=>by simp at h⟩
    have HK0:=qh hK
    have HX2:=qh hx2
    have HL2:=qh hl2
    have HQ:=qh hQ
    clear hB hK hx2 hl2 hQ HX HL
    go_wp2_with fail
    go_loopg [] us.length (fun g wr=>∃ (A:Option Addr) (c:Nat) (cs:List (List Value)) (ys:List Nd) (vs:List Qm.W) (fuel:Nat),Hid (vs.length<=g)/\Hid (vs.length<fuel)/\Hid (∀ x∈vs,x.length<=20000)/\ys.length+vs.length<=30000/\Hid (Q=closeB k f no (prepK ys (readKids (readN d) fuel vs)))/\Hid (Kd w R S [.int .i64 0,.string ⟨#[]⟩,.int .i64 0,.int .i64 0,.int .i64 0,.string ⟨#[]⟩,.bool false,.string ⟨#[]⟩,.bool false,.slice none 0 0] k f no A c cs ys vs wr))
    case atStart=>exact ⟨none,0,[],[],us,us.length+1,qh (qr _),qh (Nat.lt_succ_self _),HX2,by have:=HL2.out;simp;omega,qh (by rw [HQ.out];unfold readBody;rw [prepK_nil]),HK0⟩
    case round =>
     obtain ⟨A,c,cs,ys,vs,fuel,Hg,Hf,HX,hlen,HQ3,K⟩:=hrel
     clear HK0 HQ HX2 HL2
     obtain ⟨Aw,cw,hw,hc1,hc2,hrow,hnS⟩:=K.out.rd
     have r0:=hw.cell 0
     simp only [qgz] at r0
     unfold maxLen at hc2
     cases vs with
     | nil =>
      clear hw hrow hnS
      simp only [List.length_nil] at r0
      have HQ4:Hid (Q=none):=qh (by
       rw [HQ3.out]
       obtain ⟨f',rfl⟩:∃ f',fuel=f'+1:=⟨fuel - 1,by have:=Hf.out;omega⟩
       rfl)
      have hn:=fun wx=>next_any R S [] wx
      go_wp2_with fail
      unfold NextPost at hn
      simp only [List.headD_nil,List.tail_nil,List.headD_cons,List.tail_cons] at hn
      have Hn:=qh hn;clear hn r0
      have hN:=K.out.n
      unfold ndRow At.zero at hN
      obtain ⟨n0,n1,n2,n3,n4,n5,n6,n7,n8,n9⟩:=ch10 hN.cell
      obtain ⟨m0,m1,m2,m3,m4,m5,m6,m7,m8,m9⟩:=ch10 hN.free
      simp only [qgz,qgs] at n0 n1 n2 n3 n4 n5 n6 n7 n8 n9
      clear hN
      go_region_held3 (fun w'=>w'.cell? ⟨w.heap.size+1,0,none⟩=some (.int .i64 k)/\w'.cell? ⟨w.heap.size+1,1,none⟩=some (.string ⟨#[]⟩)/\w'.cell? ⟨w.heap.size+1,2,none⟩=some (.int .i64 0)/\w'.cell? ⟨w.heap.size+1,3,none⟩=some (.int .i64 0)/\w'.cell? ⟨w.heap.size+1,4,none⟩=some (.int .i64 0)/\w'.cell? ⟨w.heap.size+1,5,none⟩=some (.string ⟨#[]⟩)/\w'.cell? ⟨w.heap.size+1,6,none⟩=some (.bool false)/\w'.cell? ⟨w.heap.size+1,7,none⟩=some (.string ⟨f.toArray⟩)/\w'.cell? ⟨w.heap.size+1,8,none⟩=some (.bool no)/\w'.cell? ⟨w.heap.size+1,9,none⟩=some (.slice A ys.length c))
       (first | go_keep | exact ⟨n0,n1,n2,n3,n4,n5,n6,n7,n8,n9⟩)
       (first
        | (
         go_at_call 147
         refine (Hn.out _ K.out.drew.rd).mono ?_
         rintro e w2 ⟨rfl,hr2,hf2,hs2⟩
         have K2:=qh (K.out.drew.move HE.out.ltR hf2 hr2)
         clear hr2 hf2 hs2
         clear n0 n1 n2 n3 n4 n5 n6 n7 n8 n9 m0 m1 m2 m3 m4 m5 m6 m7 m8 m9
         have hN:=K2.out.n
         unfold ndRow At.zero at hN
         obtain ⟨n0,n1,n2,n3,n4,n5,n6,n7,n8,n9⟩:=ch10 hN.cell
         obtain ⟨m0,m1,m2,m3,m4,m5,m6,m7,m8,m9⟩:=ch10 hN.free
         simp only [qgz,qgs] at n0 n1 n2 n3 n4 n5 n6 n7 n8 n9
         clear hN
         obtain ⟨z0,z1,z2,z3,z4,z5,z6,z7,z8,z9⟩:=ch10 K2.out.z.cell
         obtain ⟨y0,y1,y2,y3,y4,y5,y6,y7,y8,y9⟩:=ch10 K2.out.z.free
         simp only [qgz,qgs] at z0 z1 z2 z3 z4 z5 z6 z7 z8 z9
         have hlt2:=K2.out.z.lt)
        | fail)
      obtain ⟨wz,hwz,hW,hF,hsz⟩:=store10 K2.out.z rfl (.int .i64 k) (.string ⟨#[]⟩) (.int .i64 0) (.int .i64 0) (.int .i64 0) (.string ⟨#[]⟩) (.bool false) (.string ⟨f.toArray⟩) (.bool no) (.slice A ys.length c)
      rw [hwz]
      clear hwz
      have B5:Far (fun i=>i=R) w wz:=far_own K2.out.far hF (qr _)
      go_wp2
      obtain ⟨e0,e1,e2,e3,e4,e5,e6,e7,e8,e9⟩:=ch10 hW.cell
      simp only [qgz,qgs] at e0 e1 e2 e3 e4 e5 e6 e7 e8 e9
      refine bodyPost_ret (v:=.tuple #[.agg #[_,_,_,_,_,_,_,_,_,_],.bool _]) (by simp [results,Tryz.results128,go_sem,e0,e1,e2,e3,e4,e5,e6,e7,e8,e9];exact ⟨⟨rfl,rfl,rfl,rfl,rfl,rfl,rfl,rfl,rfl,rfl⟩,rfl⟩) rfl ?_
      refine ⟨k,At.zero,f,no,A,ys.length,c,by rw [HQR.out,HQ4.out];rfl,B5,fun y ws' h=>by rw [HQR.out,HQ4.out] at h;cases h⟩
     | cons a r =>
      have hla:a.length<=20000:=HX.out a (List.mem_cons_self ..)
      obtain ⟨bw,ow,rfl,hbw⟩:=hrow.some_lit (by simp)
      obtain ⟨bw',ow',ew,_,hcell⟩:=hrow.2 (by simp)
      injection ew with ew;injection ew with ew1 ew2
      subst ew1 ew2
      have r1:=hcell 0 (by simp)
      simp only [Nat.add_zero,strs,List.map_cons,qgz] at r1
      have hl1:(a :: r).length=r.length+1:=rfl
      rw [hl1] at r0 hc1
      clear hw hrow hnS hcell
      by_cases h41:a=[41]
      ·subst h41
       have HQ4:Hid (Q=some (.mk k At.zero f no ys,r)):=qh (by
        rw [HQ3.out]
        obtain ⟨f',rfl⟩:∃ f',fuel=f'+1:=⟨fuel - 1,by have:=Hf.out;omega⟩
        simp [readKids,prepK,closeB])
       have hn:=fun wx=>next_any R S ([41] :: r) wx
       go_wp2_with fail
       clear r1
       unfold NextPost at hn
       simp only [List.headD_nil,List.tail_nil,List.headD_cons,List.tail_cons] at hn
       have Hn:=qh hn;clear hn r0
       have hN:=K.out.n
       unfold ndRow At.zero at hN
       obtain ⟨n0,n1,n2,n3,n4,n5,n6,n7,n8,n9⟩:=ch10 hN.cell
       obtain ⟨m0,m1,m2,m3,m4,m5,m6,m7,m8,m9⟩:=ch10 hN.free
       simp only [qgz,qgs] at n0 n1 n2 n3 n4 n5 n6 n7 n8 n9
       clear hN
       go_region_held3 (fun w'=>w'.cell? ⟨w.heap.size+1,0,none⟩=some (.int .i64 k)/\w'.cell? ⟨w.heap.size+1,1,none⟩=some (.string ⟨#[]⟩)/\w'.cell? ⟨w.heap.size+1,2,none⟩=some (.int .i64 0)/\w'.cell? ⟨w.heap.size+1,3,none⟩=some (.int .i64 0)/\w'.cell? ⟨w.heap.size+1,4,none⟩=some (.int .i64 0)/\w'.cell? ⟨w.heap.size+1,5,none⟩=some (.string ⟨#[]⟩)/\w'.cell? ⟨w.heap.size+1,6,none⟩=some (.bool false)/\w'.cell? ⟨w.heap.size+1,7,none⟩=some (.string ⟨f.toArray⟩)/\w'.cell? ⟨w.heap.size+1,8,none⟩=some (.bool no)/\w'.cell? ⟨w.heap.size+1,9,none⟩=some (.slice A ys.length c))
        (first | go_keep | exact ⟨n0,n1,n2,n3,n4,n5,n6,n7,n8,n9⟩)
        (first
         | (
          go_at_call 147
          refine (Hn.out _ K.out.drew.rd).mono ?_
          rintro e w2 ⟨rfl,hr2,hf2,hs2⟩
          have K2:=qh (K.out.drew.move HE.out.ltR hf2 hr2)
          clear hr2 hf2 hs2
          clear n0 n1 n2 n3 n4 n5 n6 n7 n8 n9 m0 m1 m2 m3 m4 m5 m6 m7 m8 m9
          have hN:=K2.out.n
          unfold ndRow At.zero at hN
          obtain ⟨n0,n1,n2,n3,n4,n5,n6,n7,n8,n9⟩:=ch10 hN.cell
          obtain ⟨m0,m1,m2,m3,m4,m5,m6,m7,m8,m9⟩:=ch10 hN.free
          simp only [qgz,qgs] at n0 n1 n2 n3 n4 n5 n6 n7 n8 n9
          clear hN
          obtain ⟨z0,z1,z2,z3,z4,z5,z6,z7,z8,z9⟩:=ch10 K2.out.z.cell
          obtain ⟨y0,y1,y2,y3,y4,y5,y6,y7,y8,y9⟩:=ch10 K2.out.z.free
          simp only [qgz,qgs] at z0 z1 z2 z3 z4 z5 z6 z7 z8 z9
          have hlt2:=K2.out.z.lt)
         | fail)
       obtain ⟨wz,hwz,hW,hF,hsz⟩:=store10 K2.out.z rfl (.int .i64 k) (.string ⟨#[]⟩) (.int .i64 0) (.int .i64 0) (.int .i64 0) (.string ⟨#[]⟩) (.bool false) (.string ⟨f.toArray⟩) (.bool no) (.slice A ys.length c)
       rw [hwz]
       clear hwz
       have B5:Far (fun i=>i=R) w wz:=far_own K2.out.far hF (qr _)
       go_wp2
       obtain ⟨e0,e1,e2,e3,e4,e5,e6,e7,e8,e9⟩:=ch10 hW.cell
       simp only [qgz,qgs] at e0 e1 e2 e3 e4 e5 e6 e7 e8 e9
       refine bodyPost_ret (v:=.tuple #[.agg #[_,_,_,_,_,_,_,_,_,_],.bool _]) (by simp [results,Tryz.results128,go_sem,e0,e1,e2,e3,e4,e5,e6,e7,e8,e9];exact ⟨⟨rfl,rfl,rfl,rfl,rfl,rfl,rfl,rfl,rfl,rfl⟩,rfl⟩) rfl ?_
       refine ⟨k,At.zero,f,no,A,ys.length,c,by rw [HQR.out,HQ4.out];rfl,B5,fun y ws' h=>?_⟩
       rw [HQR.out,HQ4.out] at h
       simp only [Option.some.injEq,Prod.mk.injEq] at h
       obtain ⟨rfl,rfl⟩:=h
       refine ⟨RNd.shut K2.out.cap.1 K2.out.cap.2 (Nat.zero_le _) (Nat.zero_le _) (by unfold maxLen;omega) ?_, ?_⟩
       ·exact RKids.more (fun i hi=>⟨by omega,by rw [hsz];exact hi.2⟩) (K2.out.kids.keep fun p hp=>hF.cell hp.2 (by omega))
       exact K2.out.rd.far hF (by have:=HE.out.ltR;omega) fun q hq=>⟨ql (HE.out.ltS q hq) K2.out.far.size,by have:=HE.out.ltS q hq;omega⟩
      have h42:(a == [41])=false:=by simpa using h41
      have h43:(a != [41])=true:=by simpa using h41
      have hcall:=HIH.out (D+1) R S (a :: r) w0 wr (by have:=HD.out;omega) (by have:=HD.out;omega) K.out.rd (HE.out.far K.out.far) HX.out (by omega)
      obtain ⟨f',hf'⟩:∃ f',fuel=f'+1:=⟨fuel - 1,by have:=Hf.out;omega⟩
      subst hf'
      have HQ5:Hid (Q=closeB k f no (prepK ys (nextK (readN d) f' (readN d (a :: r))))):=qh (by
       rw [HQ3.out]
       unfold readKids nextK
       simp only [if_neg h41]
       cases readN d (a :: r) with
       | none=>rfl
       | some q=>obtain ⟨y,u⟩:=q;simp only [];cases readKids (readN d) f' u <;> rfl)
      have HSH:=qh (fun y us' (h:readN d (a :: r)=some (y,us'))=>read_less h)
      unfold NeedPost at hcall
      generalize readN d (a :: r)=q at hcall HQ5 HSH
      have Hcall:=qh hcall
      clear hcall HQ3 h41
      rcases q with _ | ⟨y,us'⟩
      ·have HQ6:Hid (Q=none):=qh (by rw [HQ5.out];rfl)
       go_wp2_with fail
       refine Hcall.out.mono ?_
       rintro e w5 ⟨k',a',f5,no',A',n',c',rfl,hf5,-⟩
       have HF5:=qh (K.out.far.trans hf5 fun _ _ h=>h)
       have HZ5:=qh (hf5.whole K.out.z (by have:=HE.out.ltR;omega))
       have hN5:=hf5.whole K.out.n (by have:=HE.out.ltR;omega)
       unfold ndRow At.zero at hN5
       have HN5:=qh hN5
       clear hf5 hN5 r0 r1
       obtain ⟨xn,xo,xv,xs,xf,xb⟩:=a'
       unfold ndRow
       simp only [Option.isSome_none]
       obtain ⟨z0,z1,z2,z3,z4,z5,z6,z7,z8,z9⟩:=ch10 HZ5.out.cell
       obtain ⟨y0,y1,y2,y3,y4,y5,y6,y7,y8,y9⟩:=ch10 HZ5.out.free
       simp only [qgz,qgs] at z0 z1 z2 z3 z4 z5 z6 z7 z8 z9
       obtain ⟨n0,n1,n2,n3,n4,n5,n6,n7,n8,n9⟩:=ch10 HN5.out.cell
       obtain ⟨m0,m1,m2,m3,m4,m5,m6,m7,m8,m9⟩:=ch10 HN5.out.free
       simp only [qgz,qgs] at n0 n1 n2 n3 n4 n5 n6 n7 n8 n9
       have hlt5:=HN5.out.lt
       have hlt6:=HZ5.out.lt
       go_wp2_with fail
       obtain ⟨wz,hwz,hW,hF,hsz⟩:=store10 HZ5.out rfl (.int .i64 k) (.string ⟨#[]⟩) (.int .i64 0) (.int .i64 0) (.int .i64 0) (.string ⟨#[]⟩) (.bool false) (.string ⟨f.toArray⟩) (.bool no) (.slice A ys.length c)
       rw [hwz]
       clear hwz
       have hW2:=hW.alloc (.cells #[.int .i64 k',.string ⟨xn.toArray⟩,.int .i64 xo,.int .i64 xv,.int .i64 xs,.string ⟨xf.toArray⟩,.bool xb,.string ⟨f5.toArray⟩,.bool no',.slice A' n' c'] 99)
       have B5:Far (fun i=>i=R) w (wz.alloc (.cells #[.int .i64 k',.string ⟨xn.toArray⟩,.int .i64 xo,.int .i64 xv,.int .i64 xs,.string ⟨xf.toArray⟩,.bool xb,.string ⟨f5.toArray⟩,.bool no',.slice A' n' c'] 99)):=(far_own HF5.out hF (qr _)).trans (Far.of_below (fun i=>i=R) ((qbr _ _).alloc (qr _) _)) fun _ _ h=>h
       generalize wz.alloc _=wf at hW2 B5 ⊢
       obtain ⟨e0,e1,e2,e3,e4,e5,e6,e7,e8,e9⟩:=ch10 hW2.cell
       simp only [qgz,qgs] at e0 e1 e2 e3 e4 e5 e6 e7 e8 e9
       refine bodyPost_ret (v:=.tuple #[.agg #[_,_,_,_,_,_,_,_,_,_],.bool _]) (by simp [results,Tryz.results128,go_sem,e0,e1,e2,e3,e4,e5,e6,e7,e8,e9];exact ⟨⟨rfl,rfl,rfl,rfl,rfl,rfl,rfl,rfl,rfl,rfl⟩,rfl⟩) rfl ?_
       exact ⟨k,At.zero,f,no,A,ys.length,c,by rw [HQR.out,HQ6.out];rfl,B5,fun y ws' h=>by rw [HQR.out,HQ6.out] at h;cases h⟩
      obtain ⟨hsh1,hsh2⟩:=HSH.out y us' rfl
      have HX5:Hid (∀ x∈us',x.length<=20000):=qh fun x hx=>HX.out x (hsh2 x hx)
      have HQ6:Hid (Q=closeB k f no (prepK (ys++[y]) (readKids (readN d) f' us'))):=qh (by
       rw [HQ5.out]
       rw [nextK_some])
      clear hsh2 HSH HQ5
      have HSL:=qh hsh1;clear hsh1
      go_wp2_with fail
      refine Hcall.out.mono ?_
      rintro e w5 ⟨k',a',f5,no',A',n',c',rfl,hf5,hsome⟩
      obtain ⟨hrn,hrd⟩:=hsome y us' rfl
      have K5:=qh (K.out.move HE.out.ltR hf5 hrd)
      obtain ⟨xn,xo,xv,xs,xf,xb⟩:=a'
      have K7:=qh ((K5.out.alloc HE.out.ltR HE.out.ltS (.cells (ndRow k' ⟨xn,xo,xv,xs,xf,xb⟩ f5 no' A' n' c').toArray 99)).alloc HE.out.ltR HE.out.ltS (.cells (ndRow k' ⟨xn,xo,xv,xs,xf,xb⟩ f5 no' A' n' c').toArray 99))
      have hbl:Below w5.heap.size w5 ((w5.alloc (.cells (ndRow k' ⟨xn,xo,xv,xs,xf,xb⟩ f5 no' A' n' c').toArray 99)).alloc (.cells (ndRow k' ⟨xn,xo,xv,xs,xf,xb⟩ f5 no' A' n' c').toArray 99)):=((qbr _ _).alloc (qr _) _).alloc (by simp) _
      have HRN:=qh ((hrn.under hbl fun q hq=>hq.2).more (S':=fun i=>w.heap.size+2<=i/\i<((w5.alloc (.cells (ndRow k' ⟨xn,xo,xv,xs,xf,xb⟩ f5 no' A' n' c').toArray 99)).alloc (.cells (ndRow k' ⟨xn,xo,xv,xs,xf,xb⟩ f5 no' A' n' c').toArray 99)).heap.size/\(Value.slice A ys.length c).ownBlock≠some i) fun i hi=>⟨by have:=K.out.size;omega,ql hi.2 hbl.size,fun e=>by have:=(K.out.own.lt i e).2;omega⟩)
      have HNC:=qh (new_cells (w5.alloc (.cells (ndRow k' ⟨xn,xo,xv,xs,xf,xb⟩ f5 no' A' n' c').toArray 99)) (w5.heap.size+1) (ndRow k' ⟨xn,xo,xv,xs,xf,xb⟩ f5 no' A' n' c') 99 (by simp))
      have hN5:=K5.out.n
      clear hf5 hsome hrn hrd hbl r0 r1
      unfold ndRow at hN5 K7 HRN HNC ⊢
      unfold At.zero at hN5
      have n9:=hN5.cell 9
      simp only [qgz,qgs] at n9
      have hlt5:=hN5.lt
      clear hN5
      simp only [Option.isSome_some]
      go_wp2_with (at_builtin;refine wpList_append_own_at _ rfl _ _ 97 rfl (w.heap.size+2) 99 i0 (.agg #[.int .i64 0,.string ⟨#[]⟩,.int .i64 0,.int .i64 0,.int .i64 0,.string ⟨#[]⟩,.bool false,.string ⟨#[]⟩,.bool false,.slice none 0 0]) 10 120 Tryz.underlying97 Hi.out Hz0.out Hz1.out Hz2.out rfl (by decide) _ _ _ rfl K7.out.own ⟨w5.heap.size+1,0,none⟩ 1 1 [.int .i64 k',.string ⟨xn.toArray⟩,.int .i64 xo,.int .i64 xv,.int .i64 xs,.string ⟨xf.toArray⟩,.bool xb,.string ⟨f5.toArray⟩,.bool no',.slice A' n' c'] rfl rfl HNC.out (by simp [Value.oneCell']) (by unfold maxLen;omega) (by omega) (by have:=K7.out.size;omega) ?_)
      intro v' w8 hown8 hg8 _ hv8
      obtain ⟨A8,c8,hv',_,_,_⟩:=own_formK hown8
      subst hv'
      have K8:=K7.out.push HE.out.ltR HE.out.ltS HRN.out hown8 hg8 (hv8.imp id fun e=>by rw [e];simp)
      have hN8:=K7.out.n.grown hg8 (by intro e;have:=(K7.out.own.lt _ e.symm).1;omega)
      have m9:=hN8.free 9
      have n8:=hN8.cell 9
      unfold ndRow at n8
      simp only [qgz,qgs] at n8
      have hlt8:=hN8.lt
      have HK8:=qh K8
      clear hown8 hg8 hv8 K8 hN8 n9 K5 K7 HRN HNC
      go_wp2_with fail
      go_roundg (gk - 1)
      case measure=>have:=Hg.out;have:=HSL.out;simp only [List.length_cons] at *;omega
      case rel =>
       have h1:=Hg.out;have h2:=HSL.out;have h3:=Hf.out
       simp only [List.length_cons] at h1 h2 h3 hlen
       exact ⟨A8,c8,_,ys++[y],us',f',qh (by omega),qh (by omega),HX5,by simp;omega,HQ6,HK8⟩
end Go.Proofs.YtedbhlgjcnnknaaGreatDoor
