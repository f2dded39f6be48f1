/- Parts of the proof: walks and plain laws, side by side. -/
import Derived.Test.YthpkffeiehnamaaGreatDoorM15
import Derived.Test.YthpkffeiehnamaaGreatDoorM17
import Derived.Test.YthpkffeiehnamaaGreatDoorM29
import Derived.Test.YthpkffeiehnamaaGreatDoorM30
import Derived.Test.YthpkffeiehnamaaGreatDoorM32
import Derived.Test.YthpkffeiehnamaaGreatDoorM33
import Derived.Test.YthpkffeiehnamaaGreatDoorM22
import Derived.Test.YthpkffeiehnamaaGreatDoorM11
set_option linter.unusedVariables false
set_option linter.unusedSimpArgs false
set_option linter.unusedSectionVars false
/- TreeSays, walked: it returns true. -/
namespace Go.Proofs.YthpkffeiehnamaaGreatDoor
open Go.RowKit Qm

/-- The tree and the atom in their boxes, and what was read in its own. -/
structure Ys (w : World) (A : Option Addr) (n c : Nat) (av : List Value) (b9 : Nat) (B : Option Addr) (m d : Nat) (qs : List Pk) (wx : World) : Prop where
  x : Mx w A n c av wx
  q : Whole wx b9 24 [.slice B m d]
  r : RTree wx (fun i => w.heap.size ≤ i ∧ i < wx.heap.size) B m qs
theorem Ys.move {w wx wy : World} {A : Option Addr} {n c : Nat} {av : List Value} {b9 : Nat} {B : Option Addr} {m d : Nat} {qs : List Pk} (h : Ys w A n c av b9 B m d qs wx) (hb : Below wx.heap.size wx wy) : Ys w A n c av b9 B m d qs wy :=
  ⟨h.x.move hb, h.q.below hb h.q.lt, (h.r.under hb fun i hi => hi.2).more fun i hi => ⟨hi.1, Nat.lt_of_lt_of_le hi.2 hb.size⟩⟩
theorem ints_up {w wx wy : World} {A : Option Addr} {n : Nat} {vs : List Int} (h : RInts wx (fun i => w.heap.size ≤ i ∧ i < wx.heap.size) A n vs) (hb : Below wx.heap.size wx wy) : RInts wy (fun i => w.heap.size ≤ i ∧ i < wy.heap.size) A n vs :=
  Row.more (Row.keep h fun p hp => hb.cell hp.2) fun i hi => ⟨hi.1, Nat.lt_of_lt_of_le hi.2 hb.size⟩
set_option maxRecDepth 100000 in
set_option maxHeartbeats 12800000 in
theorem treeSays_any (ps : List Pk) (l m : List Mem) (S : Nat → Prop) (A B C : Option Addr) (n c lb cb lc cc : Nat) (s : ByteArray) (a : At) (w : World) (hT : RTree w S A n ps) (hnc : n ≤ c) (hc : c ≤ maxLen) (ht : s.size ≤ maxLen) (h1 : a.nm.length ≤ maxLen) (h2 : a.fl.length ≤ maxLen)
    (hl : RSet w S B lb l) (hlb : lb ≤ maxLen) (hm : RSet w S C lc m) (hlc : lc ≤ maxLen) (hS : ∀ k, S k → k < w.heap.size) (hL : LaidV w) (hM : MaxW w) (hX : MaxV w) :
    Calls Tryz.prog 5 #[.agg #[.slice A n c], .string s, .agg #[.string ⟨a.nm.toArray⟩, .int .i64 a.op, .int .i64 a.ver, .int .i64 a.slot, .string ⟨a.fl.toArray⟩, .bool a.on], .slice B lb cb, .slice C lc cc] w fun e w' => e = .returned (.bool true) ∧ Below w.heap.size w w' := by
  have HLV := Lib.hid hL; have HMV := Lib.hid hM; have HMX := Lib.hid hX; clear hL hM hX
  obtain ⟨t, rfl⟩ : ∃ l : Qm.W, s = ⟨l.toArray⟩ := ⟨s.data.toList, bs_list s⟩
  rw [bsz] at ht
  have Hpl := Lib.hid hT.len
  have HT := Lib.hid hT; have HS := Lib.hid hS; have HL := Lib.hid hl; have HM := Lib.hid hm; clear hT hS hl hm
  have X0 := Lib.hid (Mx.new w A n c [.string ⟨a.nm.toArray⟩, .int .i64 a.op, .int .i64 a.ver, .int .i64 a.slot, .string ⟨a.fl.toArray⟩, .bool a.on])
  have Hpr := Lib.hid (fun wx h1 h2 h3 => tprint_any ps S A n c wx h1 hnc hc h2 h3)
  have Hpa := Lib.hid (fun wx h1 h2 => tparse_any t wx ht h1 h2)
  have Hme := Lib.hid (fun wx hh hs => means_any ps a S A n c wx hh hnc hc h1 h2 hs)
  have Hrc := Lib.hid (fun wx h1 h2 => rcheckTree_any ps S A n c wx h1 hnc hc h2)
  have Htc := Lib.hid (fun wx h1 h2 => tCheck_any ps S A n c wx h1 hnc hc h2)
  have Hfo := Lib.hid (fun wx h1 h2 => forest_any wx h1 h2)
  have Hst := Lib.hid (fun wx h1 h2 h3 => sameSett_any l m S B C lb cb lc cc wx h1 h2 h3 hlb hlc)
  have Hsr := Lib.hid (fun wx h1 h2 h3 => sameSetr_any l m S B C lb cb lc cc wx h1 h2 h3 hlb hlc)
  have Hcs := Lib.hid (fun wx h1 h2 h3 => cset_any ps l S A B n c lb cb wx h1 hnc hc h2 hlb h3)
  have Hrs := Lib.hid (fun wx h8 h1 h2 h3 => rcset_any ps l S A B n c lb cb wx h1 h8 hnc hc h2 hlb h3)
  have Hrt := Lib.hid (fun wx hz h1 h2 h3 => rttext_any ps S A n c wx h1 hz hnc hc h2 h3)
  have hra := fun wx => rcheck_any ⟨a.nm.toArray⟩ ⟨a.fl.toArray⟩ a.op a.ver a.slot a.on wx (by rw [bsz]; exact h1) (by rw [bsz]; exact h2)
  rw [atOf_mk] at hra
  unfold atv at hra
  have Hra := Lib.hid hra; clear hra
  have hrd := fun (hs : t.length ≤ 20000) wx h1 h2 h3 => rreadTree_any t wx hs h1 h2 h3
  unfold TParsePost at Hpa hrd
  have HMANY := Lib.hid (parse_many (s := t))
  generalize parseTree t = pt at Hpa hrd HMANY
  obtain ⟨qs, pk, pf⟩ := pt
  dsimp only at Hpa hrd HMANY
  have Hrd := Lib.hid hrd; clear hrd
  unfold MeansPost at Hme
  have HE : Hid (meansE ps a = if ckTree ps ≠ 0 then ckTree ps else ckAtom a) := Lib.hid rfl
  have HML : Hid (meansL ps a = if meansE ps a = 0 then meantTo ps a ps.length else []) := Lib.hid rfl
  have HCS : Hid (ckSet ps l = if ckTree ps ≠ 0 then ckTree ps else ckMs ps none l) := Lib.hid rfl
  have HPT : Hid (printT ps = if ckTree ps = 0 then treeText ps else []) := Lib.hid rfl
  have HZ8 : Hid (ckTree ps = 0 → n ≤ 8) := Lib.hid fun h => by rw [← Hpl.out]; exact ckTree_len h
  generalize meansL ps a = ml at Hme HML
  generalize meansE ps a = me at Hme HE HML
  generalize ckSet ps l = sb at Hcs HCS
  generalize ckMs ps none l = sr at Hrs HCS
  generalize printT ps = tp at Hpr HPT
  generalize treeText ps = tt at Hrt HPT
  generalize eqL sameMem l m = sm at Hst Hsr
  generalize ckTree ps = z at Hpr Hrc Htc Hrt HE HCS HPT HZ8
  generalize ckAtom a = y at Hra HE
  obtain ⟨nl, hnl⟩ : ∃ nl, ml.length = nl := ⟨_, rfl⟩
  rw [hnl] at Hme
  have HNL := Lib.hid hnl; clear hnl
  unfold maxLen at ht hc hlb hlc h1 h2
  have hss : (sm != sm) = false := by simp
  have hzz : (z != z) = false := by simp
  go_enter Tryz.func5, Tryz.ntmps5
  go_wp2_with (first | (go_at_call 16; refine (Hpr.out _ (HT.out.under X0.out.below HS.out) (fun q hq => Nat.lt_of_lt_of_le (HS.out q hq) X0.out.below.size) (HLV.out.below X0.out.below)).mono ?_; rintro e w1 ⟨rfl, hb1⟩; refine Hid.out ?_))
  refine Lib.hid ?_
  have X1 := Lib.hid (X0.out.move hb1); clear hb1 X0 Hpr
  go_wp2_with (first | (go_at_call 17; refine (Hpa.out _ (HLV.out.below X1.out.below) (HMV.out.below X1.out.below)).mono ?_; rintro e w2 ⟨A2, n2, c2, rfl, hr2, hn2, hc2, hb2⟩; refine Hid.out ?_))
  refine Lib.hid ?_
  have X2 := Lib.hid (X1.out.move hb2)
  have hb3 := bel1 w2 (.cells #[.slice A2 n2 c2] 24)
  have Y3 : Hid (Ys w A n c _ w2.heap.size A2 n2 c2 qs (w2.alloc (.cells #[.slice A2 n2 c2] 24))) :=
    Lib.hid ⟨X2.out.move hb3, Whole.new w2 _ _ [_] rfl, (hr2.under hb3 fun i hi => hi.2).more fun i hi => ⟨Nat.le_trans X1.out.below.size hi.1, Nat.lt_of_lt_of_le hi.2 hb3.size⟩⟩
  unfold maxLen at hc2
  clear hb2 hb3 hr2 X1 Hpa
  have t0 := X2.out.t.cell 0
  simp only [List.getElem?_cons_zero] at t0
  have tlt := X2.out.t.lt
  go_upto_region 3 with fail
  generalize w2.alloc _ = w3 at Y3 ⊢
  clear t0 tlt
  generalize w2.heap.size = b9 at Y3 ⊢
  clear X2
  have t0 := Y3.out.x.t.cell 0
  have a0 := Y3.out.x.a.cell 0; have a1 := Y3.out.x.a.cell 1; have a2 := Y3.out.x.a.cell 2; have a3 := Y3.out.x.a.cell 3; have a4 := Y3.out.x.a.cell 4; have a5 := Y3.out.x.a.cell 5
  have q0 := Y3.out.q.cell 0
  simp only [List.getElem?_cons_zero, List.getElem?_cons_succ] at t0 a0 a1 a2 a3 a4 a5 q0
  have tlt := Y3.out.x.t.lt
  have alt := Y3.out.x.a.lt
  have qlt := Y3.out.q.lt
  go_upto_region 4 with (first | (go_at_call 6; refine (Hme.out _ (HT.out.under Y3.out.x.below HS.out) (fun q hq => Nat.lt_of_lt_of_le (HS.out q hq) Y3.out.x.below.size)).mono ?_; rintro e w4 ⟨Am, cm, rfl, hrm, hm1, hm2, hb4⟩; refine Hid.out ?_))
  refine Lib.hid ?_
  have Y4 := Lib.hid (Y3.out.move hb4)
  have HI4 := Lib.hid (Row.more hrm (fun i hi => (⟨Nat.le_trans Y3.out.x.below.size hi.1, hi.2⟩ : w.heap.size ≤ i ∧ i < w4.heap.size)))
  unfold maxLen at hm2
  clear hb4 hrm Y3 Hme
  clear t0 a0 a1 a2 a3 a4 a5 q0 tlt alt qlt
  have t0 := Y4.out.x.t.cell 0
  have a0 := Y4.out.x.a.cell 0; have a1 := Y4.out.x.a.cell 1; have a2 := Y4.out.x.a.cell 2; have a3 := Y4.out.x.a.cell 3; have a4 := Y4.out.x.a.cell 4; have a5 := Y4.out.x.a.cell 5
  have q0 := Y4.out.q.cell 0
  simp only [List.getElem?_cons_zero, List.getElem?_cons_succ] at t0 a0 a1 a2 a3 a4 a5 q0
  have tlt := Y4.out.x.t.lt
  have alt := Y4.out.x.a.lt
  have qlt := Y4.out.q.lt
  go_upto_region 5 with (first | (go_at_call 19; refine (Hrc.out _ (HT.out.under Y4.out.x.below HS.out) (fun q hq => Nat.lt_of_lt_of_le (HS.out q hq) Y4.out.x.below.size)).mono ?_; rintro e w5 ⟨rfl, hb5⟩; refine Hid.out ?_))
  refine Lib.hid ?_
  have Y5 := Lib.hid (Y4.out.move hb5)
  have HI5 := Lib.hid (ints_up HI4.out hb5)
  clear hb5 HI4 Y4 Hrc
  clear t0 a0 a1 a2 a3 a4 a5 q0 tlt alt qlt
  have t0 := Y5.out.x.t.cell 0
  have a0 := Y5.out.x.a.cell 0; have a1 := Y5.out.x.a.cell 1; have a2 := Y5.out.x.a.cell 2; have a3 := Y5.out.x.a.cell 3; have a4 := Y5.out.x.a.cell 4; have a5 := Y5.out.x.a.cell 5
  have q0 := Y5.out.q.cell 0
  simp only [List.getElem?_cons_zero, List.getElem?_cons_succ] at t0 a0 a1 a2 a3 a4 a5 q0
  have tlt := Y5.out.x.t.lt
  have alt := Y5.out.x.a.lt
  have qlt := Y5.out.q.lt
  by_cases z0 : z = 0
  · subst z0
    obtain rfl : tp = tt := by rw [HPT.out, if_pos rfl]
    obtain rfl : sb = sr := by rw [HCS.out, if_neg (by simp)]
    obtain rfl : me = y := by rw [HE.out, if_neg (by simp)]
    have hn8 := HZ8.out rfl
    have htt : (tp != tp) = false := by simp
    have hsb : (sb != sb) = false := by simp
    have hmm : (me != me) = false := by simp
    clear HPT HCS HE HZ8
    go_wp2_with (first | (go_at_call 7; refine (Hfo.out _ (HLV.out.below Y5.out.x.below) (HMV.out.below Y5.out.x.below)).mono ?_; rintro e w6 ⟨rfl, hb⟩; refine Hid.out ?_))
    refine Lib.hid ?_
    replace HI5 := Lib.hid (ints_up HI5.out hb)
    replace Y5 := Lib.hid (Y5.out.move hb)
    clear hb
    clear t0 a0 a1 a2 a3 a4 a5 q0 tlt alt qlt
    have t0 := Y5.out.x.t.cell 0
    have a0 := Y5.out.x.a.cell 0; have a1 := Y5.out.x.a.cell 1; have a2 := Y5.out.x.a.cell 2; have a3 := Y5.out.x.a.cell 3; have a4 := Y5.out.x.a.cell 4; have a5 := Y5.out.x.a.cell 5
    have q0 := Y5.out.q.cell 0
    simp only [List.getElem?_cons_zero, List.getElem?_cons_succ] at t0 a0 a1 a2 a3 a4 a5 q0
    have tlt := Y5.out.x.t.lt
    have alt := Y5.out.x.a.lt
    have qlt := Y5.out.q.lt
    go_wp2_with (first | (go_at_call 20; refine (Htc.out _ (HT.out.under Y5.out.x.below HS.out) (fun q hq => Nat.lt_of_lt_of_le (HS.out q hq) Y5.out.x.below.size)).mono ?_; rintro e w7 ⟨rfl, hb⟩; refine Hid.out ?_))
    refine Lib.hid ?_
    replace HI5 := Lib.hid (ints_up HI5.out hb)
    replace Y5 := Lib.hid (Y5.out.move hb)
    clear hb
    clear t0 a0 a1 a2 a3 a4 a5 q0 tlt alt qlt
    have t0 := Y5.out.x.t.cell 0
    have a0 := Y5.out.x.a.cell 0; have a1 := Y5.out.x.a.cell 1; have a2 := Y5.out.x.a.cell 2; have a3 := Y5.out.x.a.cell 3; have a4 := Y5.out.x.a.cell 4; have a5 := Y5.out.x.a.cell 5
    have q0 := Y5.out.q.cell 0
    simp only [List.getElem?_cons_zero, List.getElem?_cons_succ] at t0 a0 a1 a2 a3 a4 a5 q0
    have tlt := Y5.out.x.t.lt
    have alt := Y5.out.x.a.lt
    have qlt := Y5.out.q.lt
    go_wp2_with (first | (go_at_call 21; refine (Hrt.out _ trivial (HT.out.under Y5.out.x.below HS.out) (fun q hq => Nat.lt_of_lt_of_le (HS.out q hq) Y5.out.x.below.size) (HLV.out.below Y5.out.x.below)).mono ?_; rintro e w70 ⟨rfl, hb⟩; refine Hid.out ?_))
    refine Lib.hid ?_
    replace HI5 := Lib.hid (ints_up HI5.out hb)
    replace Y5 := Lib.hid (Y5.out.move hb)
    clear hb
    clear t0 a0 a1 a2 a3 a4 a5 q0 tlt alt qlt
    have t0 := Y5.out.x.t.cell 0
    have a0 := Y5.out.x.a.cell 0; have a1 := Y5.out.x.a.cell 1; have a2 := Y5.out.x.a.cell 2; have a3 := Y5.out.x.a.cell 3; have a4 := Y5.out.x.a.cell 4; have a5 := Y5.out.x.a.cell 5
    have q0 := Y5.out.q.cell 0
    simp only [List.getElem?_cons_zero, List.getElem?_cons_succ] at t0 a0 a1 a2 a3 a4 a5 q0
    have tlt := Y5.out.x.t.lt
    have alt := Y5.out.x.a.lt
    have qlt := Y5.out.q.lt
    go_wp2_with (first | (go_at_call 22; refine (Hst.out _ (HL.out.under Y5.out.x.below HS.out) (HM.out.under Y5.out.x.below HS.out) (fun q hq => Nat.lt_of_lt_of_le (HS.out q hq) Y5.out.x.below.size)).mono ?_; rintro e w8 ⟨rfl, hb⟩; refine Hid.out ?_))
    refine Lib.hid ?_
    replace HI5 := Lib.hid (ints_up HI5.out hb)
    replace Y5 := Lib.hid (Y5.out.move hb)
    clear hb
    clear t0 a0 a1 a2 a3 a4 a5 q0 tlt alt qlt
    have t0 := Y5.out.x.t.cell 0
    have a0 := Y5.out.x.a.cell 0; have a1 := Y5.out.x.a.cell 1; have a2 := Y5.out.x.a.cell 2; have a3 := Y5.out.x.a.cell 3; have a4 := Y5.out.x.a.cell 4; have a5 := Y5.out.x.a.cell 5
    have q0 := Y5.out.q.cell 0
    simp only [List.getElem?_cons_zero, List.getElem?_cons_succ] at t0 a0 a1 a2 a3 a4 a5 q0
    have tlt := Y5.out.x.t.lt
    have alt := Y5.out.x.a.lt
    have qlt := Y5.out.q.lt
    go_wp2_with (first | (go_at_call 23; refine (Hsr.out _ (HL.out.under Y5.out.x.below HS.out) (HM.out.under Y5.out.x.below HS.out) (fun q hq => Nat.lt_of_lt_of_le (HS.out q hq) Y5.out.x.below.size)).mono ?_; rintro e w9 ⟨rfl, hb⟩; refine Hid.out ?_))
    refine Lib.hid ?_
    replace HI5 := Lib.hid (ints_up HI5.out hb)
    replace Y5 := Lib.hid (Y5.out.move hb)
    clear hb
    clear t0 a0 a1 a2 a3 a4 a5 q0 tlt alt qlt
    have t0 := Y5.out.x.t.cell 0
    have a0 := Y5.out.x.a.cell 0; have a1 := Y5.out.x.a.cell 1; have a2 := Y5.out.x.a.cell 2; have a3 := Y5.out.x.a.cell 3; have a4 := Y5.out.x.a.cell 4; have a5 := Y5.out.x.a.cell 5
    have q0 := Y5.out.q.cell 0
    simp only [List.getElem?_cons_zero, List.getElem?_cons_succ] at t0 a0 a1 a2 a3 a4 a5 q0
    have tlt := Y5.out.x.t.lt
    have alt := Y5.out.x.a.lt
    have qlt := Y5.out.q.lt
    go_wp2_with (first | (go_at_call 24; refine (Hrs.out _ hn8 (HT.out.under Y5.out.x.below HS.out) (HL.out.under Y5.out.x.below HS.out) (fun q hq => Nat.lt_of_lt_of_le (HS.out q hq) Y5.out.x.below.size)).mono ?_; rintro e w90 ⟨rfl, hb⟩; refine Hid.out ?_))
    refine Lib.hid ?_
    replace HI5 := Lib.hid (ints_up HI5.out hb)
    replace Y5 := Lib.hid (Y5.out.move hb)
    clear hb
    clear t0 a0 a1 a2 a3 a4 a5 q0 tlt alt qlt
    have t0 := Y5.out.x.t.cell 0
    have a0 := Y5.out.x.a.cell 0; have a1 := Y5.out.x.a.cell 1; have a2 := Y5.out.x.a.cell 2; have a3 := Y5.out.x.a.cell 3; have a4 := Y5.out.x.a.cell 4; have a5 := Y5.out.x.a.cell 5
    have q0 := Y5.out.q.cell 0
    simp only [List.getElem?_cons_zero, List.getElem?_cons_succ] at t0 a0 a1 a2 a3 a4 a5 q0
    have tlt := Y5.out.x.t.lt
    have alt := Y5.out.x.a.lt
    have qlt := Y5.out.q.lt
    go_wp2_with (first | (go_at_call 25; refine (Hcs.out _ (HT.out.under Y5.out.x.below HS.out) (HL.out.under Y5.out.x.below HS.out) (fun q hq => Nat.lt_of_lt_of_le (HS.out q hq) Y5.out.x.below.size)).mono ?_; rintro e w10 ⟨rfl, hb⟩; refine Hid.out ?_))
    refine Lib.hid ?_
    replace HI5 := Lib.hid (ints_up HI5.out hb)
    replace Y5 := Lib.hid (Y5.out.move hb)
    clear hb
    clear t0 a0 a1 a2 a3 a4 a5 q0 tlt alt qlt
    have t0 := Y5.out.x.t.cell 0
    have a0 := Y5.out.x.a.cell 0; have a1 := Y5.out.x.a.cell 1; have a2 := Y5.out.x.a.cell 2; have a3 := Y5.out.x.a.cell 3; have a4 := Y5.out.x.a.cell 4; have a5 := Y5.out.x.a.cell 5
    have q0 := Y5.out.q.cell 0
    simp only [List.getElem?_cons_zero, List.getElem?_cons_succ] at t0 a0 a1 a2 a3 a4 a5 q0
    have tlt := Y5.out.x.t.lt
    have alt := Y5.out.x.a.lt
    have qlt := Y5.out.q.lt
    go_wp2_with (first | (go_at_call 26; refine (Hra.out _).mono ?_; rintro e w91 ⟨rfl, hb⟩; refine Hid.out ?_))
    refine Lib.hid ?_
    replace HI5 := Lib.hid (ints_up HI5.out hb)
    replace Y5 := Lib.hid (Y5.out.move hb)
    clear hb
    clear t0 a0 a1 a2 a3 a4 a5 q0 tlt alt qlt
    have t0 := Y5.out.x.t.cell 0
    have a0 := Y5.out.x.a.cell 0; have a1 := Y5.out.x.a.cell 1; have a2 := Y5.out.x.a.cell 2; have a3 := Y5.out.x.a.cell 3; have a4 := Y5.out.x.a.cell 4; have a5 := Y5.out.x.a.cell 5
    have q0 := Y5.out.q.cell 0
    simp only [List.getElem?_cons_zero, List.getElem?_cons_succ] at t0 a0 a1 a2 a3 a4 a5 q0
    have tlt := Y5.out.x.t.lt
    have alt := Y5.out.x.a.lt
    have qlt := Y5.out.q.lt
    by_cases y0 : me = 0
    · subst y0
      have HMT : Hid (ml = meantTo ps a n) := Lib.hid (by rw [HML.out, if_pos rfl, Hpl.out])
      clear HML
      go_wp2_with fail
      clear t0 a0 a1 a2 a3 a4 a5 q0 tlt alt qlt
      obtain ⟨i0, hi, hz0, hz1, hz2⟩ := info_parts int_info5
      have Hi := Lib.hid hi; have Hz0 := Lib.hid hz0; have Hz1 := Lib.hid hz1; have Hz2 := Lib.hid hz2
      clear hi hz0 hz1 hz2
      obtain ⟨wE, hwE⟩ : ∃ x, x = w91 := ⟨_, rfl⟩
      rw [← hwE] at Y5 HI5 ⊢
      clear hwE
      go_loopg [20, 103] n (fun g lv iv wr => ∃ j : Nat, Hid (j + g = n) ∧ iv = .int .i64 j ∧ Hid (wr.ownsRow wE.heap.size 3 1 lv (meantTo ps a j).length ((meantTo ps a j).map (.int .i64))) ∧ Hid (Below wE.heap.size wE wr))
      case atStart => exact ⟨0, Lib.hid (Nat.zero_add _), rfl, Lib.hid (World.ownsRow_nil _ _ _ _), Lib.hid (Below.refl _ _)⟩
      case round =>
        obtain ⟨j, Hj, rfl, Hown, HB⟩ := hrel
        have YR := Lib.hid (Y5.out.move HB.out)
        have XR := Lib.hid YR.out.x
        by_cases hj : j < n
        · obtain ⟨b, o, p, B, m', c', k, f, g, no, D, q, d, rfl, hbS, hp, hP, hcell⟩ := (HT.out.under XR.out.below HS.out).at_ hj
          have Hyes := Lib.hid (fun h => meantTo_yes (a := a) hp h)
          have Hno := Lib.hid (fun h => meantTo_no (a := a) hp h)
          have HM : Hid (meant a p = (decide (p.nm = a.nm) && (fitsP a p.ver p.slot && (decide (a.fl = []) || p.fs.contains a.fl)))) := Lib.hid rfl
          have hml := meantTo_len (ps := ps) (a := a) j
          generalize meant a p = mm at Hyes Hno HM
          have g0 := hcell 0 (by omega); have g1 := hcell 1 (by omega); have g2 := hcell 2 (by omega); have g3 := hcell 3 (by omega); have g4 := hcell 4 (by omega); have g5 := hcell 5 (by omega); have g6 := hcell 6 (by omega); have g7 := hcell 7 (by omega); have g8 := hcell 8 (by omega); have g9 := hcell 9 (by omega); have g10 := hcell 10 (by omega); have g11 := hcell 11 (by omega); have g12 := hcell 12 (by omega); have g13 := hcell 13 (by omega)
          unfold pkRow ndRow at g0 g1 g2 g3 g4 g5 g6 g7 g8 g9 g10 g11 g12 g13
          simp only [List.getElem?_cons_zero, List.getElem?_cons_succ, Nat.add_zero] at g0 g1 g2 g3 g4 g5 g6 g7 g8 g9 g10 g11 g12 g13
          clear hcell hp
          have P1 := Lib.hid (Pb.new wr (pkRow p B m' c' (ndRow k f g no D q d)))
          have HFS := Lib.hid hP.fs
          have HPm := Lib.hid (Nat.le_trans hP.cap hP.max)
          have HSr : Hid (∀ x, S x → x < wr.heap.size) := Lib.hid fun x hx => Nat.lt_of_lt_of_le (HS.out x hx) XR.out.below.size
          clear hP
          have Hft := Lib.hid (fun wx => rfits_any ⟨a.nm.toArray⟩ ⟨a.fl.toArray⟩ a.op a.ver a.slot p.ver p.slot a.on wx)
          rw [atOf_mk] at Hft
          unfold atv at Hft
          obtain ⟨nm, ver, slot, fs, nd⟩ := p
          unfold pkRow ndRow at P1
          dsimp only at g0 g1 g2 g3 g4 g5 g6 g7 g8 g9 g10 g11 g12 g13 P1 HFS Hft HM
          have a0 := XR.out.a.cell 0; have a1 := XR.out.a.cell 1; have a2 := XR.out.a.cell 2; have a3 := XR.out.a.cell 3; have a4 := XR.out.a.cell 4; have a5 := XR.out.a.cell 5
          simp only [List.getElem?_cons_zero, List.getElem?_cons_succ] at a0 a1 a2 a3 a4 a5
          have hlt := XR.out.a.lt
          generalize fitsP a ver slot = ft at Hft HM
          by_cases hn : nm = a.nm
          · subst hn
            have H1 : Hid (mm = (ft && (decide (a.fl = []) || fs.contains a.fl))) := Lib.hid (by rw [HM.out]; simp)
            clear HM
            cases ft
            · have HN := Lib.hid (Hno.out (by rw [H1.out]; rfl))
              go_wp2_with (first | (go_at_call 27; refine (Hft.out _).mono ?_; rintro e w4 ⟨rfl, hb4⟩; refine Hid.out ?_))
              refine Lib.hid ?_
              have HB4 := Lib.hid ((P1.out.move hb4).below)
              clear hb4
              go_wp2
              go_roundg (gk - 1)
              case measure => have := Hj.out; omega
              case rel => exact ⟨j + 1, Lib.hid (by have := Hj.out; omega), by go_num, Lib.hid (by rw [HN.out]; exact (Far.of_below (fun _ => False) HB4.out).own Hown.out fun _ _ h => h), Lib.hid (HB.out.trans (HB4.out.mono HB.out.size))⟩
            · by_cases hfl : a.fl = []
              · have HN := Lib.hid (Hyes.out (by rw [H1.out, decide_eq_true hfl]; rfl))
                have Hfl := Lib.hid hfl
                clear hfl
                go_wp2_with (first | (go_at_call 27; refine (Hft.out _).mono ?_; rintro e w4 ⟨rfl, hb4⟩; refine Hid.out ?_))
                refine Lib.hid ?_
                have P4 := Lib.hid (P1.out.move hb4)
                have X4 := Lib.hid (XR.out.move P4.out.below)
                clear hb4
                have HOW4 := Lib.hid ((Far.of_below (fun _ => False) P4.out.below).own Hown.out fun _ _ h => h)
                have b4 := X4.out.a.cell 4
                have p3 := P4.out.whole.cell 3
                simp only [List.getElem?_cons_zero, List.getElem?_cons_succ] at b4 p3
                rw [Hfl.out] at b4
                go_wp2_with (at_builtin; refine wpList_append_own _ rfl _ _ 27 rfl wE.heap.size 3 i0 (.int .i64 0) 1 8 Tryz.underlying27 Hi.out Hz0.out Hz1.out Hz2.out rfl (by decide) _ _ _ rfl (HOW4.out.alloc _) ⟨w4.heap.size, 0, none⟩ 1 1 [.int .i64 (j : Int)] rfl rfl ?c1 ?c2 ?c3 ?c4 ?c5 ?_)
                case c1 => exact cell_one_new _ _ _
                case c2 => simp [Value.oneCell']
                case c3 => unfold maxLen; omega
                case c4 => omega
                case c5 => have := HB.out.size; have := P4.out.below.size; simp; omega
                intro lv' w6 hown6 hg6 _
                have HB4 := HB.out.trans (P4.out.below.mono HB.out.size)
                have hbel6 : Below wE.heap.size wE w6 := (HB4.alloc HB4.size _).trans (below_of_grown hg6 (by have := HB4.size; simp; omega) (fun k e => (HOW4.out.lt k e).1))
                have hown7 : w6.ownsRow wE.heap.size 3 1 lv' (meantTo ps a (j + 1)).length ((meantTo ps a (j + 1)).map (Value.int .i64)) := by
                  rw [HN.out, List.length_append, List.map_append]; exact hown6
                have Hown7 := Lib.hid hown7; have Hbel6 := Lib.hid hbel6
                clear hown6 hg6 hown7 hbel6 HB4
                go_wp2_with fail
                go_roundg (gk - 1)
                case measure => have := Hj.out; omega
                case rel => exact ⟨j + 1, Lib.hid (by have := Hj.out; omega), by go_num, Hown7, Hbel6⟩
              · have hf1 : (a.fl == []) = false := by simpa using hfl
                have hf2 : a.fl.isEmpty = false := by simpa using hfl
                have Hfl := Lib.hid hfl
                clear hfl
                cases hq : fs.contains a.fl
                · have HN := Lib.hid (Hno.out (by rw [H1.out, decide_eq_false Hfl.out, hq]; rfl))
                  go_wp2_with (first | (go_at_call 27; refine (Hft.out _).mono ?_; rintro e w4 ⟨rfl, hb4⟩; refine Hid.out ?_))
                  refine Lib.hid ?_
                  have P4 := Lib.hid (P1.out.move hb4)
                  have X4 := Lib.hid (XR.out.move P4.out.below)
                  clear hb4
                  have HOW4 := Lib.hid ((Far.of_below (fun _ => False) P4.out.below).own Hown.out fun _ _ h => h)
                  have b4 := X4.out.a.cell 4
                  have p3 := P4.out.whole.cell 3
                  simp only [List.getElem?_cons_zero, List.getElem?_cons_succ] at b4 p3
                  have Hco := Lib.hid (containsS_any B m' c' fs a.fl w4 S (HFS.out.row.below P4.out.below HSr.out) HPm.out)
                  rw [hq] at Hco
                  go_wp2_with (first | (go_at_call 28; refine Hco.out.mono ?_; rintro e w5 ⟨rfl, hw5⟩; have hw6 := hw5.symm; subst hw6; refine Hid.out ?_))
                  refine Lib.hid ?_
                  go_wp2
                  go_roundg (gk - 1)
                  case measure => have := Hj.out; omega
                  case rel => exact ⟨j + 1, Lib.hid (by have := Hj.out; omega), by go_num, Lib.hid (by rw [HN.out]; exact HOW4.out), Lib.hid (HB.out.trans (P4.out.below.mono HB.out.size))⟩
                · have HN := Lib.hid (Hyes.out (by rw [H1.out, decide_eq_false Hfl.out, hq]; rfl))
                  go_wp2_with (first | (go_at_call 27; refine (Hft.out _).mono ?_; rintro e w4 ⟨rfl, hb4⟩; refine Hid.out ?_))
                  refine Lib.hid ?_
                  have P4 := Lib.hid (P1.out.move hb4)
                  have X4 := Lib.hid (XR.out.move P4.out.below)
                  clear hb4
                  have HOW4 := Lib.hid ((Far.of_below (fun _ => False) P4.out.below).own Hown.out fun _ _ h => h)
                  have b4 := X4.out.a.cell 4
                  have p3 := P4.out.whole.cell 3
                  simp only [List.getElem?_cons_zero, List.getElem?_cons_succ] at b4 p3
                  have Hco := Lib.hid (containsS_any B m' c' fs a.fl w4 S (HFS.out.row.below P4.out.below HSr.out) HPm.out)
                  rw [hq] at Hco
                  go_wp2_with (first | (go_at_call 28; refine Hco.out.mono ?_; rintro e w5 ⟨rfl, hw5⟩; have hw6 := hw5.symm; subst hw6; refine Hid.out ?_))
                  refine Lib.hid ?_
                  go_wp2_with (at_builtin; refine wpList_append_own _ rfl _ _ 27 rfl wE.heap.size 3 i0 (.int .i64 0) 1 8 Tryz.underlying27 Hi.out Hz0.out Hz1.out Hz2.out rfl (by decide) _ _ _ rfl (HOW4.out.alloc _) ⟨w4.heap.size, 0, none⟩ 1 1 [.int .i64 (j : Int)] rfl rfl ?c1 ?c2 ?c3 ?c4 ?c5 ?_)
                  case c1 => exact cell_one_new _ _ _
                  case c2 => simp [Value.oneCell']
                  case c3 => unfold maxLen; omega
                  case c4 => omega
                  case c5 => have := HB.out.size; have := P4.out.below.size; simp; omega
                  intro lv' w6 hown6 hg6 _
                  have HB4 := HB.out.trans (P4.out.below.mono HB.out.size)
                  have hbel6 : Below wE.heap.size wE w6 := (HB4.alloc HB4.size _).trans (below_of_grown hg6 (by have := HB4.size; simp; omega) (fun k e => (HOW4.out.lt k e).1))
                  have hown7 : w6.ownsRow wE.heap.size 3 1 lv' (meantTo ps a (j + 1)).length ((meantTo ps a (j + 1)).map (Value.int .i64)) := by
                    rw [HN.out, List.length_append, List.map_append]; exact hown6
                  have Hown7 := Lib.hid hown7; have Hbel6 := Lib.hid hbel6
                  clear hown6 hg6 hown7 hbel6 HB4
                  go_wp2_with fail
                  go_roundg (gk - 1)
                  case measure => have := Hj.out; omega
                  case rel => exact ⟨j + 1, Lib.hid (by have := Hj.out; omega), by go_num, Hown7, Hbel6⟩
          · have hn' : (nm == a.nm) = false := by simpa using hn
            have HN := Lib.hid (Hno.out (by rw [HM.out, decide_eq_false hn]; rfl))
            go_wp2
            go_roundg (gk - 1)
            case measure => have := Hj.out; omega
            case rel => exact ⟨j + 1, Lib.hid (by have := Hj.out; omega), by go_num, Lib.hid (by rw [HN.out]; exact Hown.out.alloc _), Lib.hid (HB.out.trans (P1.out.below.mono HB.out.size))⟩
        · obtain rfl : n = j := by have := Hj.out; omega
          replace HI5 := Lib.hid (ints_up HI5.out HB.out)
          have hsE := Y5.out.x.below.size
          replace Y5 := YR
          clear YR XR
          have hown := Hown.out
          rw [← HMT.out, HNL.out] at hown
          obtain ⟨A9, c9, rfl, h49, h59, hrow9⟩ := own_form hown
          have heq := equal_int Am A9 nl nl cm c9 ml ml _ _ HI5.out (Row.more hrow9 fun k hk => ⟨Nat.le_trans hsE hk.1, hk.2⟩) (by unfold maxLen; omega) (by unfold maxLen at h59 ⊢; omega)
          unfold maxLen at h59
          clear hown hrow9 Hown hsE
          have t0 := Y5.out.x.t.cell 0
          have a0 := Y5.out.x.a.cell 0; have a1 := Y5.out.x.a.cell 1; have a2 := Y5.out.x.a.cell 2; have a3 := Y5.out.x.a.cell 3; have a4 := Y5.out.x.a.cell 4; have a5 := Y5.out.x.a.cell 5
          have q0 := Y5.out.q.cell 0
          simp only [List.getElem?_cons_zero, List.getElem?_cons_succ] at t0 a0 a1 a2 a3 a4 a5 q0
          have tlt := Y5.out.x.t.lt
          have alt := Y5.out.x.a.lt
          have qlt := Y5.out.q.lt
          rw [beq_self_eq_true] at heq
          have Heq := Lib.hid heq
          clear heq
          go_wp2_with (first | (go_at_call 15; refine Heq.out.mono ?_; rintro e w11 ⟨rfl, nq, rfl⟩; refine Hid.out ?_))
          refine Lib.hid ?_
          have Y6 := Lib.hid (Y5.out.move (below_drewN (Below.refl _ _) nq))
          clear Heq HI5 Y5
          clear t0 a0 a1 a2 a3 a4 a5 q0 tlt alt qlt
          have t0 := Y6.out.x.t.cell 0
          have a0 := Y6.out.x.a.cell 0; have a1 := Y6.out.x.a.cell 1; have a2 := Y6.out.x.a.cell 2; have a3 := Y6.out.x.a.cell 3; have a4 := Y6.out.x.a.cell 4; have a5 := Y6.out.x.a.cell 5
          have q0 := Y6.out.q.cell 0
          simp only [List.getElem?_cons_zero, List.getElem?_cons_succ] at t0 a0 a1 a2 a3 a4 a5 q0
          have tlt := Y6.out.x.t.lt
          have alt := Y6.out.x.a.lt
          have qlt := Y6.out.q.lt
          have hn2m : n2 ≤ maxLen := by unfold maxLen; omega
          by_cases hbig : 20000 < t.length
          · have hbig' : (20000 : Int) < (t.length : Int) := by omega
            have hmz := HMANY.out hbig
            simp only [Prod.mk.injEq] at hmz
            obtain ⟨rfl, rfl, rfl⟩ := hmz
            have hsm := rsameTree_any [] [] _ A2 none n2 c2 0 0 _ Y6.out.r RTree.nil_ (fun i hi => hi.2) hn2m (Nat.zero_le _)
            rw [show eqL samePk [] [] = true from rfl] at hsm
            have Hsm := Lib.hid hsm
            clear hsm hbig
            go_wp2_with (first | (go_at_call 18; refine Hsm.out.mono ?_; rintro e w12 ⟨rfl, hb12⟩; refine Hid.out ?_))
            refine Lib.hid ?_
            have HBZ := Lib.hid (Y6.out.x.below.trans (hb12.mono Y6.out.x.below.size))
            clear hb12
            go_wp2
            go_ret
            exact ⟨rfl, HBZ.out⟩
          · have hbig' : ¬ (20000 : Int) < (t.length : Int) := by omega
            have Hrd2 := Lib.hid (Hrd.out (by omega) _ (HLV.out.below Y6.out.x.below) (HMV.out.below Y6.out.x.below) (HMX.out.below Y6.out.x.below))
            clear hbig
            go_wp2_with (first | (go_at_call 29; refine Hrd2.out.mono ?_; rintro e w12 ⟨A8, n8, c8, rfl, hr8, hn8, hc8, hb8⟩; refine Hid.out ?_))
            refine Lib.hid ?_
            have Y7 := Lib.hid (Y6.out.move hb8)
            have HR7 : Hid (RTree w12 (fun i => w.heap.size ≤ i ∧ i < w12.heap.size) A8 n8 qs) := Lib.hid (hr8.more fun i hi => ⟨Nat.le_trans Y6.out.x.below.size hi.1, hi.2⟩)
            have hb9x := bel1 w12 (.cells #[.slice A8 n8 c8] 24)
            have Y8 := Lib.hid (Y7.out.move hb9x)
            have hsm := rsameTree_any qs qs _ A2 A8 n2 c2 n8 c8 _ Y8.out.r ((HR7.out.under hb9x fun i hi => hi.2).more fun i hi => ⟨hi.1, Nat.lt_of_lt_of_le hi.2 hb9x.size⟩) (fun i hi => hi.2) hn2m (Nat.le_trans hn8 hc8)
            rw [show eqL samePk qs qs = true from (eqL_iff fun _ _ => samePk_iff).2 rfl] at hsm
            have Hsm := Lib.hid hsm
            unfold maxLen at hc8
            clear hsm hb8 hr8 hb9x HR7 Hrd2 Y6
            clear t0 a0 a1 a2 a3 a4 a5 q0 tlt alt qlt
            have t0 := Y7.out.x.t.cell 0
            have a0 := Y7.out.x.a.cell 0; have a1 := Y7.out.x.a.cell 1; have a2 := Y7.out.x.a.cell 2; have a3 := Y7.out.x.a.cell 3; have a4 := Y7.out.x.a.cell 4; have a5 := Y7.out.x.a.cell 5
            have q0 := Y7.out.q.cell 0
            simp only [List.getElem?_cons_zero, List.getElem?_cons_succ] at t0 a0 a1 a2 a3 a4 a5 q0
            have tlt := Y7.out.x.t.lt
            have alt := Y7.out.x.a.lt
            have qlt := Y7.out.q.lt
            have hpk : ((pk : Int) == (pk : Int)) = true := by simp
            have hpf : ((pf : Int) == (pf : Int)) = true := by simp
            go_wp2_with (first | (go_at_call 18; refine Hsm.out.mono ?_; rintro e w13 ⟨rfl, hb13⟩; refine Hid.out ?_))
            refine Lib.hid ?_
            have HBZ := Lib.hid (Y8.out.x.below.trans (hb13.mono Y8.out.x.below.size))
            clear hb13
            go_wp2
            go_ret
            exact ⟨rfl, HBZ.out⟩
    · have y1 : (me != 0) = true := by simpa using y0
      have y2 : (me == 0) = false := by simpa using y0
      have HM0 : Hid (ml = []) := Lib.hid (by rw [HML.out, if_neg y0])
      obtain rfl : nl = 0 := by rw [← HNL.out, HM0.out]; rfl
      clear y0 HML
      go_wp2_with fail
      clear t0 a0 a1 a2 a3 a4 a5 q0 tlt alt qlt
      obtain ⟨wE, hwE⟩ : ∃ x, x = w91 := ⟨_, rfl⟩
      rw [← hwE] at Y5 HI5 ⊢
      clear hwE
      go_loopg [20, 103] n (fun g lv iv wr => ∃ j : Nat, Hid (j + g = n) ∧ iv = .int .i64 j ∧ lv = .slice none 0 0 ∧ Hid (Below wE.heap.size wE wr))
      case atStart => exact ⟨0, Lib.hid (Nat.zero_add _), rfl, rfl, Lib.hid (Below.refl _ _)⟩
      case round =>
        obtain ⟨j, Hj, rfl, rfl, HB⟩ := hrel
        have YR := Lib.hid (Y5.out.move HB.out)
        by_cases hj : j < n
        · obtain ⟨b, o, p, B9, m', c', k, f, g, no, D, q, d, rfl, hbS, hp, hP, hcell⟩ := (HT.out.under YR.out.x.below HS.out).at_ hj
          have g0 := hcell 0 (by omega); have g1 := hcell 1 (by omega); have g2 := hcell 2 (by omega); have g3 := hcell 3 (by omega); have g4 := hcell 4 (by omega); have g5 := hcell 5 (by omega); have g6 := hcell 6 (by omega); have g7 := hcell 7 (by omega); have g8 := hcell 8 (by omega); have g9 := hcell 9 (by omega); have g10 := hcell 10 (by omega); have g11 := hcell 11 (by omega); have g12 := hcell 12 (by omega); have g13 := hcell 13 (by omega)
          unfold pkRow ndRow at g0 g1 g2 g3 g4 g5 g6 g7 g8 g9 g10 g11 g12 g13
          simp only [List.getElem?_cons_zero, List.getElem?_cons_succ, Nat.add_zero] at g0 g1 g2 g3 g4 g5 g6 g7 g8 g9 g10 g11 g12 g13
          clear hcell hp hP
          go_wp2
          go_roundg (gk - 1)
          case measure => have := Hj.out; omega
          case rel => exact ⟨j + 1, Lib.hid (by have := Hj.out; omega), by go_num, rfl, Lib.hid (HB.out.alloc HB.out.size _)⟩
        · obtain rfl : n = j := by have := Hj.out; omega
          replace HI5 := Lib.hid (ints_up HI5.out HB.out)
          replace Y5 := YR
          clear YR
          have t0 := Y5.out.x.t.cell 0
          have a0 := Y5.out.x.a.cell 0; have a1 := Y5.out.x.a.cell 1; have a2 := Y5.out.x.a.cell 2; have a3 := Y5.out.x.a.cell 3; have a4 := Y5.out.x.a.cell 4; have a5 := Y5.out.x.a.cell 5
          have q0 := Y5.out.q.cell 0
          simp only [List.getElem?_cons_zero, List.getElem?_cons_succ] at t0 a0 a1 a2 a3 a4 a5 q0
          have tlt := Y5.out.x.t.lt
          have alt := Y5.out.x.a.lt
          have qlt := Y5.out.q.lt
          have heq := equal_int Am none 0 0 cm 0 ml ml _ _ HI5.out (by rw [HM0.out]; exact Row.nil_) (by unfold maxLen; omega) (by unfold maxLen; omega)
          rw [beq_self_eq_true] at heq
          have Heq := Lib.hid heq
          clear heq
          go_wp2_with (first | (go_at_call 15; refine Heq.out.mono ?_; rintro e w11 ⟨rfl, nq, rfl⟩; refine Hid.out ?_))
          refine Lib.hid ?_
          have Y6 := Lib.hid (Y5.out.move (below_drewN (Below.refl _ _) nq))
          clear Heq HI5 Y5
          clear t0 a0 a1 a2 a3 a4 a5 q0 tlt alt qlt
          have t0 := Y6.out.x.t.cell 0
          have a0 := Y6.out.x.a.cell 0; have a1 := Y6.out.x.a.cell 1; have a2 := Y6.out.x.a.cell 2; have a3 := Y6.out.x.a.cell 3; have a4 := Y6.out.x.a.cell 4; have a5 := Y6.out.x.a.cell 5
          have q0 := Y6.out.q.cell 0
          simp only [List.getElem?_cons_zero, List.getElem?_cons_succ] at t0 a0 a1 a2 a3 a4 a5 q0
          have tlt := Y6.out.x.t.lt
          have alt := Y6.out.x.a.lt
          have qlt := Y6.out.q.lt
          have hn2m : n2 ≤ maxLen := by unfold maxLen; omega
          by_cases hbig : 20000 < t.length
          · have hbig' : (20000 : Int) < (t.length : Int) := by omega
            have hmz := HMANY.out hbig
            simp only [Prod.mk.injEq] at hmz
            obtain ⟨rfl, rfl, rfl⟩ := hmz
            have hsm := rsameTree_any [] [] _ A2 none n2 c2 0 0 _ Y6.out.r RTree.nil_ (fun i hi => hi.2) hn2m (Nat.zero_le _)
            rw [show eqL samePk [] [] = true from rfl] at hsm
            have Hsm := Lib.hid hsm
            clear hsm hbig
            go_wp2_with (first | (go_at_call 18; refine Hsm.out.mono ?_; rintro e w12 ⟨rfl, hb12⟩; refine Hid.out ?_))
            refine Lib.hid ?_
            have HBZ := Lib.hid (Y6.out.x.below.trans (hb12.mono Y6.out.x.below.size))
            clear hb12
            go_wp2
            go_ret
            exact ⟨rfl, HBZ.out⟩
          · have hbig' : ¬ (20000 : Int) < (t.length : Int) := by omega
            have Hrd2 := Lib.hid (Hrd.out (by omega) _ (HLV.out.below Y6.out.x.below) (HMV.out.below Y6.out.x.below) (HMX.out.below Y6.out.x.below))
            clear hbig
            go_wp2_with (first | (go_at_call 29; refine Hrd2.out.mono ?_; rintro e w12 ⟨A8, n8, c8, rfl, hr8, hn8, hc8, hb8⟩; refine Hid.out ?_))
            refine Lib.hid ?_
            have Y7 := Lib.hid (Y6.out.move hb8)
            have HR7 : Hid (RTree w12 (fun i => w.heap.size ≤ i ∧ i < w12.heap.size) A8 n8 qs) := Lib.hid (hr8.more fun i hi => ⟨Nat.le_trans Y6.out.x.below.size hi.1, hi.2⟩)
            have hb9x := bel1 w12 (.cells #[.slice A8 n8 c8] 24)
            have Y8 := Lib.hid (Y7.out.move hb9x)
            have hsm := rsameTree_any qs qs _ A2 A8 n2 c2 n8 c8 _ Y8.out.r ((HR7.out.under hb9x fun i hi => hi.2).more fun i hi => ⟨hi.1, Nat.lt_of_lt_of_le hi.2 hb9x.size⟩) (fun i hi => hi.2) hn2m (Nat.le_trans hn8 hc8)
            rw [show eqL samePk qs qs = true from (eqL_iff fun _ _ => samePk_iff).2 rfl] at hsm
            have Hsm := Lib.hid hsm
            unfold maxLen at hc8
            clear hsm hb8 hr8 hb9x HR7 Hrd2 Y6
            clear t0 a0 a1 a2 a3 a4 a5 q0 tlt alt qlt
            have t0 := Y7.out.x.t.cell 0
            have a0 := Y7.out.x.a.cell 0; have a1 := Y7.out.x.a.cell 1; have a2 := Y7.out.x.a.cell 2; have a3 := Y7.out.x.a.cell 3; have a4 := Y7.out.x.a.cell 4; have a5 := Y7.out.x.a.cell 5
            have q0 := Y7.out.q.cell 0
            simp only [List.getElem?_cons_zero, List.getElem?_cons_succ] at t0 a0 a1 a2 a3 a4 a5 q0
            have tlt := Y7.out.x.t.lt
            have alt := Y7.out.x.a.lt
            have qlt := Y7.out.q.lt
            have hpk : ((pk : Int) == (pk : Int)) = true := by simp
            have hpf : ((pf : Int) == (pf : Int)) = true := by simp
            go_wp2_with (first | (go_at_call 18; refine Hsm.out.mono ?_; rintro e w13 ⟨rfl, hb13⟩; refine Hid.out ?_))
            refine Lib.hid ?_
            have HBZ := Lib.hid (Y8.out.x.below.trans (hb13.mono Y8.out.x.below.size))
            clear hb13
            go_wp2
            go_ret
            exact ⟨rfl, HBZ.out⟩
  · have z1 : (z != 0) = true := by simpa using z0
    have z2 : (z == 0) = false := by simpa using z0
    obtain rfl : tp = [] := by rw [HPT.out, if_neg z0]
    obtain rfl : sb = z := by rw [HCS.out, if_pos z0]
    obtain rfl : me = sb := by rw [HE.out, if_pos z0]
    have HM0 : Hid (ml = []) := Lib.hid (by rw [HML.out, if_neg z0])
    obtain rfl : nl = 0 := by rw [← HNL.out, HM0.out]; rfl
    clear z0 HPT HCS HE HML HZ8 Hrt Hrs Hra
    go_wp2_with (first | (go_at_call 7; refine (Hfo.out _ (HLV.out.below Y5.out.x.below) (HMV.out.below Y5.out.x.below)).mono ?_; rintro e w6 ⟨rfl, hb⟩; refine Hid.out ?_))
    refine Lib.hid ?_
    replace HI5 := Lib.hid (ints_up HI5.out hb)
    replace Y5 := Lib.hid (Y5.out.move hb)
    clear hb
    clear t0 a0 a1 a2 a3 a4 a5 q0 tlt alt qlt
    have t0 := Y5.out.x.t.cell 0
    have a0 := Y5.out.x.a.cell 0; have a1 := Y5.out.x.a.cell 1; have a2 := Y5.out.x.a.cell 2; have a3 := Y5.out.x.a.cell 3; have a4 := Y5.out.x.a.cell 4; have a5 := Y5.out.x.a.cell 5
    have q0 := Y5.out.q.cell 0
    simp only [List.getElem?_cons_zero, List.getElem?_cons_succ] at t0 a0 a1 a2 a3 a4 a5 q0
    have tlt := Y5.out.x.t.lt
    have alt := Y5.out.x.a.lt
    have qlt := Y5.out.q.lt
    go_wp2_with (first | (go_at_call 20; refine (Htc.out _ (HT.out.under Y5.out.x.below HS.out) (fun q hq => Nat.lt_of_lt_of_le (HS.out q hq) Y5.out.x.below.size)).mono ?_; rintro e w7 ⟨rfl, hb⟩; refine Hid.out ?_))
    refine Lib.hid ?_
    replace HI5 := Lib.hid (ints_up HI5.out hb)
    replace Y5 := Lib.hid (Y5.out.move hb)
    clear hb
    clear t0 a0 a1 a2 a3 a4 a5 q0 tlt alt qlt
    have t0 := Y5.out.x.t.cell 0
    have a0 := Y5.out.x.a.cell 0; have a1 := Y5.out.x.a.cell 1; have a2 := Y5.out.x.a.cell 2; have a3 := Y5.out.x.a.cell 3; have a4 := Y5.out.x.a.cell 4; have a5 := Y5.out.x.a.cell 5
    have q0 := Y5.out.q.cell 0
    simp only [List.getElem?_cons_zero, List.getElem?_cons_succ] at t0 a0 a1 a2 a3 a4 a5 q0
    have tlt := Y5.out.x.t.lt
    have alt := Y5.out.x.a.lt
    have qlt := Y5.out.q.lt
    go_wp2_with (first | (go_at_call 22; refine (Hst.out _ (HL.out.under Y5.out.x.below HS.out) (HM.out.under Y5.out.x.below HS.out) (fun q hq => Nat.lt_of_lt_of_le (HS.out q hq) Y5.out.x.below.size)).mono ?_; rintro e w8 ⟨rfl, hb⟩; refine Hid.out ?_))
    refine Lib.hid ?_
    replace HI5 := Lib.hid (ints_up HI5.out hb)
    replace Y5 := Lib.hid (Y5.out.move hb)
    clear hb
    clear t0 a0 a1 a2 a3 a4 a5 q0 tlt alt qlt
    have t0 := Y5.out.x.t.cell 0
    have a0 := Y5.out.x.a.cell 0; have a1 := Y5.out.x.a.cell 1; have a2 := Y5.out.x.a.cell 2; have a3 := Y5.out.x.a.cell 3; have a4 := Y5.out.x.a.cell 4; have a5 := Y5.out.x.a.cell 5
    have q0 := Y5.out.q.cell 0
    simp only [List.getElem?_cons_zero, List.getElem?_cons_succ] at t0 a0 a1 a2 a3 a4 a5 q0
    have tlt := Y5.out.x.t.lt
    have alt := Y5.out.x.a.lt
    have qlt := Y5.out.q.lt
    go_wp2_with (first | (go_at_call 23; refine (Hsr.out _ (HL.out.under Y5.out.x.below HS.out) (HM.out.under Y5.out.x.below HS.out) (fun q hq => Nat.lt_of_lt_of_le (HS.out q hq) Y5.out.x.below.size)).mono ?_; rintro e w9 ⟨rfl, hb⟩; refine Hid.out ?_))
    refine Lib.hid ?_
    replace HI5 := Lib.hid (ints_up HI5.out hb)
    replace Y5 := Lib.hid (Y5.out.move hb)
    clear hb
    clear t0 a0 a1 a2 a3 a4 a5 q0 tlt alt qlt
    have t0 := Y5.out.x.t.cell 0
    have a0 := Y5.out.x.a.cell 0; have a1 := Y5.out.x.a.cell 1; have a2 := Y5.out.x.a.cell 2; have a3 := Y5.out.x.a.cell 3; have a4 := Y5.out.x.a.cell 4; have a5 := Y5.out.x.a.cell 5
    have q0 := Y5.out.q.cell 0
    simp only [List.getElem?_cons_zero, List.getElem?_cons_succ] at t0 a0 a1 a2 a3 a4 a5 q0
    have tlt := Y5.out.x.t.lt
    have alt := Y5.out.x.a.lt
    have qlt := Y5.out.q.lt
    go_wp2_with (first | (go_at_call 25; refine (Hcs.out _ (HT.out.under Y5.out.x.below HS.out) (HL.out.under Y5.out.x.below HS.out) (fun q hq => Nat.lt_of_lt_of_le (HS.out q hq) Y5.out.x.below.size)).mono ?_; rintro e w10 ⟨rfl, hb⟩; refine Hid.out ?_))
    refine Lib.hid ?_
    replace HI5 := Lib.hid (ints_up HI5.out hb)
    replace Y5 := Lib.hid (Y5.out.move hb)
    clear hb
    clear t0 a0 a1 a2 a3 a4 a5 q0 tlt alt qlt
    have t0 := Y5.out.x.t.cell 0
    have a0 := Y5.out.x.a.cell 0; have a1 := Y5.out.x.a.cell 1; have a2 := Y5.out.x.a.cell 2; have a3 := Y5.out.x.a.cell 3; have a4 := Y5.out.x.a.cell 4; have a5 := Y5.out.x.a.cell 5
    have q0 := Y5.out.q.cell 0
    simp only [List.getElem?_cons_zero, List.getElem?_cons_succ] at t0 a0 a1 a2 a3 a4 a5 q0
    have tlt := Y5.out.x.t.lt
    have alt := Y5.out.x.a.lt
    have qlt := Y5.out.q.lt
    go_wp2_with fail
    clear t0 a0 a1 a2 a3 a4 a5 q0 tlt alt qlt
    obtain ⟨wE, hwE⟩ : ∃ x, x = w10 := ⟨_, rfl⟩
    rw [← hwE] at Y5 HI5 ⊢
    clear hwE
    go_loopg [20, 103] n (fun g lv iv wr => ∃ j : Nat, Hid (j + g = n) ∧ iv = .int .i64 j ∧ lv = .slice none 0 0 ∧ Hid (Below wE.heap.size wE wr))
    case atStart => exact ⟨0, Lib.hid (Nat.zero_add _), rfl, rfl, Lib.hid (Below.refl _ _)⟩
    case round =>
      obtain ⟨j, Hj, rfl, rfl, HB⟩ := hrel
      have YR := Lib.hid (Y5.out.move HB.out)
      by_cases hj : j < n
      · obtain ⟨b, o, p, B9, m', c', k, f, g, no, D, q, d, rfl, hbS, hp, hP, hcell⟩ := (HT.out.under YR.out.x.below HS.out).at_ hj
        have g0 := hcell 0 (by omega); have g1 := hcell 1 (by omega); have g2 := hcell 2 (by omega); have g3 := hcell 3 (by omega); have g4 := hcell 4 (by omega); have g5 := hcell 5 (by omega); have g6 := hcell 6 (by omega); have g7 := hcell 7 (by omega); have g8 := hcell 8 (by omega); have g9 := hcell 9 (by omega); have g10 := hcell 10 (by omega); have g11 := hcell 11 (by omega); have g12 := hcell 12 (by omega); have g13 := hcell 13 (by omega)
        unfold pkRow ndRow at g0 g1 g2 g3 g4 g5 g6 g7 g8 g9 g10 g11 g12 g13
        simp only [List.getElem?_cons_zero, List.getElem?_cons_succ, Nat.add_zero] at g0 g1 g2 g3 g4 g5 g6 g7 g8 g9 g10 g11 g12 g13
        clear hcell hp hP
        go_wp2
        go_roundg (gk - 1)
        case measure => have := Hj.out; omega
        case rel => exact ⟨j + 1, Lib.hid (by have := Hj.out; omega), by go_num, rfl, Lib.hid (HB.out.alloc HB.out.size _)⟩
      · obtain rfl : n = j := by have := Hj.out; omega
        replace HI5 := Lib.hid (ints_up HI5.out HB.out)
        replace Y5 := YR
        clear YR
        have t0 := Y5.out.x.t.cell 0
        have a0 := Y5.out.x.a.cell 0; have a1 := Y5.out.x.a.cell 1; have a2 := Y5.out.x.a.cell 2; have a3 := Y5.out.x.a.cell 3; have a4 := Y5.out.x.a.cell 4; have a5 := Y5.out.x.a.cell 5
        have q0 := Y5.out.q.cell 0
        simp only [List.getElem?_cons_zero, List.getElem?_cons_succ] at t0 a0 a1 a2 a3 a4 a5 q0
        have tlt := Y5.out.x.t.lt
        have alt := Y5.out.x.a.lt
        have qlt := Y5.out.q.lt
        have heq := equal_int Am none 0 0 cm 0 ml ml _ _ HI5.out (by rw [HM0.out]; exact Row.nil_) (by unfold maxLen; omega) (by unfold maxLen; omega)
        rw [beq_self_eq_true] at heq
        have Heq := Lib.hid heq
        clear heq
        go_wp2_with (first | (go_at_call 15; refine Heq.out.mono ?_; rintro e w11 ⟨rfl, nq, rfl⟩; refine Hid.out ?_))
        refine Lib.hid ?_
        have Y6 := Lib.hid (Y5.out.move (below_drewN (Below.refl _ _) nq))
        clear Heq HI5 Y5
        clear t0 a0 a1 a2 a3 a4 a5 q0 tlt alt qlt
        have t0 := Y6.out.x.t.cell 0
        have a0 := Y6.out.x.a.cell 0; have a1 := Y6.out.x.a.cell 1; have a2 := Y6.out.x.a.cell 2; have a3 := Y6.out.x.a.cell 3; have a4 := Y6.out.x.a.cell 4; have a5 := Y6.out.x.a.cell 5
        have q0 := Y6.out.q.cell 0
        simp only [List.getElem?_cons_zero, List.getElem?_cons_succ] at t0 a0 a1 a2 a3 a4 a5 q0
        have tlt := Y6.out.x.t.lt
        have alt := Y6.out.x.a.lt
        have qlt := Y6.out.q.lt
        have hn2m : n2 ≤ maxLen := by unfold maxLen; omega
        by_cases hbig : 20000 < t.length
        · have hbig' : (20000 : Int) < (t.length : Int) := by omega
          have hmz := HMANY.out hbig
          simp only [Prod.mk.injEq] at hmz
          obtain ⟨rfl, rfl, rfl⟩ := hmz
          have hsm := rsameTree_any [] [] _ A2 none n2 c2 0 0 _ Y6.out.r RTree.nil_ (fun i hi => hi.2) hn2m (Nat.zero_le _)
          rw [show eqL samePk [] [] = true from rfl] at hsm
          have Hsm := Lib.hid hsm
          clear hsm hbig
          go_wp2_with (first | (go_at_call 18; refine Hsm.out.mono ?_; rintro e w12 ⟨rfl, hb12⟩; refine Hid.out ?_))
          refine Lib.hid ?_
          have HBZ := Lib.hid (Y6.out.x.below.trans (hb12.mono Y6.out.x.below.size))
          clear hb12
          go_wp2
          go_ret
          exact ⟨rfl, HBZ.out⟩
        · have hbig' : ¬ (20000 : Int) < (t.length : Int) := by omega
          have Hrd2 := Lib.hid (Hrd.out (by omega) _ (HLV.out.below Y6.out.x.below) (HMV.out.below Y6.out.x.below) (HMX.out.below Y6.out.x.below))
          clear hbig
          go_wp2_with (first | (go_at_call 29; refine Hrd2.out.mono ?_; rintro e w12 ⟨A8, n8, c8, rfl, hr8, hn8, hc8, hb8⟩; refine Hid.out ?_))
          refine Lib.hid ?_
          have Y7 := Lib.hid (Y6.out.move hb8)
          have HR7 : Hid (RTree w12 (fun i => w.heap.size ≤ i ∧ i < w12.heap.size) A8 n8 qs) := Lib.hid (hr8.more fun i hi => ⟨Nat.le_trans Y6.out.x.below.size hi.1, hi.2⟩)
          have hb9x := bel1 w12 (.cells #[.slice A8 n8 c8] 24)
          have Y8 := Lib.hid (Y7.out.move hb9x)
          have hsm := rsameTree_any qs qs _ A2 A8 n2 c2 n8 c8 _ Y8.out.r ((HR7.out.under hb9x fun i hi => hi.2).more fun i hi => ⟨hi.1, Nat.lt_of_lt_of_le hi.2 hb9x.size⟩) (fun i hi => hi.2) hn2m (Nat.le_trans hn8 hc8)
          rw [show eqL samePk qs qs = true from (eqL_iff fun _ _ => samePk_iff).2 rfl] at hsm
          have Hsm := Lib.hid hsm
          unfold maxLen at hc8
          clear hsm hb8 hr8 hb9x HR7 Hrd2 Y6
          clear t0 a0 a1 a2 a3 a4 a5 q0 tlt alt qlt
          have t0 := Y7.out.x.t.cell 0
          have a0 := Y7.out.x.a.cell 0; have a1 := Y7.out.x.a.cell 1; have a2 := Y7.out.x.a.cell 2; have a3 := Y7.out.x.a.cell 3; have a4 := Y7.out.x.a.cell 4; have a5 := Y7.out.x.a.cell 5
          have q0 := Y7.out.q.cell 0
          simp only [List.getElem?_cons_zero, List.getElem?_cons_succ] at t0 a0 a1 a2 a3 a4 a5 q0
          have tlt := Y7.out.x.t.lt
          have alt := Y7.out.x.a.lt
          have qlt := Y7.out.q.lt
          have hpk : ((pk : Int) == (pk : Int)) = true := by simp
          have hpf : ((pf : Int) == (pf : Int)) = true := by simp
          go_wp2_with (first | (go_at_call 18; refine Hsm.out.mono ?_; rintro e w13 ⟨rfl, hb13⟩; refine Hid.out ?_))
          refine Lib.hid ?_
          have HBZ := Lib.hid (Y8.out.x.below.trans (hb13.mono Y8.out.x.below.size))
          clear hb13
          go_wp2
          go_ret
          exact ⟨rfl, HBZ.out⟩
end Go.Proofs.YthpkffeiehnamaaGreatDoor
