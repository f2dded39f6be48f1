/- Parts of the proof: walks and plain laws, side by side. -/
import Derived.Test.YtpipgffbhpnmkaaGreatDoorM27
import Derived.BigRegion
import Derived.Deep.RegionLawGrows
import Derived.Deep.RegionLaw
set_option linter.unusedVariables false
set_option linter.unusedSimpArgs false
set_option linter.unusedSectionVars false
namespace Go.Proofs.YtpipgffbhpnmkaaGreatDoor
/- The document's own Planned, walked. -/
section
open Go.RowKit Qm

def PlannedP (ps : List Pk) (l1 l : List Mem) (w : World) (e : Ending) (w' : World) : Prop :=
 ∃ v cs, e = .returned v ∧ Ga (w.heap.size + 1) v cs (planL ps l1 l) w' ∧ Below w.heap.size w w'
set_option maxRecDepth 100000 in
set_option maxHeartbeats 12800000 in
theorem rplanned_any (ps : List Pk) (l1 l : List Mem) (S : Nat → Prop) (A B1 B : Option Addr) (n c q1 d1 q d : Nat) (w : World) (C1 : Cx ps l1 S A n c B1 q1 d1 w) (C : Cx ps l S A n c B q d w) (hc1 : ckSet ps l1 = 0) (hc2 : ckSet ps l = 0) :
  Calls Tryz.prog 28 #[.agg #[.slice A n c], .slice B1 q1 d1, .slice B q d] w (PlannedP ps l1 l w) := by
 have hmm := @run_makeMap Tryz.prog
 have X0 : Hid (Gy w A n c (.slice none 0 0) [] (goneAc ps (l1.take 0) l) (w.alloc (.cells #[.slice A n c] 24))) := qh ⟨Ga.nil_ (by simp), Tx.new w A n c⟩
 have HC1 := qh C1; have HC := qh C
 have Hpl := qh C.t.len
 have Hl1 := qh C1.s.len
 have Hll := qh C.s.len
 have hn8 := C.n8
 have hq1 : q1 ≤ 8 := by rw [← Hl1.out]; exact set_few hc1 (by rw [Hpl.out]; exact hn8)
 have hq : q ≤ 8 := by rw [← Hll.out]; exact set_few hc2 (by rw [Hpl.out]; exact hn8)
 have HCK := qh hc2
 have h1 := C1.qd; have h2 := C1.dm; have h3 := C.qd; have h4 := C.dm; have hnc := C.nc; have hcm := C.cm
 unfold maxLen at h2 h4 hcm
 obtain ⟨i0, hi, hz0, hz1, hz2⟩ := act_info4
 have Hi := qh hi; have Hz0 := qh hz0; have Hz1 := qh hz1; have Hz2 := qh hz2
 obtain ⟨j0, hj, hy0, hy1, hy2⟩ := info_partsC int_infoO
 have Hj0 := qh hj; have Hy0 := qh hy0; have Hy1 := qh hy1; have Hy2 := qh hy2
 clear C C1 hi hz0 hz1 hz2 hj hy0 hy1 hy2 hc1 hc2
 go_enter Tryz.func28, Tryz.ntmps28
 go_upto_region 3 with fail
 generalize w.alloc (.cells _ _) = w2 at X0 ⊢
 go_loopg [7, 31] q1 (fun g va iv wr => ∃ (j : Nat) (cs : List (List Value)), Hid (j + g = q1) ∧ iv = .int .i64 j ∧ Hid (Gy w A n c va cs (goneAc ps (l1.take j) l) wr))
 case atStart => exact ⟨0, [], qh (Nat.zero_add _), rfl, X0⟩
 case round =>
  obtain ⟨g9, rfl⟩ : ∃ x : Nat, x = gk := ⟨_, rfl⟩
  obtain ⟨wo, rfl⟩ : ∃ x : World, x = wr := ⟨_, rfl⟩
  obtain ⟨j, cs, Hj, rfl, XR⟩ := hrel
  clear X0
  by_cases hj : j < q1
  ·obtain ⟨b, o, m, E, u, v0, rfl, hbS, hm, huv, hv, hbo, g0, g1⟩ := (HC1.out.s.under XR.out.t.below HC1.out.lt).at_ hj
   have hmem := List.mem_of_getElem? hm
   obtain ⟨hp0, hp1, _⟩ := HC1.out.ok m hmem
   have Hto := qh (goneAc_take (ps := ps) (l := l) hm)
   have Hgl := qh (goneAc_len (ps := ps) (there := l1) (l := l) (j := j))
   have hpl := Hpl.out
   have hsk : ∀ y, sameKey ps m y = (decide ((pkOf ps y.pl).nm = (pkOf ps m.pl).nm) && decide ((pkOf ps y.pl).slot = (pkOf ps m.pl).slot)) := fun y => rfl
   have HBO := qh (hbo.keep (w' := w) fun p hp => (XR.out.t.below.cell (HC1.out.lt _ hp)).symm)
   obtain ⟨pl, on⟩ := m
   dsimp only at g0 hp0 hp1 hsk HBO
   obtain ⟨jp, rfl⟩ : ∃ jp : Nat, pl = jp := ⟨pl.toNat, by omega⟩
   have hjn : jp < n := by omega
   obtain ⟨b2, o2, p, F, fn, fc, kd, pa, f, no, E2, r2, d2, rfl, hbS2, hp, hP, hcell⟩ := (HC.out.t.under XR.out.t.below HC.out.lt).at_ hjn
   have hpe := pkOf_at hp
   rw [hpe] at hsk
   have HSK := qh hsk
   have h0 := hcell 0 (by omega); have h1 := hcell 1 (by omega); have h2 := hcell 2 (by omega); have h3 := hcell 3 (by omega); have h4 := hcell 4 (by omega); have h5 := hcell 5 (by omega); have h6 := hcell 6 (by omega); have h7 := hcell 7 (by omega); have h8 := hcell 8 (by omega); have h9 := hcell 9 (by omega); have h10 := hcell 10 (by omega); have h11 := hcell 11 (by omega); have h12 := hcell 12 (by omega); have h13 := hcell 13 (by omega)
   unfold pkRow ndRow at h0 h1 h2 h3 h4 h5 h6 h7 h8 h9 h10 h11 h12 h13
   simp only [List.getElem?_cons_zero, List.getElem?_cons_succ, Nat.add_zero] at h0 h1 h2 h3 h4 h5 h6 h7 h8 h9 h10 h11 h12 h13
   have hbl : b < wo.heap.size := ql (HC1.out.lt _ hbS) XR.out.t.below.size
   have hbl2 : b2 < wo.heap.size := ql (HC.out.lt _ hbS2) XR.out.t.below.size
   have hbl3 : b2 < wo.heap.size + 1 := by omega
   have hjn1 : (jp : Int) < n := by omega
   have hjn0 : (0 : Int) ≤ (jp : Int) := by omega
   have hj1 : (j : Int) < q1 := by omega
   have hj0 : (0 : Int) ≤ (j : Int) := by omega
   have ht0 := XR.out.t.whole.cell 0
   simp only [List.getElem?_cons_zero] at ht0
   have htl := XR.out.t.whole.lt
   have htl1 : w.heap.size < wo.heap.size + 1 := by omega
   have hb2 : Below wo.heap.size wo ((wo.alloc (.cells #[.int .i64 (jp : Int), .slice E u v0] 33)).alloc (.cells (pkRow p F fn fc (ndRow kd pa f no E2 r2 d2)).toArray 42)) := ((Below.refl _ wo).alloc (qr _) _).alloc (by simp) _
   have X2 := qh (XR.out.move hb2)
   have M2 := qh ((Whole.new wo wo.heap.size 33 [.int .i64 (jp : Int), .slice E u v0] rfl).alloc (.cells (pkRow p F fn fc (ndRow kd pa f no E2 r2 d2)).toArray 42))
   have P2 := qh (Whole.new (wo.alloc (.cells #[.int .i64 (jp : Int), .slice E u v0] 33)) (wo.heap.size + 1) 42 (pkRow p F fn fc (ndRow kd pa f no E2 r2 d2)) (by simp))
   obtain ⟨nm2, ver2, slot2, fs2, nd2⟩ := p
   unfold pkRow ndRow at X2 M2 hb2 P2
   dsimp only at h0 h1 h2 h3 h4 X2 M2 hb2 P2 HSK
   have HB2 := qh hb2
   clear hcell hb2 hP hp hpe hbo hm hmem hsk
   go_upto_region 8 with fail
   generalize World.alloc (World.alloc wo _) _ = w5 at X2 M2 P2 HB2 ⊢
   clear h0 h1 h2 h3 h4 h5 h6 h7 h8 h9 h10 h11 h12 h13 g0 g1 ht0 htl htl1
   go_loopg [11, 43] q (fun g va iv wr => ∃ (k : Nat), Hid (k + g = q) ∧ iv = .int .i64 k ∧ va = .bool ((l.take k).any (sameKey ps ⟨(jp : Int), on⟩)) ∧ Hid (Below w5.heap.size w5 wr))
   case atStart => exact ⟨0, qh (Nat.zero_add _), rfl, rfl, qh (Below.refl _ _)⟩
   case round =>
    obtain ⟨g8, rfl⟩ : ∃ x : Nat, x = gk := ⟨_, rfl⟩
    obtain ⟨wi, rfl⟩ : ∃ x : World, x = wr := ⟨_, rfl⟩
    obtain ⟨k, Hk, rfl, rfl, HBi⟩ := hrel
    have Xi := qh (X2.out.move HBi.out)
    by_cases hk : k < q
    ·obtain ⟨b3, o3, mo, E3, u3, v3, rfl, hbS3, hm3, huv3, hv3, hon3, k0, k1⟩ := (HC.out.s.under Xi.out.t.below HC.out.lt).at_ hk
     obtain ⟨hp30, hp31, _⟩ := HC.out.ok mo (List.mem_of_getElem? hm3)
     have htk : (l.take (k + 1)).any (sameKey ps ⟨(jp : Int), on⟩) = ((l.take k).any (sameKey ps ⟨(jp : Int), on⟩) || sameKey ps ⟨(jp : Int), on⟩ mo) := by
      obtain ⟨hkl, rfl⟩ := List.getElem?_eq_some_iff.1 hm3
      rw [List.take_succ_eq_append_getElem hkl, List.any_append]; simp
     rw [HSK.out mo] at htk
     have hpl := Hpl.out
     obtain ⟨pl3, on3⟩ := mo
     dsimp only at k0 hp30 hp31 htk
     obtain ⟨jq, rfl⟩ : ∃ jq : Nat, pl3 = jq := ⟨pl3.toNat, by omega⟩
     have hjqn : jq < n := by omega
     obtain ⟨b4, o4, p4, F4, fn4, fc4, kd4, pa4, f4, no4, E4, r4, d4, hb4e, hbS4, hp4, hP4, hcell⟩ := (HC.out.t.under Xi.out.t.below HC.out.lt).at_ hjqn
     injection hb4e with hb4e
     injection hb4e with hb4a hb4b
     subst hb4a hb4b
     rw [pkOf_at hp4] at htk
     have h0 := hcell 0 (by omega); have h1 := hcell 1 (by omega); have h2 := hcell 2 (by omega); have h3 := hcell 3 (by omega); have h4 := hcell 4 (by omega); have h5 := hcell 5 (by omega); have h6 := hcell 6 (by omega); have h7 := hcell 7 (by omega); have h8 := hcell 8 (by omega); have h9 := hcell 9 (by omega); have h10 := hcell 10 (by omega); have h11 := hcell 11 (by omega); have h12 := hcell 12 (by omega); have h13 := hcell 13 (by omega)
     unfold pkRow ndRow at h0 h1 h2 h3 h4 h5 h6 h7 h8 h9 h10 h11 h12 h13
     simp only [List.getElem?_cons_zero, List.getElem?_cons_succ, Nat.add_zero] at h0 h1 h2 h3 h4 h5 h6 h7 h8 h9 h10 h11 h12 h13
     obtain ⟨nm3, ver3, slot3, fs3, nd3⟩ := p4
     dsimp only at h0 h1 h2 h3 h4 htk
     have HTK := qh htk
     have hs5 : wo.heap.size + 1 + 1 ≤ wi.heap.size := by have := P2.out.lt; have := HBi.out.size; omega
     have hbl4 : b2 < wi.heap.size := by omega
     have hbl5 : b2 < wi.heap.size + 1 := by omega
     have hbl6 : b3 < wi.heap.size := ql (HC.out.lt _ hbS3) Xi.out.t.below.size
     have hb6 : Below wi.heap.size wi ((wi.alloc (.cells #[.int .i64 (jq : Int), .slice E3 u3 v3] 33)).alloc (.cells #[.string ⟨nm3.toArray⟩, .int .i64 ver3, .int .i64 slot3, .slice F4 fn4 fc4, .int .i64 kd4, .string ⟨pa4.nm.toArray⟩, .int .i64 pa4.op, .int .i64 pa4.ver, .int .i64 pa4.slot, .string ⟨pa4.fl.toArray⟩, .bool pa4.on, .string ⟨f4.toArray⟩, .bool no4, .slice E4 r4 d4] 42)) := ((Below.refl _ wi).alloc (qr _) _).alloc (by simp) _
     have HB6 := qh (HBi.out.trans (hb6.mono HBi.out.size))
     have q0 := (P2.out.below HBi.out P2.out.lt).cell 0; have q2 := (P2.out.below HBi.out P2.out.lt).cell 2
     have plt := (P2.out.below HBi.out P2.out.lt).lt
     have ht0 := Xi.out.t.whole.cell 0
     have htl := Xi.out.t.whole.lt
     have htl1 : w.heap.size < wi.heap.size + 1 := by omega
     have plt1 : wo.heap.size + 1 < wi.heap.size + 1 := by omega
     simp only [qgz, qgs] at q0 q2 ht0
     have hk1 : (k : Int) < q := by omega
     have hk0 : (0 : Int) ≤ (k : Int) := by omega
     have hjq1 : (jq : Int) < n := by omega
     have hjq0 : (0 : Int) ≤ (jq : Int) := by omega
     clear hcell hb6 hp4 hP4 hon3 hm3 htk
     generalize (l.take k).any (sameKey ps ⟨(jp : Int), on⟩) = r at HTK ⊢
     cases r
     ·by_cases e1 : nm3 = nm2
      ·have e1' : (nm3 == nm2) = true := by simpa using e1
       by_cases e2 : slot3 = slot2
       ·have e2' : (slot3 == slot2) = true := by simpa using e2
        have HN : Hid ((l.take (k + 1)).any (sameKey ps ⟨(jp : Int), on⟩) = true) := qh (by rw [HTK.out, decide_eq_true e1, decide_eq_true e2]; rfl)
        clear e1 e2
        go_wp2
        go_roundg (g8 - 1)
        case measure => have := Hk.out; omega
        case rel => exact ⟨k + 1, qh (by have := Hk.out; omega), by go_num, by rw [HN.out], HB6⟩
       ·have e2' : (slot3 == slot2) = false := by simpa using e2
        have HN : Hid ((l.take (k + 1)).any (sameKey ps ⟨(jp : Int), on⟩) = false) := qh (by rw [HTK.out, decide_eq_false e2, Bool.and_false]; rfl)
        clear e1 e2
        go_wp2
        go_roundg (g8 - 1)
        case measure => have := Hk.out; omega
        case rel => exact ⟨k + 1, qh (by have := Hk.out; omega), by go_num, by rw [HN.out], HB6⟩
      ·have e1' : (nm3 == nm2) = false := by simpa using e1
       have HN : Hid ((l.take (k + 1)).any (sameKey ps ⟨(jp : Int), on⟩) = false) := qh (by rw [HTK.out, decide_eq_false e1, Bool.false_and]; rfl)
       clear e1
       go_wp2
       go_roundg (g8 - 1)
       case measure => have := Hk.out; omega
       case rel => exact ⟨k + 1, qh (by have := Hk.out; omega), by go_num, by rw [HN.out], HB6⟩
     ·have HN : Hid ((l.take (k + 1)).any (sameKey ps ⟨(jp : Int), on⟩) = true) := qh (by rw [HTK.out]; rfl)
      go_wp2
      go_roundg (g8 - 1)
      case measure => have := Hk.out; omega
      case rel => exact ⟨k + 1, qh (by have := Hk.out; omega), by go_num, by rw [HN.out], HB6⟩
    ·obtain rfl : q = k := by have := Hk.out; omega
     rw [List.take_of_length_le (by rw [Hll.out]; exact qr _)]
     obtain ⟨r, hr⟩ : ∃ x, l.any (sameKey ps ⟨(jp : Int), on⟩) = x := ⟨_, rfl⟩
     rw [hr] at Hto ⊢
     clear hr
     cases r
     ·have m0 := (M2.out.below HBi.out M2.out.lt).cell 0; have m1 := (M2.out.below HBi.out M2.out.lt).cell 1
      have mlt := (M2.out.below HBi.out M2.out.lt).lt
      simp only [qgz, qgs] at m0 m1
      have HRA : Hid (RAct wi (fun k => k < w.heap.size + 1) [.bool true, .int .i64 (jp : Int), .slice E u v0, .int .i64 0] ⟨true, ⟨(jp : Int), on⟩, 0⟩) := qh ⟨E, u, v0, rfl, huv, hv, Row.more (Row.below HBO.out Xi.out.t.below HC1.out.lt) fun k hk => by have := HC1.out.lt k hk; omega⟩
      have HNC := qh (cells_new wi wi.heap.size [.bool true, .int .i64 (jp : Int), .slice E u v0, .int .i64 0] 48 rfl)
      have HOW := qh (Xi.out.g.own.alloc (.cells #[.bool true, .int .i64 (jp : Int), .slice E u v0, .int .i64 0] 48))
      have HSZ := qh Xi.out.t.whole.lt
      have hgl := Hgl.out
      go_wp2_with (at_builtin; refine wpList_append_own_at _ rfl _ _ 26 rfl (w.heap.size + 1) 48 i0 (.agg #[.bool false, .int .i64 0, .slice none 0 0, .int .i64 0]) 4 48 Tryz.underlying26 Hi.out Hz0.out Hz1.out Hz2.out rfl (by decide) _ _ _ rfl HOW.out ⟨wi.heap.size, 0, none⟩ 1 1 [.bool true, .int .i64 (jp : Int), .slice E u v0, .int .i64 0] rfl rfl HNC.out (by simp [Value.oneCell']) (by unfold maxLen; omega) (by omega) (by have := HSZ.out; simp; omega) ?_)
      intro v' w8 hown8 hg8 _ hv8
      have X8 : Hid (Gy w (some ⟨b2, o2, none⟩) n c v' (cs ++ [[.bool true, .int .i64 (jp : Int), .slice E u v0, .int .i64 0]]) (goneAc ps (l1.take (j + 1)) l) w8) := qh (by rw [Hto.out]; exact Xi.out.push HRA.out rfl hown8 hg8)
      clear hown8 hg8 hv8 HRA HNC HOW
      go_wp2
      go_roundg (g9 - 1)
      case measure => have := Hj.out; omega
      case rel => exact ⟨j + 1, _, qh (by have := Hj.out; omega), by go_num, X8⟩
     ·have HNE : Hid (goneAc ps (l1.take (j + 1)) l = goneAc ps (l1.take j) l) := qh Hto.out
      have X5 : Hid (Gy w (some ⟨b2, o2, none⟩) n c u7 cs (goneAc ps (l1.take (j + 1)) l) wi) := qh (by rw [HNE.out]; exact Xi.out)
      go_wp2
      go_roundg (g9 - 1)
      case measure => have := Hj.out; omega
      case rel => exact ⟨j + 1, cs, qh (by have := Hj.out; omega), by go_num, X5⟩
  ·obtain rfl : q1 = j := by have := Hj.out; omega
   have HX : Hid (Gy w A n c u7 cs (goneAc ps l1 l) wo) := qh (by
    have h := XR.out
    rw [List.take_of_length_le (by rw [Hl1.out]; exact qr _)] at h
    exact h)
   clear XR
   have HLO := qh (fun (wx : World) (hb : Below w.heap.size w wx) => rleanson_any ps l S A B n c q d wx (HC.out.t.under hb HC.out.lt) hnc (by unfold maxLen; omega) (HC.out.s.under hb HC.out.lt) h3 (by unfold maxLen; omega) (fun k hk => ql (HC.out.lt k hk) hb.size) HCK.out)
   have HLO1 := qh (HLO.out wo HX.out.t.below)
   have ht0 := HX.out.t.whole.cell 0
   have htl := HX.out.t.whole.lt
   simp only [List.getElem?_cons_zero] at ht0
   have hj1 : ¬ (q1 : Int) < q1 := by omega
   clear HLO
   go_upto_region 19 with (first | (go_at_call 24; refine HLO1.out.mono ?_; rintro en w3 ⟨LA, Lc, rfl, hrl, hlc1, hlc2, hb3⟩; refine Hid.out ?_))
   refine qh ?_
   have X3 := qh (HX.out.move hb3)
   have HRL := qh hrl
   have HB3 := qh hb3
   have HOL := qh (fun k (e : u7.ownBlock = some k) => HX.out.g.own.lt k e)
   clear hrl hb3 HLO1 HX
   go_upto_region 19 with fail
   have hal2 : Below w3.heap.size w3 ((w3.alloc (.cells #[.slice LA q Lc] 55)).alloc (.cells #[.slice none 0 0] 60)) := ((Below.refl _ w3).alloc (qr _) _).alloc (by simp) _
   have OB0 := qh ((Whole.new w3 w3.heap.size 55 [.slice LA q Lc] rfl).alloc (.cells #[.slice none 0 0] 60))
   have FB0 := qh (Whole.new (w3.alloc (.cells #[.slice LA q Lc] 55)) (w3.heap.size + 1) 60 [.slice none 0 0] (by simp))
   have HB30 := qh hal2
   clear hal2
   generalize World.alloc (World.alloc w3 _) _ = w4 at OB0 FB0 HB30 ⊢
   obtain ⟨old, hold⟩ : ∃ x, oldB l1 l = x := ⟨_, rfl⟩
   have HOLD := qh hold
   clear hold
   go_loopg [82] q (fun g iv wr => ∃ (k : Nat) (FA : Option Addr) (fc : Nat), Hid (k + g = q) ∧ iv = .int .i64 k ∧ Hid (Whole wr w3.heap.size 55 [.slice LA q Lc]) ∧ Hid (Whole wr (w3.heap.size + 1) 60 [.slice FA (freshTo old k).length fc]) ∧ Hid (wr.ownsRow w3.heap.size 3 1 (.slice FA (freshTo old k).length fc) (freshTo old k).length ((freshTo old k).map fun (k : Nat) => Value.int .i64 (k : Int))) ∧ Hid (Below w3.heap.size w3 wr))
   case atStart => exact ⟨0, none, 0, qh (Nat.zero_add _), rfl, OB0, FB0, qh (World.ownsRow_nil _ _ _ _), HB30⟩
   case round =>
    obtain ⟨g8, rfl⟩ : ∃ x : Nat, x = gk := ⟨_, rfl⟩
    obtain ⟨wi, rfl⟩ : ∃ x : World, x = wr := ⟨_, rfl⟩
    obtain ⟨k, FA, fc, Hk, rfl, OB, FB, FO, HBi⟩ := hrel
    clear OB0 FB0 HB30
    have Xi := qh (X3.out.move HBi.out)
    have hlF := freshTo_len (done := old) (k := k)
    obtain ⟨LN, hLN⟩ : ∃ x, (freshTo old k).length = x := ⟨_, rfl⟩
    have HLN := qh hLN
    rw [hLN] at FB FO hlF
    clear hLN
    by_cases hk : k < q
    ·obtain ⟨b3, o3, mo, E3, u3, v3, rfl, hbS3, hm3, huv3, hv3, hon3, k0, k1⟩ := (HC.out.s.under Xi.out.t.below HC.out.lt).at_ hk
     have hmk := memAt_at hm3
     have hal : Below wi.heap.size wi (wi.alloc (.cells #[.int .i64 mo.pl, .slice E3 u3 v3] 33)) := (Below.refl _ wi).alloc (qr _) _
     have HW6 := qh (Xi.out.t.below.trans (hal.mono Xi.out.t.below.size))
     have M6 := Whole.new wi wi.heap.size 33 [.int .i64 mo.pl, .slice E3 u3 v3] rfl
     have hcf := containsF_M (RMem w S) (fun y => decide (mo = y)) B1 q1 d1 l1 59 #[.pointer (some ⟨wi.heap.size, 0, none⟩)] _ S (RSeq.keep HC1.out.s (fun p hp => HW6.out.cell (HC1.out.lt _ hp)) fun _ _ h => h) (fun x hx => ql (HC1.out.lt x hx) HW6.out.size) (by unfold maxLen; omega)
      ⟨fun args W => by kernel_rfl, fun y hy cx W hb hr => rplan1_any w S mo y E3 u3 v3 (Row.keep hon3 (w' := w) fun p hp => (Xi.out.t.below.cell (HC.out.lt _ hp)).symm) (Nat.le_trans huv3 hv3) wi.heap.size cx hr HC.out.lt W (HW6.out.trans (hb.mono HW6.out.size)) ((M6.below hb M6.lt).cell 0) ((M6.below hb M6.lt).cell 1)⟩ (fun x y h => shape_mem h)
     have hok : (l1.any fun y => decide (mo = y)) = old k := by rw [← HOLD.out]; unfold oldB; rw [hmk]
     rw [hok] at hcf
     obtain ⟨ob, hob⟩ : ∃ x, old k = x := ⟨_, rfl⟩
     rw [hob] at hcf
     have HOK := qh hob
     have HCF := qh hcf
     have HAL := qh hal
     have hbl3 : b3 < wi.heap.size := ql (HC.out.lt _ hbS3) Xi.out.t.below.size
     have hk1 : (k : Int) < q := by omega
     have hk0 : (0 : Int) ≤ (k : Int) := by omega
     obtain ⟨pl3, on3⟩ := mo
     dsimp only at k0 HCF HAL
     clear hcf hob hok hal M6 hon3 hm3 hmk
     cases ob
     ·have HN : Hid (freshTo old (k + 1) = freshTo old k ++ [k]) := qh (freshTo_yes HOK.out)
      go_upto_region 22 with (first | (go_at_call 32; refine HCF.out.mono ?_; rintro en w7 ⟨rfl, hb7⟩; refine Hid.out ?_))
      refine qh ?_
      have hb67 := HAL.out.trans (hb7.mono HAL.out.size)
      have OB7 := qh (OB.out.below hb67 OB.out.lt)
      have FB7 := qh (FB.out.below hb67 FB.out.lt)
      have FO7 := qh ((Far.of_below (fun _ => False) hb67).own FO.out fun _ _ h => h)
      have HB7 := qh (HBi.out.trans (hb67.mono HBi.out.size))
      clear hb7 hb67 HAL HCF
      have f0 := FB7.out.cell 0
      have flt := FB7.out.lt
      simp only [List.getElem?_cons_zero] at f0
      go_wp2_with (at_builtin; refine wpList_append_own_at _ rfl _ _ 60 rfl w3.heap.size 3 j0 (.int .i64 0) 1 8 Tryz.underlying60 Hj0.out Hy0.out Hy1.out Hy2.out rfl (by decide) _ _ _ rfl (FO7.out.alloc _) ⟨w7.heap.size, 0, none⟩ 1 1 [.int .i64 (k : Int)] rfl rfl ?a1 ?a2 ?a3 ?a4 ?a5 ?_)
      try (case a1 => exact cell_one_new _ _ _)
      try (case a2 => simp [Value.oneCell'])
      try (case a3 => unfold maxLen; omega)
      try (case a4 => omega)
      try (case a5 => (try simp); have := HB7.out.size; omega)
      intro v' w8 hown8 hg8 _ hv8
      obtain ⟨A8, c8, rfl, _, _, _⟩ := own_form hown8
      have far8 : Far (fun i => (Value.slice FA LN fc).ownBlock = some i) w7 w8 := (Far.of_below _ ((Below.refl _ w7).alloc (qr _) (.cells #[.int .i64 (k : Int)] 3))).trans (Far.of_grown hg8 fun i h => h.symm) fun _ _ h => h
      have OB8 := qh (far8.whole OB7.out fun e => own_ne FO7.out OB7.out (by decide) e)
      have FB8 := qh (far8.whole FB7.out fun e => own_ne FO7.out FB7.out (by decide) e)
      have HB8 := qh (HB7.out.trans ((far8.below (B := w3.heap.size) HB7.out.size fun j e => (FO7.out.lt j e).1)))
      have fs : Far (fun i => i = w3.heap.size + 1) w8 (w8.setCell ⟨w3.heap.size + 1, 0, none⟩ (.slice A8 (LN + 1 : Nat) c8)) := Far.set_ (D := fun i => i = w3.heap.size + 1) rfl 0 _
      have FB9 := qh (FB8.out.set_ 0 (.slice A8 (LN + 1 : Nat) c8))
      have OB9 := qh (fs.whole OB8.out (by omega))
      have FO9 := qh (fs.own hown8 fun g hg e => own_ne hown8 FB8.out (by decide) (e ▸ hg))
      have HB9 := qh (HB8.out.setCell (p := ⟨w3.heap.size + 1, 0, none⟩) (by show _ ≤ w3.heap.size + 1; omega) (.slice A8 (LN + 1 : Nat) c8))
      have o8 := FB8.out.cell 0
      have o8f := FB8.out.free 0
      have o8l := FB8.out.lt
      simp only [List.getElem?_cons_zero] at o8
      clear hown8 hg8 hv8 far8 fs f0 flt
      go_wp2
      go_roundg (g8 - 1)
      case measure => have := Hk.out; omega
      case rel => exact ⟨k + 1, A8, c8, qh (by have := Hk.out; omega), by go_num, OB9, qh (by rw [HN.out, List.length_append, HLN.out]; exact FB9.out), qh (by rw [HN.out, List.length_append, HLN.out, List.map_append]; exact FO9.out), HB9⟩
     ·have HN : Hid (freshTo old (k + 1) = freshTo old k) := qh (freshTo_no HOK.out)
      go_wp2_with (first | (go_at_call 32; refine HCF.out.mono ?_; rintro en w7 ⟨rfl, hb7⟩; refine Hid.out ?_))
      refine qh ?_
      have hb67 := HAL.out.trans (hb7.mono HAL.out.size)
      have OB7 := qh (OB.out.below hb67 OB.out.lt)
      have FB7 := qh (FB.out.below hb67 FB.out.lt)
      have FO7 := qh ((Far.of_below (fun _ => False) hb67).own FO.out fun _ _ h => h)
      have HB7 := qh (HBi.out.trans (hb67.mono HBi.out.size))
      clear hb7 hb67 HAL HCF
      go_wp2
      go_roundg (g8 - 1)
      case measure => have := Hk.out; omega
      case rel => exact ⟨k + 1, FA, fc, qh (by have := Hk.out; omega), by go_num, OB7, qh (by rw [HN.out, HLN.out]; exact FB7.out), qh (by rw [HN.out, HLN.out]; exact FO7.out), HB7⟩
    ·obtain rfl : q = k := by have := Hk.out; omega
     have hk1 : ¬ (q : Int) < q := by omega
     have f0 := FB.out.cell 0
     have flt := FB.out.lt
     simp only [List.getElem?_cons_zero] at f0
     go_upto_region 25 with (at_builtin; refine wpList_append_two rfl _ _ 60 rfl wi.heap.size w3.heap.size 3 j0 (.int .i64 0) 1 8 Tryz.underlying60 Hj0.out Hy0.out Hy1.out Hy2.out rfl (by decide) _ _ _ rfl (World.ownsRow_made wi #[] 0 (qr _) (Nat.zero_le _) rfl) _ LN _ rfl (FO.out.alloc _) ?a1 ?a2 ?a3 ?a4 ?_)
     try (case a1 => simp [Value.oneCell'])
     try (case a2 => unfold maxLen; omega)
     try (case a3 => omega)
     try (case a4 => simp)
     intro vA wA hownA hgA
     have hownA2 : wA.ownsRow wi.heap.size 3 1 vA LN ((freshTo old q).map fun (k : Nat) => Value.int .i64 (k : Int)) := by simpa using hownA
     obtain ⟨AA, cA, rfl, hcA1, hcA2, hrA⟩ := own_form hownA2
     have hbA : Below wi.heap.size wi wA := ((Below.refl _ wi).alloc (qr _) (.cells #[] 3)).grown hgA (by simp) (by intro k hk; simp [Value.ownBlock] at hk; omega)
     have OBA := qh (OB.out.below hbA OB.out.lt)
     have FBA := qh (FB.out.below hbA FB.out.lt)
     have FOA := qh ((Far.of_below (fun _ => False) hbA).own FO.out fun _ _ h => h)
     have HBA := qh (HBi.out.trans (hbA.mono HBi.out.size))
     have XA := qh (Xi.out.move hbA)
     have HRA := qh hrA
     have HSA := qh hbA.size
     have HSI := qh HBi.out.size
     have HW3 := qh FB.out.lt
     clear hownA hgA hownA2 hrA hbA f0 flt OB FB FO HBi Xi X3
     go_upto_region 27 with fail
     have hb5 : Below wA.heap.size wA (wA.alloc (.map #[] 0)) := (Below.refl _ wA).alloc (qr _) _
     have M5 := IntMap.made Tryz.prog wA
     have W5s : (wA.alloc (.map #[] 0)).heap.size = wA.heap.size + 1 := by simp
     obtain ⟨w5, hw5⟩ : ∃ x, x = wA.alloc (.map #[] 0) := ⟨_, rfl⟩
     rw [← hw5] at hb5 M5 W5s ⊢
     clear hw5
     have OB5 := OBA.out.below hb5 OBA.out.lt
     have FB5 := FBA.out.below hb5 FBA.out.lt
     have FO5 := (Far.of_below (fun _ => False) hb5).own FOA.out fun _ _ h => h
     have X5 := XA.out.move hb5
     obtain ⟨v0, rfl⟩ : ∃ x, x = u7 := ⟨_, rfl⟩
     have hw3 := HB3.out.size
     have hfl : Below wA.heap.size wA w5 := hb5
     obtain ⟨FA2, fc2, hfe, hfc1, hfc2, _⟩ := own_form FO5
     injection hfe with hfe1 hfe2 hfe3
     subst hfe1 hfe3
     have HLp0 : Hid (Lp w3.heap.size wA.heap.size (w.heap.size + 1) v0 w5 v0 cs (goneAc ps l1 l) FA LN fc (freshO q old) (fun _ => none) 0 w5) := qh ⟨Far.refl _ _, X5.g, fun k h _ => h, FB5, by
       have h := row_of_own FO5 (S := fun k => k < w5.heap.size ∧ k ≠ w3.heap.size + 1 ∧ k ≠ wA.heap.size ∧ v0.ownBlock ≠ some k) fun g hg => ⟨(FO5.lt g hg).2, fun e => own_ne FO5 FB5 (by decide) (e ▸ hg), fun e => by have := (FOA.out.lt g hg).2; omega, fun e => by have := HOL.out g e; have := (FO5.lt g hg).1; omega⟩
       unfold RInts
       rw [List.map_map]; exact h, ⟨hfc1, hfc2⟩, M5, ⟨fun e => by have := HOL.out _ e; omega, fun e => by have := HOL.out _ e; have := HSA.out; have := HSI.out; omega, by have := HSA.out; have := HW3.out; omega⟩, ⟨by have := X5.t.whole.lt; have := HOL; have := XA.out.t.whole.lt; omega, by have := XA.out.t.whole.lt; omega⟩⟩
     have hD : ∀ k, (k = w3.heap.size + 1 ∨ k = wA.heap.size ∨ v0.ownBlock = some k) → w.heap.size + 1 ≤ k := fun k hk => by
      rcases hk with e | e | e
      ·have := HLp0.out.lo.1; omega
      ·have := HLp0.out.lo.2; omega
      ·exact (HOL.out k e).1
     have HKp0 : Hid (Kp (fun k => k = w3.heap.size + 1 ∨ k = wA.heap.size ∨ v0.ownBlock = some k) w A n c w3.heap.size LA q Lc (leansL ps l) AA LN ((freshO q old).map fun (k : Nat) => (k : Int)) w5.heap.size w5) := qh ⟨X5.t.whole, OB5,
      (HRL.out.below (HBA.out.trans (hb5.mono HBA.out.size)) fun k hk => hk.2).more fun k hk => ⟨by have := HBA.out.size; omega, fun hd => by
       rcases hd with e | e | e
       ·omega
       ·have := HBA.out.size; omega
       ·have := (HOL.out k e).2; omega⟩,
      by
       have h := Row.more (Row.below HRA.out hb5 fun k hk => hk.2) (S' := fun k => k < w5.heap.size ∧ ¬ (k = w3.heap.size + 1 ∨ k = wA.heap.size ∨ v0.ownBlock = some k)) fun k hk => ⟨by omega, fun hd => by
        rcases hd with e | e | e
        ·have := HW3.out; omega
        ·omega
        ·have := (HOL.out k e).2; have := HSI.out; omega⟩
       unfold RInts
       rw [List.map_map]; exact h,
      X5.t.below, fun e => by have := hD _ e; omega, fun e => by
       rcases e with e | e | e
       ·omega
       ·have := HSA.out; have := HW3.out; omega
       ·have := (HOL.out _ e).2; omega, fun k hk => by have := hD k hk; omega, qr _⟩
     have hG := edge_gr ps l (by rw [Hll.out]; omega)
     rw [Hll.out] at hG
     have HG := qh hG
     have hgl := goneAc_len (ps := ps) (there := l1) (l := l) (j := q1)
     rw [List.take_of_length_le (by rw [Hl1.out]; exact qr _)] at hgl
     have HPq0 : Hid (Pq (RB (edgeB ps l) q) q old l (planL ps l1 l) ⟨old, fun _ => 0, 0⟩ (fun _ => none) (goneAc ps l1 l) (q + 1) q 0) := qh ⟨leftO_le, Nat.lt_succ_self _, by unfold planL planN reachB goneAc; rw [Hll.out, HOLD.out]; rfl, NumOk.zero, fun _ h => h, by rw [Nat.zero_add]; exact qr _, by simp, by omega⟩
     clear hG hgl OBA FBA FOA XA HRL HBA HRA OB5 FB5 FO5 X5 M5 hb5 hfl hfe2 hD W5s HOLD
     go_loopg [7, 21] q (fun gk va cv wr => ∃ (s : PSt) (K : Int → Option Int) (cs4 : List (List Value)) (acts : List Ac) (F : Option Addr) (fl fc m fuel : Nat), cv = .int .i64 (s.cyc : Int) ∧ Hid (Pq (RB (edgeB ps l) q) q old l (planL ps l1 l) s K acts fuel gk m) ∧ Hid (Lp w3.heap.size wA.heap.size (w.heap.size + 1) v0 w5 va cs4 acts F fl fc (freshO q s.done) K m wr))
     case atStart => exact ⟨⟨old, fun _ => 0, 0⟩, _, _, _, _, _, _, _, _, rfl, HPq0, HLp0⟩
     case round =>
      obtain ⟨g7, rfl⟩ : ∃ x : Nat, x = gk := ⟨_, rfl⟩
      obtain ⟨wl, rfl⟩ : ∃ x : World, x = wr := ⟨_, rfl⟩
      obtain ⟨v, rfl⟩ : ∃ x : Value, x = u7 := ⟨_, rfl⟩
      obtain ⟨s, K, cs4, acts, F, fl, fc2, m, fuel, rfl, HPq, HLp⟩ := hrel
      have HKp := qh (HKp0.out.far HLp.out.far)
      have hfl : fl = (freshO q s.done).length := by have := HLp.out.fr.len; simpa using this.symm
      have hfq : fl ≤ q := by rw [hfl]; exact leftO_le
      have f0 := HLp.out.fb.cell 0
      have flt := HLp.out.fb.lt
      simp only [List.getElem?_cons_zero] at f0
      clear HPq0 HLp0
      by_cases h0 : fl = 0
      ·subst h0
       have HTT : Hid (acts = planL ps l1 l) := qh (by
        have h := HPq.out.sum
        rw [planGo_end (List.length_eq_zero_iff.1 hfl.symm)] at h
        simpa using h)
       have HP : Hid (PlannedP ps l1 l w (.returned v) wl) := qh ⟨v, cs4, rfl, by rw [← HTT.out]; exact HLp.out.g, HKp.out.bel⟩
       clear hfl
       go_wp2
       go_ret
       exact HP.out
      ·obtain ⟨i, hi⟩ := pick_has (r := RB (edgeB ps l) q) (fun a b c h1 h2 => RB_trans HG.out.lt h1 h2) (n := q) (done := s.done) (fun e => h0 (by rw [hfl, e]; rfl))
       obtain ⟨at_, hat1, hat2⟩ := pick_ix hi
       obtain ⟨hiq, hid, _⟩ := pickO_some hi
       have hatl := (List.getElem?_eq_some_iff.1 hat2).1
       rw [← hfl] at hatl
       have hfl0 : (0 : Int) < (fl : Int) := by omega
       have hix := indexFuncW_any F fl fc2 ((freshO q s.done).map fun (k : Nat) => (k : Int)) 60 #[.pointer (some ⟨w3.heap.size + 1, 0, none⟩), .pointer (some ⟨w3.heap.size, 0, none⟩)] (fun x => !notYet (RB (edgeB ps l) q) (freshO q s.done) x.toNat) wl (fun k => k < wl.heap.size) (HLp.out.fr.more fun k hk => hk.1) (by unfold maxLen; omega) (fun k hk => hk)
        ⟨fun args W => by kernel_rfl, fun x hx W hb => by
         obtain ⟨y, hy, rfl⟩ := List.mem_map.1 hx
         exact rplan2_any (edgeB ps l) q (leansL ps l) HG.out (fun k => k < wl.heap.size) LA F Lc w3.heap.size (w3.heap.size + 1) fl fc2 y (freshO q s.done) (mem_freshO.1 hy).1 (fun k hk => (mem_freshO.1 hk).1) wl (HKp.out.rl.more fun k hk => ql hk.1 HKp.out.le) (HLp.out.fr.more fun k hk => hk.1) (by unfold maxLen; omega) (fun k hk => hk) (HKp.out.o.cell 0) (HLp.out.fb.cell 0) W hb⟩
       rw [hat1] at hix
       have HIX := qh hix
       have HI := qh hi; have HAT := qh hat2; have HFL := qh hfl
       clear hix hi hat1 hat2 hid hfl
       go_upto_region 29 with (first | (go_at_call 47; refine HIX.out.mono ?_; rintro en w6 ⟨rfl, hb6⟩; refine Hid.out ?_))
       refine qh ?_
       have HLp6 := qh (HLp.out.move hb6)
       have HKp6 := qh (HKp0.out.far HLp6.out.far)
       clear hb6 HLp HKp HIX f0 flt
       obtain ⟨bF, oF, rfl, hbF, hcF⟩ := HLp6.out.fr.at_ hatl
       have hge : ((freshO q s.done).map fun (k : Nat) => (k : Int)).getD at_ 0 = (i : Int) := by rw [List.getD_eq_getElem?_getD, List.getElem?_map, HAT.out]; rfl
       rw [hge] at hcF
       have f0 := HLp6.out.fb.cell 0
       have flt := HLp6.out.fb.lt
       simp only [List.getElem?_cons_zero] at f0
       have hat1 : (at_ : Int) < fl := by omega
       have hat0 : (0 : Int) ≤ (at_ : Int) := by omega
       clear hge
       go_upto_region 30 with fail
       have hfl16 : fl ≤ 9223372036854775807 := by omega
       have hfc9 : fc2 ≤ 9223372036854775807 := by have := HLp6.out.fc.2; unfold maxLen at this; omega
       have hflc : fl ≤ fc2 := HLp6.out.fc.1
       have hatf : at_ + 1 ≤ fl := hatl
       have hatc : at_ ≤ fc2 := by omega
       have HVL := qh (HLp6.out.fr.len)
       obtain ⟨bF2, oF2, hbe, _, hcellF⟩ := HLp6.out.fr.2 (by omega)
       injection hbe with hbe
       injection hbe with hbe1 hbe2
       subst hbe1 hbe2
       have HCL : Hid (∀ j, j < fl → w6.cell? ⟨bF, oF + j, none⟩ = (((freshO q s.done).map fun (k : Nat) => (k : Int)).map (Value.int .i64))[j]?) := qh hcellF
       obtain ⟨vals, hvals⟩ : ∃ x, ((freshO q s.done).map fun (k : Nat) => (k : Int)).map (Value.int .i64) = x := ⟨_, rfl⟩
       rw [hvals] at HCL
       have HVA := qh hvals
       have HVN : Hid (vals.length = fl) := qh (by rw [← hvals, List.length_map]; exact HVL.out)
       obtain ⟨k1, hk1e⟩ : ∃ x : Nat, x = at_ + 1 := ⟨_, rfl⟩
       have HK1 := qh hk1e
       have e1 : (at_ : Int) + 1 = (k1 : Int) := by omega
       have hk1c : k1 ≤ fc2 := by omega
       have hk1n : k1 ≤ fl := by omega
       have hw1 : IntKind.i64.wrap (k1 : Int) = (k1 : Int) := IntWalk.i64_in _ (by omega)
       have hk10 : (0 : Int) ≤ (k1 : Int) := by omega
       have hk1f : (k1 : Int) ≤ (fl : Int) := by omega
       clear hk1e hvals hcellF hatf
       obtain ⟨A2, hA2, HSRC⟩ : ∃ A2 : Addr, (if fc2 = k1 then some (⟨bF, oF, none⟩ : Addr) else some ⟨bF, oF + k1, none⟩) = some A2 ∧ Hid (∀ t u, (vals.drop k1)[t]? = some u → w6.drew.cell? (A2.add t) = some u) := by
        by_cases hck : fc2 = k1
        ·refine ⟨⟨bF, oF, none⟩, by rw [if_pos hck], qh fun t u hu => ?_⟩
         have h := (List.getElem?_eq_some_iff.1 hu).1
         rw [List.length_drop, HVN.out] at h
         omega
        ·refine ⟨⟨bF, oF + k1, none⟩, by rw [if_neg hck], qh fun t u hu => ?_⟩
         have ht := (List.getElem?_eq_some_iff.1 hu).1
         rw [List.length_drop, HVN.out] at ht
         rw [addr_add]
         show w6.cell? _ = _
         rw [Nat.add_assoc, HCL.out _ (by omega), ← hu, List.getElem?_drop]
       have HLpD := qh (HLp6.out.move (show Below w6.heap.size w6 w6.drew from below_drewN (Below.refl _ _) 1))
       have HV1 : Hid (∀ u ∈ vals, u.oneCell' = true) := qh fun u hu => by rw [← HVA.out] at hu; obtain ⟨y, _, rfl⟩ := List.mem_map.1 hu; rfl
       have HS0 : Hid ((vals.take at_).length = at_ * 1) := qh (by rw [List.length_take, HVN.out]; omega)
       have HS1 : Hid (∀ b, (some (⟨bF, oF, none⟩ : Addr)) = some b → ∀ j u, (vals.take at_)[j]? = some u → w6.drew.cell? (b.add j) = some u) := qh (by
        intro b e
        injection e with e
        subst e
        intro j u hj
        have hj2 := (List.getElem?_eq_some_iff.1 hj).1
        rw [HS0.out] at hj2
        rw [addr_add]
        show w6.cell? _ = _
        rw [HCL.out _ (by omega), ← hj, List.getElem?_take_of_lt (by omega)])
       have HS2 : Hid ((vals.drop k1).length = (fl - k1) * 1) := qh (by rw [List.length_drop, HVN.out]; omega)
       have HS3 : Hid (∀ u ∈ vals.drop k1, u.oneCell' = true) := qh fun u hu => HV1.out u (List.mem_of_mem_drop hu)
       have HFE : Hid ((vals.take at_ ++ vals.drop k1) = (((freshO q s.done).eraseIdx at_).map fun (k : Nat) => (k : Int)).map (Value.int .i64)) := qh (by
        rw [← HVA.out, HK1.out, List.eraseIdx_eq_take_drop_succ, List.map_append, List.map_append, List.map_take, List.map_take, List.map_drop, List.map_drop])
       go_cut [22, 23] (fun s22 s23 wx => s22 = .int .i64 (at_ : Int) ∧ s23 = .int .i64 (i : Int) ∧ ∃ (F3 : Option Addr) (fc3 : Nat), Hid (Lp w3.heap.size wA.heap.size (w.heap.size + 1) v0 w5 v cs4 acts F3 (fl - 1) fc3 ((freshO q s.done).eraseIdx at_) K m wx))
       case first =>
        by_cases hmore : k1 < fl
        ·go_region_law (refine step_append_grows rfl (.tmp 113) (.tmp 117) 60 rfl 3 j0 (.int .i64 0) 1 8 Tryz.underlying60 Hj0.out Hy0.out Hy1.out Hy2.out rfl (by decide) (some ⟨bF, oF, none⟩) at_ at_ (vals.take at_) (by simp [Act.eval, Act.put]) (fun h => by cases h) HS0.out HS1.out A2 (fl - k1) (fc2 - k1) (vals.drop k1) (by simp [Act.eval, Act.put]) HS2.out HSRC.out HS3.out (by omega) (by unfold maxLen; omega) (by omega) ?_; intro v' w7 hown7 hg7; obtain ⟨A7, c7, rfl, hc71, hc72, hr7⟩ := own_form hown7; have FB7 := qh ((Far.of_grown hg7 (D := fun _ => False) fun i e => by cases e).whole HLpD.out.fb fun h => h); have y0 := FB7.out.cell 0; have y0f := FB7.out.free 0; have y0l := FB7.out.lt; simp only [List.getElem?_cons_zero] at y0)
         all_goals
          have HLp7 := qh (HLpD.out.erase HK1.out hk1n HFE.out hown7 hg7)
          clear hown7 hg7 hr7
          go_wp2
          go_meet
          case rel => exact ⟨rfl, rfl, A7, c7, HLp7⟩
        ·have y0 := HLpD.out.fb.cell 0
         have y0f := HLpD.out.fb.free 0
         have y0l := HLpD.out.fb.lt
         simp only [List.getElem?_cons_zero] at y0
         have HFK : Hid (fl = k1) := qh (by omega)
         clear hmore
         go_region_law (refine step_append_room rfl (.tmp 113) (.tmp 117) 60 rfl 3 j0 1 Tryz.underlying60 Hj0.out Hy1.out bF oF at_ at_ (by simp [Act.eval, Act.put]) A2 (fl - k1) (fc2 - k1) [] (by simp [Act.eval, Act.put]) (by rw [HFK.out]; simp) (fun j u h => by cases h) (fun u h => by cases h) (by have := HFK.out; omega) (fun j hj => absurd hj (by simp)) ?_; rw [show w6.drew.setCells bF (oF + at_ * 1) [] = w6.drew from rfl])
         all_goals
          have HLp7 := qh (HLpD.out.eraseLast HK1.out HFK.out HFL.out.symm)
          go_wp2
          go_meet
          case rel => exact ⟨rfl, rfl, _, at_, HLp7⟩
       case rest =>
        obtain ⟨rfl, rfl, F3, fc3, HLp7⟩ := hcut
        clear HLpD HS0 HS1 HS2 HS3 HSRC hA2 HFE HVA HVN HCL HVL HV1 f0 flt hcF e1 hk1c hk1n hw1 hk10 hk1f hflc hatc hfc9 hfl16
        have HKp7 := qh (HKp0.out.far HLp7.out.far)
        have hwi : (Lit.int .i64 (i : Int)).wf = true := wf_of (by omega) (by omega)
        have hoi : old i = false := by
         cases ho : old i
         ·rfl
         ·have h1 := HPq.out.old i ho
          have h2 := (pickO_some HI.out).2.1
          rw [h1] at h2; cases h2
        have hki : (K (i : Int)).getD 0 = (s.num i : Int) := HPq.out.num i hiq hoi
        have HKI0 := qh hki
        have hlk := HLp7.out.mp.look Tryz.underlying3 (zeroIntR _) Tryz.underlying58 hwi
        rw [hki] at hlk
        obtain ⟨s2, hs2⟩ : ∃ x, stepP (RB (edgeB ps l) q) q old s i = x := ⟨_, rfl⟩
        have HS2 := qh hs2
        have HFN : Hid (freshO q s2.done = (freshO q s.done).eraseIdx at_) := qh (by rw [← hs2, stepP_done]; exact freshO_erase HAT.out)
        have HOI := qh hoi
        clear hs2 hki hoi
        by_cases hz : s.num i = 0
        ·have hzb : ((s.num i : Int) == 0) = true := by rw [hz]; rfl
         have HZ0 := qh hz
         clear hz
         obtain ⟨xs, hxs⟩ : ∃ x, freshO q old = x := ⟨_, rfl⟩
         have HXS := qh hxs
         have HAL7 := qh HKp7.out.al
         rw [hxs] at HAL7
         have hLN : LN = xs.length := by have := HAL7.out.len; simpa using this.symm
         have hLNq : LN ≤ q := by rw [hLN, ← hxs]; exact leftO_le
         have HLNx := qh hLN
         have HXQ : Hid (∀ y ∈ xs, y < q) := qh fun y hy => by rw [← hxs] at hy; exact (mem_freshO.1 hy).1
         have HWS : Hid (∀ k, (k < w5.heap.size ∧ ¬ (k = w3.heap.size + 1 ∨ k = wA.heap.size ∨ v0.ownBlock = some k)) → k < wc.heap.size) := qh fun k hk => ql hk.1 HKp7.out.le
         have o0 := HKp7.out.o.cell 0
         have olt := HKp7.out.o.lt
         clear hxs hLN
         go_upto_region 34 with fail
         clear hlk o0 olt
         go_loopg [24, 125] LN (fun gk rv iv wr => ∃ (k : Nat) (RA : Option Addr) (rc : Nat), Hid (k + gk = LN) ∧ iv = .int .i64 k ∧ rv = .slice RA (ringTo (RB (edgeB ps l) q) xs i k).length rc ∧ Hid (wr.ownsRow wc.heap.size 3 1 (.slice RA (ringTo (RB (edgeB ps l) q) xs i k).length rc) (ringTo (RB (edgeB ps l) q) xs i k).length ((ringTo (RB (edgeB ps l) q) xs i k).map fun (k : Nat) => Value.int .i64 (k : Int))) ∧ Hid (Below wc.heap.size wc wr))
         case atStart => exact ⟨0, none, 0, qh (Nat.zero_add _), rfl, rfl, qh (World.ownsRow_nil _ _ _ _), qh (Below.refl _ _)⟩
         case round =>
          obtain ⟨g6, rfl⟩ : ∃ x : Nat, x = gk := ⟨_, rfl⟩
          obtain ⟨wr6, rfl⟩ : ∃ x : World, x = wr := ⟨_, rfl⟩
          obtain ⟨k, RA, rc, Hk, rfl, rfl, HRO, HBr⟩ := hrel
          have hrl := ringTo_len (r := RB (edgeB ps l) q) (xs := xs) (i := i) (k := k)
          obtain ⟨rn, hrn⟩ : ∃ x, (ringTo (RB (edgeB ps l) q) xs i k).length = x := ⟨_, rfl⟩
          have HRN := qh hrn
          rw [hrn] at HRO hrl ⊢
          clear hrn
          by_cases hk : k < LN
          ·obtain ⟨b6, o6, rfl, hb6, hc6⟩ := (HAL7.out.below HBr.out HWS.out).at_ hk
           have hkx : k < xs.length := by have := HLNx.out; omega
           obtain ⟨y, hy⟩ : ∃ y, xs[k]? = some y := ⟨_, List.getElem?_eq_getElem hkx⟩
           have hge : (xs.map fun (k : Nat) => (k : Int)).getD k 0 = (y : Int) := by rw [List.getD_eq_getElem?_getD, List.getElem?_map, hy]; rfl
           rw [hge] at hc6
           have hyq := HXQ.out y (List.mem_of_getElem? hy)
           have hst := ringTo_step (r := RB (edgeB ps l) q) (i := i) hy
           have HST := qh hst
           have hb6l : b6 < wr6.heap.size := ql (HWS.out _ hb6) HBr.out.size
           have hk1 : (k : Int) < LN := by omega
           have hk0 : (0 : Int) ≤ (k : Int) := by omega
           have HCO := qh (fun (a b : Nat) (ha : a < q) (hb : b < q) (wx : World) (hbx : Below wr6.heap.size wr6 wx) => rcomes_any (edgeB ps l) q (leansL ps l) (fun k => k < wx.heap.size) LA Lc a b wx HG.out ha hb (((HKp7.out.rl.below HBr.out HWS.out).below hbx fun k hk => ql (HWS.out k hk) HBr.out.size).more fun k hk => ql (ql (HWS.out k hk) HBr.out.size) hbx.size) (fun k hk => hk))
           have HC1 := qh (HCO.out i y hiq hyq wr6 (Below.refl _ _))
           have HC2 := qh (HCO.out y i hyq hiq)
           have OB6 := HKp7.out.o.below HBr.out HKp7.out.o.lt
           have o0 := OB6.cell 0
           have olt := OB6.lt
           simp only [List.getElem?_cons_zero] at o0
           obtain ⟨x1, hx1⟩ : ∃ x, RB (edgeB ps l) q i y = x := ⟨_, rfl⟩
           obtain ⟨x2, hx2⟩ : ∃ x, RB (edgeB ps l) q y i = x := ⟨_, rfl⟩
           rw [hx1, hx2] at HST
           rw [hx1] at HC1
           rw [hx2] at HC2
           clear hge hy hst HCO hx1 hx2 hkx
           by_cases hyi : y = i
           ·have hyb : ((y : Int) != (i : Int)) = false := by rw [hyi]; simp
            have HN : Hid (ringTo (RB (edgeB ps l) q) xs i (k + 1) = ringTo (RB (edgeB ps l) q) xs i k) := qh (by rw [HST.out, if_neg (by rw [decide_eq_false (fun h => h hyi)]; simp)])
            clear hyi HC1 HC2 OB6
            go_wp2
            go_roundg (g6 - 1)
            case measure => have := Hk.out; omega
            case rel => exact ⟨k + 1, RA, rc, qh (by have := Hk.out; omega), by go_num, by rw [HN.out, HRN.out], qh (by rw [HN.out, HRN.out]; exact HRO.out), HBr⟩
           ·have hyb : ((y : Int) != (i : Int)) = true := by simpa using (fun e => hyi (by omega) : ¬ (y : Int) = (i : Int))
            cases x1
            ·have HN : Hid (ringTo (RB (edgeB ps l) q) xs i (k + 1) = ringTo (RB (edgeB ps l) q) xs i k) := qh (by rw [HST.out, if_neg (by simp)])
             clear hyi HC2 OB6
             go_wp2_with (first | (go_at_call 62; refine HC1.out.mono ?_; rintro en w7 ⟨rfl, hb7⟩; refine Hid.out ?_))
             refine qh ?_
             have HB7 := qh (HBr.out.trans (hb7.mono HBr.out.size))
             have RO7 := qh ((Far.of_below (fun _ => False) hb7).own HRO.out fun _ _ h => h)
             clear hb7
             go_wp2
             go_roundg (g6 - 1)
             case measure => have := Hk.out; omega
             case rel => exact ⟨k + 1, RA, rc, qh (by have := Hk.out; omega), by go_num, by rw [HN.out, HRN.out], qh (by rw [HN.out, HRN.out]; exact RO7.out), HB7⟩
            ·go_wp2_with (first | (go_at_call 62; refine HC1.out.mono ?_; rintro en w7 ⟨rfl, hb7⟩; refine Hid.out ?_))
             refine qh ?_
             have HB7 := qh (HBr.out.trans (hb7.mono HBr.out.size))
             have RO7 := qh ((Far.of_below (fun _ => False) hb7).own HRO.out fun _ _ h => h)
             have HC3 := qh (HC2.out w7 hb7)
             have p0 := (hb7.cell (p := ⟨w3.heap.size, 0, none⟩) olt).trans o0
             clear hb7 HC1 HC2 OB6 o0
             cases x2
             ·have HN : Hid (ringTo (RB (edgeB ps l) q) xs i (k + 1) = ringTo (RB (edgeB ps l) q) xs i k) := qh (by rw [HST.out, if_neg (by simp)])
              go_wp2_with (first | (go_at_call 62; refine HC3.out.mono ?_; rintro en w8 ⟨rfl, hb8⟩; refine Hid.out ?_))
              refine qh ?_
              have HB8 := qh (HB7.out.trans (hb8.mono HB7.out.size))
              have RO8 := qh ((Far.of_below (fun _ => False) hb8).own RO7.out fun _ _ h => h)
              clear hb8
              go_wp2
              go_roundg (g6 - 1)
              case measure => have := Hk.out; omega
              case rel => exact ⟨k + 1, RA, rc, qh (by have := Hk.out; omega), by go_num, by rw [HN.out, HRN.out], qh (by rw [HN.out, HRN.out]; exact RO8.out), HB8⟩
             ·have HN : Hid (ringTo (RB (edgeB ps l) q) xs i (k + 1) = ringTo (RB (edgeB ps l) q) xs i k ++ [y]) := qh (by rw [HST.out, if_pos (by rw [decide_eq_true hyi]; rfl)])
              clear hyi
              go_wp2_with (first | (go_at_call 62; refine HC3.out.mono ?_; rintro en w8 ⟨rfl, hb8⟩; refine Hid.out ?_))
              refine qh ?_
              have HB8 := qh (HB7.out.trans (hb8.mono HB7.out.size))
              have RO8 := qh ((Far.of_below (fun _ => False) hb8).own RO7.out fun _ _ h => h)
              clear hb8
              go_wp2_with (at_builtin; refine wpList_append_own_at _ rfl _ _ 60 rfl wc.heap.size 3 j0 (.int .i64 0) 1 8 Tryz.underlying60 Hj0.out Hy0.out Hy1.out Hy2.out rfl (by decide) _ _ _ rfl (RO8.out.alloc _) ⟨w8.heap.size, 0, none⟩ 1 1 [.int .i64 (y : Int)] rfl rfl ?r1 ?r2 ?r3 ?r4 ?r5 ?_)
              try (case r1 => exact cell_one_new _ _ _)
              try (case r2 => simp [Value.oneCell'])
              try (case r3 => unfold maxLen; omega)
              try (case r4 => omega)
              try (case r5 => (try simp); have := HB8.out.size; omega)
              intro v' w9 hown9 hg9 _ hv9
              have HB9 := qh ((HB8.out.trans (((Below.refl _ w8).alloc (qr _) (.cells #[.int .i64 (y : Int)] 3)).mono HB8.out.size)).trans (below_of_grown hg9 (by have := HB8.out.size; simp; omega) fun j e => (RO8.out.lt j e).1))
              obtain ⟨A9, c9, rfl, _, _, _⟩ := own_form hown9
              have RO9 := qh hown9
              clear hown9 hg9 hv9
              go_wp2
              go_roundg (g6 - 1)
              case measure => have := Hk.out; omega
              case rel => exact ⟨k + 1, A9, c9, qh (by have := Hk.out; omega), by go_num, by rw [HN.out, List.length_append, HRN.out]; rfl, qh (by rw [HN.out, List.length_append, HRN.out, List.map_append]; exact RO9.out), HB9⟩
          ·obtain rfl : LN = k := by have := Hk.out; omega
           have hall : ringTo (RB (edgeB ps l) q) xs i LN = ringL (RB (edgeB ps l) q) q old i := by rw [← HXS.out]; exact ringTo_all (by rw [HXS.out, ← HLNx.out]; exact qr _)
           rw [hall] at HRO HRN
           have HLp9 := qh (HLp7.out.move HBr.out)
           have hk1 : ¬ (LN : Int) < LN := by omega
           clear hall
           by_cases hr0 : rn = 0
           ·have hlb : loopsB (RB (edgeB ps l) q) q old i = false := ringL_nil.1 (List.length_eq_zero_iff.1 (by rw [HRN.out]; exact hr0))
            have hno : ¬ (s.num i = 0 ∧ loopsB (RB (edgeB ps l) q) q old i = true) := fun h => by rw [hlb] at h; cases h.2
            have hsame := HPq.out.num.same hno
            rw [HS2.out] at hsame
            have HPN := qh (HPq.out.next HI.out (K' := K) (m' := m) (by rw [HS2.out]; exact hsame.1) (by omega) (by rw [HS2.out, hsame.2]; omega))
            rw [HS2.out] at HPN
            have hnum : s2.num i = s.num i := by rw [← HS2.out]; unfold stepP; rw [if_neg hno]
            have hki2 : (K (i : Int)).getD 0 = (s2.num i : Int) := by rw [hnum]; exact HKI0.out
            have HKI := qh hki2
            have HCY : Hid (s2.cyc = s.cyc) := qh hsame.2
            subst hr0
            rw [← HCY.out]
            clear hsame hnum hki2 hno hlb HRO HKp7 HAL7
            have HTD := qh (HLp9.out.move (show Below (wr6).heap.size wr6 (wr6).drew from below_drewN (Below.refl _ _) 1))
            have HKD := qh (HKp0.out.far HTD.out.far)
            obtain ⟨b3, o3, mo, E3, u3, v3, rfl, hbS3, hm3, huv3, hv3, hon3, k0, k1⟩ := (HC.out.s.under HKD.out.bel HC.out.lt).at_ hiq
            have HMK := qh (memAt_at hm3)
            have HRA : Hid (RAct (wr6).drew (fun k => k < w.heap.size + 1) [.bool false, .int .i64 mo.pl, .slice E3 u3 v3, .int .i64 (s2.num i : Int)] ⟨false, mo, (s2.num i : Int)⟩) := qh ⟨E3, u3, v3, rfl, huv3, hv3, Row.more hon3 fun k hk => by have := HC.out.lt k hk; omega⟩
            have hlkD := HTD.out.mp.look Tryz.underlying3 (zeroIntR _) Tryz.underlying58 hwi
            rw [HKI.out] at hlkD
            have hbl3 : b3 < w.heap.size := HC.out.lt _ hbS3
            have hkd : ∀ wy : World, Below (wr6).heap.size (wr6).drew wy → wy.cell? ⟨b3, o3 + i * 2, none⟩ = some (.int .i64 mo.pl) ∧ wy.cell? ⟨b3, o3 + i * 2 + 1, none⟩ = some (.slice E3 u3 v3) := fun wy hb => ⟨(hb.cell (ql hbl3 HKD.out.bel.size)).trans k0, (hb.cell (ql hbl3 HKD.out.bel.size)).trans k1⟩
            have HKC := qh hkd
            have hlen16 := HPq.out.len
            have HOWL := qh (fun k e => (HTD.out.g.own.lt k e))
            clear hkd hon3 hm3
            go_upto_region 46 with fail
            refine wp_region_held_drew (S := (fun w' => w'.cell? ⟨b3, o3 + i * 2, none⟩ = some (.int .i64 mo.pl) ∧ w'.cell? ⟨b3, o3 + i * 2 + 1, none⟩ = some (.slice E3 u3 v3))) (by kernel_rfl) ⟨k0, k1⟩ (fun hHeld => ?_)
            first | (refine tkA (v := ?_) held_at0 ?_ ?_; rotate_left; focus ((intro w_ hSw; (try dsimp only at hSw); go_simp; (try with_reducible rfl)); done)) | (refine tkB held_at0 ?_)
            (try simp only [Act.put, qsa, qsz, qss])
            first | (refine tkA (v := ?_) held_at1 ?_ ?_; rotate_left; focus ((intro w_ hSw; (try dsimp only at hSw); go_simp; (try with_reducible rfl)); done)) | (refine tkB held_at1 ?_)
            (try simp only [Act.put, qsa, qsz, qss])
            first | (refine tkA (v := ?_) held_at2 ?_ ?_; rotate_left; focus ((intro w_ hSw; (try dsimp only at hSw); go_simp; (try with_reducible rfl)); done)) | (refine tkB held_at2 ?_)
            (try simp only [Act.put, qsa, qsz, qss])
            first | (refine tkA (v := ?_) held_at3 ?_ ?_; rotate_left; focus ((intro w_ hSw; (try dsimp only at hSw); go_simp; (try with_reducible rfl)); done)) | (refine tkB held_at3 ?_)
            (try simp only [Act.put, qsa, qsz, qss])
            first | (refine tkA (v := ?_) held_at4 ?_ ?_; rotate_left; focus ((intro w_ hSw; (try dsimp only at hSw); go_simp; (try with_reducible rfl)); done)) | (refine tkB held_at4 ?_)
            (try simp only [Act.put, qsa, qsz, qss])
            first | (refine tkA (v := ?_) held_at5 ?_ ?_; rotate_left; focus ((intro w_ hSw; (try dsimp only at hSw); go_simp; (try with_reducible rfl)); done)) | (refine tkB held_at5 ?_)
            (try simp only [Act.put, qsa, qsz, qss])
            first | (refine tkA (v := ?_) held_at6 ?_ ?_; rotate_left; focus ((intro w_ hSw; (try dsimp only at hSw); go_simp; (try with_reducible rfl)); done)) | (refine tkB held_at6 ?_)
            (try simp only [Act.put, qsa, qsz, qss])
            refine wpAnyH_ready (rs := [7]) (by kernel_rfl) (by simp) ?_
            refine AllReadyH.cons held_at7 (fun K2 hK => ?_) AllReadyH.nil
            (try simp only [qsa, qsz, qss])
            go_simp
            refine hK.out _ _ ⟨k0, k1⟩ (fun hHeld => ?_)
            clear hK K2
            (try simp only [Act.put, qsa, qsz, qss])
            first | (refine tkA (v := ?_) held_at8 ?_ ?_; rotate_left; focus ((intro w_ hSw; (try dsimp only at hSw); go_simp; (try with_reducible rfl)); done)) | (refine tkB held_at8 ?_)
            (try simp only [Act.put, qsa, qsz, qss])
            refine wpAnyH_ready (rs := [9]) (by kernel_rfl) (by simp) ?_
            refine AllReadyH.cons held_at9 (fun K2 hK => ?_) AllReadyH.nil
            (try simp only [qsa, qsz, qss])
            go_simp
            have hal := (Below.refl (wr6).heap.size (wr6).drew).alloc (qr _) (.cells #[.bool false, .int .i64 mo.pl, .slice E3 u3 v3, .int .i64 (s2.num i : Int)] 48)
            refine hK.out _ _ (HKC.out _ hal) (fun hHeld => ?_)
            clear hK K2
            (try simp only [Act.put, qsa, qsz, qss])
            refine wpAnyH_ready (rs := [10]) (by kernel_rfl) (by simp) ?_
            refine AllReadyH.cons held_at10 (fun K2 hK => ?_) AllReadyH.nil
            have HNC := qh (cells_new (wr6).drew (wr6).heap.size [.bool false, .int .i64 mo.pl, .slice E3 u3 v3, .int .i64 (s2.num i : Int)] 48 rfl)
            have hle5 := HTD.out.g.le
            refine step_append_ownO rfl (.tmp 167) (.tmp 176) 26 rfl (w.heap.size + 1) 48 i0 (.agg #[.bool false, .int .i64 0, .slice none 0 0, .int .i64 0]) 4 48 Tryz.underlying26 Hi.out Hz0.out Hz1.out Hz2.out rfl (by decide) v acts.length cs4.flatten (by simp [Act.eval, Act.put]) (HTD.out.g.own.alloc _) ⟨(wr6).heap.size, 0, none⟩ 1 1 [.bool false, .int .i64 mo.pl, .slice E3 u3 v3, .int .i64 (s2.num i : Int)] (by simp [Act.eval, Act.put]) rfl HNC.out (by simp [Value.oneCell']) (by unfold maxLen; omega) (by omega) (by have h : w.heap.size + 1 ≤ (wr6).heap.size := hle5; simp; omega) ?_
            intro v' w8 hown8 hg8 _ hv8
            have HLp8 := qh (HTD.out.push HRA.out rfl hown8 hg8 (by simpa using hv8))
            have hb8 : Below w.heap.size (wr6).drew w8 := (Far.trans (D := fun i => v.ownBlock = some i) ((Far.of_below _ ((Below.refl (wr6).drew.heap.size (wr6).drew).alloc (qr _) _))) (Far.of_grown hg8 fun i h => h.symm) fun _ _ h => h).below HKD.out.bel.size fun k e => by have := (HOWL.out k e).1; omega
            refine hK.out _ _ ⟨(hb8.cell hbl3).trans k0, (hb8.cell hbl3).trans k1⟩ (fun hHeld => ?_)
            clear hK K2 hb8 hown8 hg8 hv8
            (try simp only [Act.put, qsa, qsz, qss])
            first | (refine tkA (v := ?_) held_at11 ?_ ?_; rotate_left; focus ((intro w_ hSw; (try dsimp only at hSw); go_simp; (try with_reducible rfl)); done)) | (refine tkB held_at11 ?_)
            (try simp only [Act.put, qsa, qsz, qss])
            refine wpAnyH_done (by kernel_rfl) ?_ _
            clear k0 k1 hlkD
            go_wp2
            go_roundg (g7 - 1)
            case measure => have := HPN.out.1; omega
            case rel => exact ⟨s2, K, _, _, _, _, _, m, fuel - 1, rfl, qh (by have h := HPN.out.2; rw [HMK.out] at h; exact h), qh (by have h := HLp8.out; rw [← HFN.out] at h; exact h)⟩
           ·have hrp : (0 : Int) < (rn : Int) := by omega
            have hcyc := HPq.out.cyc
            have hyes : s.num i = 0 ∧ loopsB (RB (edgeB ps l) q) q old i = true := ⟨HZ0.out, by
             cases hl : loopsB (RB (edgeB ps l) q) q old i
             ·exact absurd (ringL_nil.2 hl) (fun e => hr0 (by rw [← HRN.out, e]; rfl))
             ·rfl⟩
            have HYES := qh hyes
            have HCYN : Hid (s2.cyc = s.cyc + 1) := qh (by rw [← HS2.out]; unfold stepP; rw [if_pos hyes])
            clear hyes hr0
            go_upto_region 42 with (at_builtin; refine wpList_append_own_at _ rfl _ _ 60 rfl wc.heap.size 3 j0 (.int .i64 0) 1 8 Tryz.underlying60 Hj0.out Hy0.out Hy1.out Hy2.out rfl (by decide) _ _ _ rfl (HRO.out.alloc _) ⟨wr6.heap.size, 0, none⟩ 1 1 [.int .i64 (i : Int)] rfl rfl ?q1 ?q2 ?q3 ?q4 ?q5 ?_)
            try (case q1 => exact cell_one_new _ _ _)
            try (case q2 => simp [Value.oneCell'])
            try (case q3 => unfold maxLen; omega)
            try (case q4 => omega)
            try (case q5 => (try simp); have := HBr.out.size; omega)
            intro v' w9 hown9 hg9 _ hv9
            have HB9 := qh ((HBr.out.trans (((Below.refl _ wr6).alloc (qr _) (.cells #[.int .i64 (i : Int)] 3)).mono HBr.out.size)).trans (below_of_grown hg9 (by have := HBr.out.size; simp; omega) fun j e => (HRO.out.lt j e).1))
            obtain ⟨A9, c9, rfl, hc91, hc92, hr9⟩ := own_form hown9
            have HR9 : Hid (RInts w9 (fun k => wc.heap.size ≤ k ∧ k < w9.heap.size) A9 (rn + 1) ((ringL (RB (edgeB ps l) q) q old i ++ [i]).map fun (k : Nat) => (k : Int))) := qh (by
             unfold RInts
             rw [List.map_append, List.map_append, List.map_map]; exact hr9)
            have HL9 := qh (HLp7.out.move HB9.out)
            obtain ⟨ys, hys⟩ : ∃ x, ringL (RB (edgeB ps l) q) q old i ++ [i] = x := ⟨_, rfl⟩
            rw [hys] at HR9
            have HYS := qh hys
            have HYQ : Hid (∀ z ∈ ys, z < q) := qh fun z hz => by
             rw [← hys, List.mem_append, List.mem_singleton] at hz
             rcases hz with hz | rfl
             ·exact (mem_ringL.1 hz).1.1
             ·exact hiq
            have HYL : Hid (ys.length = rn + 1) := qh (by rw [← hys, List.length_append, HRN.out]; rfl)
            have HGM := qh HLp7.out.mp.lt
            have hfew := HPq.out.few
            have HM9 : Hid (m ≤ 100000) := qh (by
             have h1 : q * (q + 1) ≤ 8 * 9 := Nat.mul_le_mul hq (by omega)
             have h2 : 0 ≤ g7 * (q + 1) := Nat.zero_le _
             omega)
            clear hown9 hg9 hv9 hr9 hys HLp9 hfew
            go_upto_region 42 with fail
            go_loopg [159] (rn + 1) (fun gk iv wr => ∃ (k m1 : Nat), Hid (k + gk = rn + 1) ∧ iv = .int .i64 k ∧ Hid (IntMap Tryz.prog wr wA.heap.size (numTo K ys ((s.cyc : Int) + 1) k) m1) ∧ Hid (m1 ≤ m + k) ∧ Hid (Far (fun k => k = wA.heap.size) w9 wr))
            case atStart => exact ⟨0, m, qh (Nat.zero_add _), rfl, qh (by rw [numTo_zero]; exact HL9.out.mp), qh (qr _), qh (Far.refl _ _)⟩
            case round =>
             obtain ⟨k, m1, Hk2, rfl, HMP, HM1, HF9⟩ := hrel
             by_cases hk2 : k < rn + 1
             ·obtain ⟨b8, o8, rfl, hb8, hc8⟩ := (HF9.out.ints HR9.out fun k hk => ⟨hk.2, by have := hk.1; have := HGM.out; omega⟩).at_ hk2
              have hkx : k < ys.length := by rw [HYL.out]; exact hk2
              obtain ⟨z, hz⟩ : ∃ z, ys[k]? = some z := ⟨_, List.getElem?_eq_getElem hkx⟩
              have hge : (ys.map fun (k : Nat) => (k : Int)).getD k 0 = (z : Int) := by rw [List.getD_eq_getElem?_getD, List.getElem?_map, hz]; rfl
              rw [hge] at hc8
              have hzq := HYQ.out z (List.mem_of_getElem? hz)
              have hwz : (Lit.int .i64 (z : Int)).wf = true := wf_of (by omega) (by omega)
              have hwcy : (Lit.int .i64 ((s.cyc : Int) + 1)).wf = true := wf_of (by omega) (by omega)
              obtain ⟨wP, hput, hset, hgP, hszP⟩ := HMP.out.put Tryz.underlying3 Tryz.underlying58 hwz hwcy (by have := HM1.out; have := HM9.out; unfold maxLen; omega)
              have HMP2 : Hid (IntMap Tryz.prog wP wA.heap.size (numTo K ys ((s.cyc : Int) + 1) (k + 1)) _) := qh (hset.congr rfl fun x _ => numTo_step hz x)
              have HF2 := qh (HF9.out.trans (Far.of_grown (D := fun k => k = wA.heap.size) hgP fun x e => by injection e) fun _ _ h => h)
              have hk21 : (k : Int) < (rn : Int) + 1 := by omega
              have hk20 : (0 : Int) ≤ (k : Int) := by omega
              have HMX : Hid ((if (numTo K ys ((s.cyc : Int) + 1) k (z : Int)).isSome then m1 else m1 + 1) ≤ m + (k + 1)) := qh (by have := HM1.out; split <;> omega)
              clear hge hz hset hgP hszP hkx
              go_wp2
              go_roundg (gk - 1)
              case measure => have := Hk2.out; omega
              case rel => exact ⟨k + 1, _, qh (by have := Hk2.out; omega), by go_num, HMP2, HMX, HF2⟩
             ·obtain rfl : k = rn + 1 := by have := Hk2.out; omega
              obtain ⟨w10, rfl⟩ : ∃ x : World, x = wr := ⟨_, rfl⟩
              obtain ⟨K2, hK2⟩ : ∃ x, numTo K ys ((s.cyc : Int) + 1) (rn + 1) = x := ⟨_, rfl⟩
              have hring := HPq.out.num.ring (K' := K2) HYES.out fun x => by
               rw [← hK2, numTo_all (by rw [HYL.out]; exact qr _), ← HYS.out]
               simp only [List.mem_append, List.mem_singleton]
              rw [hK2] at HMP
              have HLpX := qh (HL9.out.map HMP.out HF9.out)
              rw [HS2.out] at hring
              have HPN := qh (HPq.out.next HI.out (K' := K2) (m' := m1) (by rw [HS2.out]; exact hring.1) (by have := HM1.out; omega) (by rw [HS2.out, hring.2]; exact qr _))
              rw [HS2.out] at HPN
              have hki2 : (K2 (i : Int)).getD 0 = (s2.num i : Int) := hring.1 i hiq HOI.out
              have HKI := qh hki2
              have hc21 : (s.cyc : Int) + 1 = (s2.cyc : Int) := by rw [HCYN.out]; push_cast; rfl
              rw [hc21]
              have hk21 : ¬ ((rn + 1 : Nat) : Int) < (rn : Int) + 1 := by omega
              clear hring hki2 hc21 hK2 HMP HF9 HL9 HR9 HRO HKp7 HAL7
              have HTD := qh (HLpX.out.move (show Below (w10).heap.size w10 (w10).drew from below_drewN (Below.refl _ _) 1))
              have HKD := qh (HKp0.out.far HTD.out.far)
              obtain ⟨b3, o3, mo, E3, u3, v3, rfl, hbS3, hm3, huv3, hv3, hon3, k0, k1⟩ := (HC.out.s.under HKD.out.bel HC.out.lt).at_ hiq
              have HMK := qh (memAt_at hm3)
              have HRA : Hid (RAct (w10).drew (fun k => k < w.heap.size + 1) [.bool false, .int .i64 mo.pl, .slice E3 u3 v3, .int .i64 (s2.num i : Int)] ⟨false, mo, (s2.num i : Int)⟩) := qh ⟨E3, u3, v3, rfl, huv3, hv3, Row.more hon3 fun k hk => by have := HC.out.lt k hk; omega⟩
              have hlkD := HTD.out.mp.look Tryz.underlying3 (zeroIntR _) Tryz.underlying58 hwi
              rw [HKI.out] at hlkD
              have hbl3 : b3 < w.heap.size := HC.out.lt _ hbS3
              have hkd : ∀ wy : World, Below (w10).heap.size (w10).drew wy → wy.cell? ⟨b3, o3 + i * 2, none⟩ = some (.int .i64 mo.pl) ∧ wy.cell? ⟨b3, o3 + i * 2 + 1, none⟩ = some (.slice E3 u3 v3) := fun wy hb => ⟨(hb.cell (ql hbl3 HKD.out.bel.size)).trans k0, (hb.cell (ql hbl3 HKD.out.bel.size)).trans k1⟩
              have HKC := qh hkd
              have hlen16 := HPq.out.len
              have HOWL := qh (fun k e => (HTD.out.g.own.lt k e))
              clear hkd hon3 hm3
              go_upto_region 46 with fail
              refine wp_region_held_drew (S := (fun w' => w'.cell? ⟨b3, o3 + i * 2, none⟩ = some (.int .i64 mo.pl) ∧ w'.cell? ⟨b3, o3 + i * 2 + 1, none⟩ = some (.slice E3 u3 v3))) (by kernel_rfl) ⟨k0, k1⟩ (fun hHeld => ?_)
              first | (refine tkA (v := ?_) held_at0 ?_ ?_; rotate_left; focus ((intro w_ hSw; (try dsimp only at hSw); go_simp; (try with_reducible rfl)); done)) | (refine tkB held_at0 ?_)
              (try simp only [Act.put, qsa, qsz, qss])
              first | (refine tkA (v := ?_) held_at1 ?_ ?_; rotate_left; focus ((intro w_ hSw; (try dsimp only at hSw); go_simp; (try with_reducible rfl)); done)) | (refine tkB held_at1 ?_)
              (try simp only [Act.put, qsa, qsz, qss])
              first | (refine tkA (v := ?_) held_at2 ?_ ?_; rotate_left; focus ((intro w_ hSw; (try dsimp only at hSw); go_simp; (try with_reducible rfl)); done)) | (refine tkB held_at2 ?_)
              (try simp only [Act.put, qsa, qsz, qss])
              first | (refine tkA (v := ?_) held_at3 ?_ ?_; rotate_left; focus ((intro w_ hSw; (try dsimp only at hSw); go_simp; (try with_reducible rfl)); done)) | (refine tkB held_at3 ?_)
              (try simp only [Act.put, qsa, qsz, qss])
              first | (refine tkA (v := ?_) held_at4 ?_ ?_; rotate_left; focus ((intro w_ hSw; (try dsimp only at hSw); go_simp; (try with_reducible rfl)); done)) | (refine tkB held_at4 ?_)
              (try simp only [Act.put, qsa, qsz, qss])
              first | (refine tkA (v := ?_) held_at5 ?_ ?_; rotate_left; focus ((intro w_ hSw; (try dsimp only at hSw); go_simp; (try with_reducible rfl)); done)) | (refine tkB held_at5 ?_)
              (try simp only [Act.put, qsa, qsz, qss])
              first | (refine tkA (v := ?_) held_at6 ?_ ?_; rotate_left; focus ((intro w_ hSw; (try dsimp only at hSw); go_simp; (try with_reducible rfl)); done)) | (refine tkB held_at6 ?_)
              (try simp only [Act.put, qsa, qsz, qss])
              refine wpAnyH_ready (rs := [7]) (by kernel_rfl) (by simp) ?_
              refine AllReadyH.cons held_at7 (fun K2 hK => ?_) AllReadyH.nil
              (try simp only [qsa, qsz, qss])
              go_simp
              refine hK.out _ _ ⟨k0, k1⟩ (fun hHeld => ?_)
              clear hK K2
              (try simp only [Act.put, qsa, qsz, qss])
              first | (refine tkA (v := ?_) held_at8 ?_ ?_; rotate_left; focus ((intro w_ hSw; (try dsimp only at hSw); go_simp; (try with_reducible rfl)); done)) | (refine tkB held_at8 ?_)
              (try simp only [Act.put, qsa, qsz, qss])
              refine wpAnyH_ready (rs := [9]) (by kernel_rfl) (by simp) ?_
              refine AllReadyH.cons held_at9 (fun K2 hK => ?_) AllReadyH.nil
              (try simp only [qsa, qsz, qss])
              go_simp
              have hal := (Below.refl (w10).heap.size (w10).drew).alloc (qr _) (.cells #[.bool false, .int .i64 mo.pl, .slice E3 u3 v3, .int .i64 (s2.num i : Int)] 48)
              refine hK.out _ _ (HKC.out _ hal) (fun hHeld => ?_)
              clear hK K2
              (try simp only [Act.put, qsa, qsz, qss])
              refine wpAnyH_ready (rs := [10]) (by kernel_rfl) (by simp) ?_
              refine AllReadyH.cons held_at10 (fun K2 hK => ?_) AllReadyH.nil
              have HNC := qh (cells_new (w10).drew (w10).heap.size [.bool false, .int .i64 mo.pl, .slice E3 u3 v3, .int .i64 (s2.num i : Int)] 48 rfl)
              have hle5 := HTD.out.g.le
              refine step_append_ownO rfl (.tmp 167) (.tmp 176) 26 rfl (w.heap.size + 1) 48 i0 (.agg #[.bool false, .int .i64 0, .slice none 0 0, .int .i64 0]) 4 48 Tryz.underlying26 Hi.out Hz0.out Hz1.out Hz2.out rfl (by decide) v acts.length cs4.flatten (by simp [Act.eval, Act.put]) (HTD.out.g.own.alloc _) ⟨(w10).heap.size, 0, none⟩ 1 1 [.bool false, .int .i64 mo.pl, .slice E3 u3 v3, .int .i64 (s2.num i : Int)] (by simp [Act.eval, Act.put]) rfl HNC.out (by simp [Value.oneCell']) (by unfold maxLen; omega) (by omega) (by have h : w.heap.size + 1 ≤ (w10).heap.size := hle5; simp; omega) ?_
              intro v' w8 hown8 hg8 _ hv8
              have HLp8 := qh (HTD.out.push HRA.out rfl hown8 hg8 (by simpa using hv8))
              have hb8 : Below w.heap.size (w10).drew w8 := (Far.trans (D := fun i => v.ownBlock = some i) ((Far.of_below _ ((Below.refl (w10).drew.heap.size (w10).drew).alloc (qr _) _))) (Far.of_grown hg8 fun i h => h.symm) fun _ _ h => h).below HKD.out.bel.size fun k e => by have := (HOWL.out k e).1; omega
              refine hK.out _ _ ⟨(hb8.cell hbl3).trans k0, (hb8.cell hbl3).trans k1⟩ (fun hHeld => ?_)
              clear hK K2 hb8 hown8 hg8 hv8
              (try simp only [Act.put, qsa, qsz, qss])
              first | (refine tkA (v := ?_) held_at11 ?_ ?_; rotate_left; focus ((intro w_ hSw; (try dsimp only at hSw); go_simp; (try with_reducible rfl)); done)) | (refine tkB held_at11 ?_)
              (try simp only [Act.put, qsa, qsz, qss])
              refine wpAnyH_done (by kernel_rfl) ?_ _
              clear k0 k1 hlkD
              go_wp2
              go_roundg (g7 - 1)
              case measure => have := HPN.out.1; omega
              case rel => exact ⟨s2, K2, _, _, _, _, _, m1, fuel - 1, rfl, qh (by have h := HPN.out.2; rw [HMK.out] at h; exact h), qh (by have h := HLp8.out; rw [← HFN.out] at h; exact h)⟩
        ·have hsame := HPq.out.num.same (r := RB (edgeB ps l) q) (i := i) fun h => hz h.1
         rw [HS2.out] at hsame
         have HPN := qh (HPq.out.next HI.out (K' := K) (m' := m) (by rw [HS2.out]; exact hsame.1) (by omega) (by rw [HS2.out, hsame.2]; omega))
         rw [HS2.out] at HPN
         have hnum : s2.num i = s.num i := by rw [← HS2.out]; unfold stepP; rw [if_neg fun h => hz h.1]
         have hki2 : (K (i : Int)).getD 0 = (s2.num i : Int) := by rw [hnum]; exact HKI0.out
         have HKI := qh hki2
         have HCY : Hid (s2.cyc = s.cyc) := qh hsame.2
         have hzb : ((s.num i : Int) == 0) = false := by simpa using hz
         rw [← HCY.out]
         clear hsame hnum hki2 hz
         have HTD := qh (HLp7.out.move (show Below (wc).heap.size wc (wc).drew from below_drewN (Below.refl _ _) 1))
         have HKD := qh (HKp0.out.far HTD.out.far)
         obtain ⟨b3, o3, mo, E3, u3, v3, rfl, hbS3, hm3, huv3, hv3, hon3, k0, k1⟩ := (HC.out.s.under HKD.out.bel HC.out.lt).at_ hiq
         have HMK := qh (memAt_at hm3)
         have HRA : Hid (RAct (wc).drew (fun k => k < w.heap.size + 1) [.bool false, .int .i64 mo.pl, .slice E3 u3 v3, .int .i64 (s2.num i : Int)] ⟨false, mo, (s2.num i : Int)⟩) := qh ⟨E3, u3, v3, rfl, huv3, hv3, Row.more hon3 fun k hk => by have := HC.out.lt k hk; omega⟩
         have hlkD := HTD.out.mp.look Tryz.underlying3 (zeroIntR _) Tryz.underlying58 hwi
         rw [HKI.out] at hlkD
         have hbl3 : b3 < w.heap.size := HC.out.lt _ hbS3
         have hkd : ∀ wy : World, Below (wc).heap.size (wc).drew wy → wy.cell? ⟨b3, o3 + i * 2, none⟩ = some (.int .i64 mo.pl) ∧ wy.cell? ⟨b3, o3 + i * 2 + 1, none⟩ = some (.slice E3 u3 v3) := fun wy hb => ⟨(hb.cell (ql hbl3 HKD.out.bel.size)).trans k0, (hb.cell (ql hbl3 HKD.out.bel.size)).trans k1⟩
         have HKC := qh hkd
         have hlen16 := HPq.out.len
         have HOWL := qh (fun k e => (HTD.out.g.own.lt k e))
         clear hkd hon3 hm3
         go_upto_region 46 with fail
         refine wp_region_held_drew (S := (fun w' => w'.cell? ⟨b3, o3 + i * 2, none⟩ = some (.int .i64 mo.pl) ∧ w'.cell? ⟨b3, o3 + i * 2 + 1, none⟩ = some (.slice E3 u3 v3))) (by kernel_rfl) ⟨k0, k1⟩ (fun hHeld => ?_)
         first | (refine tkA (v := ?_) held_at0 ?_ ?_; rotate_left; focus ((intro w_ hSw; (try dsimp only at hSw); go_simp; (try with_reducible rfl)); done)) | (refine tkB held_at0 ?_)
         (try simp only [Act.put, qsa, qsz, qss])
         first | (refine tkA (v := ?_) held_at1 ?_ ?_; rotate_left; focus ((intro w_ hSw; (try dsimp only at hSw); go_simp; (try with_reducible rfl)); done)) | (refine tkB held_at1 ?_)
         (try simp only [Act.put, qsa, qsz, qss])
         first | (refine tkA (v := ?_) held_at2 ?_ ?_; rotate_left; focus ((intro w_ hSw; (try dsimp only at hSw); go_simp; (try with_reducible rfl)); done)) | (refine tkB held_at2 ?_)
         (try simp only [Act.put, qsa, qsz, qss])
         first | (refine tkA (v := ?_) held_at3 ?_ ?_; rotate_left; focus ((intro w_ hSw; (try dsimp only at hSw); go_simp; (try with_reducible rfl)); done)) | (refine tkB held_at3 ?_)
         (try simp only [Act.put, qsa, qsz, qss])
         first | (refine tkA (v := ?_) held_at4 ?_ ?_; rotate_left; focus ((intro w_ hSw; (try dsimp only at hSw); go_simp; (try with_reducible rfl)); done)) | (refine tkB held_at4 ?_)
         (try simp only [Act.put, qsa, qsz, qss])
         first | (refine tkA (v := ?_) held_at5 ?_ ?_; rotate_left; focus ((intro w_ hSw; (try dsimp only at hSw); go_simp; (try with_reducible rfl)); done)) | (refine tkB held_at5 ?_)
         (try simp only [Act.put, qsa, qsz, qss])
         first | (refine tkA (v := ?_) held_at6 ?_ ?_; rotate_left; focus ((intro w_ hSw; (try dsimp only at hSw); go_simp; (try with_reducible rfl)); done)) | (refine tkB held_at6 ?_)
         (try simp only [Act.put, qsa, qsz, qss])
         refine wpAnyH_ready (rs := [7]) (by kernel_rfl) (by simp) ?_
         refine AllReadyH.cons held_at7 (fun K2 hK => ?_) AllReadyH.nil
         (try simp only [qsa, qsz, qss])
         go_simp
         refine hK.out _ _ ⟨k0, k1⟩ (fun hHeld => ?_)
         clear hK K2
         (try simp only [Act.put, qsa, qsz, qss])
         first | (refine tkA (v := ?_) held_at8 ?_ ?_; rotate_left; focus ((intro w_ hSw; (try dsimp only at hSw); go_simp; (try with_reducible rfl)); done)) | (refine tkB held_at8 ?_)
         (try simp only [Act.put, qsa, qsz, qss])
         refine wpAnyH_ready (rs := [9]) (by kernel_rfl) (by simp) ?_
         refine AllReadyH.cons held_at9 (fun K2 hK => ?_) AllReadyH.nil
         (try simp only [qsa, qsz, qss])
         go_simp
         have hal := (Below.refl (wc).heap.size (wc).drew).alloc (qr _) (.cells #[.bool false, .int .i64 mo.pl, .slice E3 u3 v3, .int .i64 (s2.num i : Int)] 48)
         refine hK.out _ _ (HKC.out _ hal) (fun hHeld => ?_)
         clear hK K2
         (try simp only [Act.put, qsa, qsz, qss])
         refine wpAnyH_ready (rs := [10]) (by kernel_rfl) (by simp) ?_
         refine AllReadyH.cons held_at10 (fun K2 hK => ?_) AllReadyH.nil
         have HNC := qh (cells_new (wc).drew (wc).heap.size [.bool false, .int .i64 mo.pl, .slice E3 u3 v3, .int .i64 (s2.num i : Int)] 48 rfl)
         have hle5 := HTD.out.g.le
         refine step_append_ownO rfl (.tmp 167) (.tmp 176) 26 rfl (w.heap.size + 1) 48 i0 (.agg #[.bool false, .int .i64 0, .slice none 0 0, .int .i64 0]) 4 48 Tryz.underlying26 Hi.out Hz0.out Hz1.out Hz2.out rfl (by decide) v acts.length cs4.flatten (by simp [Act.eval, Act.put]) (HTD.out.g.own.alloc _) ⟨(wc).heap.size, 0, none⟩ 1 1 [.bool false, .int .i64 mo.pl, .slice E3 u3 v3, .int .i64 (s2.num i : Int)] (by simp [Act.eval, Act.put]) rfl HNC.out (by simp [Value.oneCell']) (by unfold maxLen; omega) (by omega) (by have h : w.heap.size + 1 ≤ (wc).heap.size := hle5; simp; omega) ?_
         intro v' w8 hown8 hg8 _ hv8
         have HLp8 := qh (HTD.out.push HRA.out rfl hown8 hg8 (by simpa using hv8))
         have hb8 : Below w.heap.size (wc).drew w8 := (Far.trans (D := fun i => v.ownBlock = some i) ((Far.of_below _ ((Below.refl (wc).drew.heap.size (wc).drew).alloc (qr _) _))) (Far.of_grown hg8 fun i h => h.symm) fun _ _ h => h).below HKD.out.bel.size fun k e => by have := (HOWL.out k e).1; omega
         refine hK.out _ _ ⟨(hb8.cell hbl3).trans k0, (hb8.cell hbl3).trans k1⟩ (fun hHeld => ?_)
         clear hK K2 hb8 hown8 hg8 hv8
         (try simp only [Act.put, qsa, qsz, qss])
         first | (refine tkA (v := ?_) held_at11 ?_ ?_; rotate_left; focus ((intro w_ hSw; (try dsimp only at hSw); go_simp; (try with_reducible rfl)); done)) | (refine tkB held_at11 ?_)
         (try simp only [Act.put, qsa, qsz, qss])
         refine wpAnyH_done (by kernel_rfl) ?_ _
         clear k0 k1 hlkD
         go_wp2
         go_roundg (g7 - 1)
         case measure => have := HPN.out.1; omega
         case rel => exact ⟨s2, K, _, _, _, _, _, m, fuel - 1, rfl, qh (by have h := HPN.out.2; rw [HMK.out] at h; exact h), qh (by have h := HLp8.out; rw [← HFN.out] at h; exact h)⟩
end
end Go.Proofs.YtpipgffbhpnmkaaGreatDoor
