/- Parts of the proof: walks and plain laws, side by side. -/
import Derived.Test.YtedbhlgjcnnknaaGreatDoorP18
import Derived.Test.YtedbhlgjcnnknaaGreatDoorP28
import Derived.Test.YtedbhlgjcnnknaaGreatDoorP26
import Derived.Test.YtedbhlgjcnnknaaGreatDoorP23
import Derived.Test.YtedbhlgjcnnknaaGreatDoorP24
import Derived.Test.YtedbhlgjcnnknaaGreatDoorP25
import Derived.Test.YtedbhlgjcnnknaaGreatDoorP4
import Derived.Test.YtedbhlgjcnnknaaGreatDoorP1
import Derived.ProofKit
import Derived.ChangeOld
import Derived.Lib.SmallJoins
import Derived.Deep.Matrix
import Derived.Deep.Grids
set_option linter.unusedVariables false
set_option linter.unusedSimpArgs false
set_option linter.unusedSectionVars false
set_option maxRecDepth 100000
set_option maxHeartbeats 12800000
namespace Go.Proofs.YtedbhlgjcnnknaaGreatDoor
section
open Go.RowKit Qm
theorem badOn_num {q0 q1 y x1 : Int} (h1 : 0 ≤ q1) (h2 : q1 ≤ 9) (h3 : 0 ≤ x1) (h4 : x1 ≤ 9) : badOn (some (q0, q1)) (y, x1) = decide (10 * y + x1 ≤ 10 * q0 + q1) := by
 simp only [badOn]
 by_cases hq : q0 < y
 ·rw [qdt hq, qdf (show ¬ 10 * y + x1 ≤ 10 * q0 + q1 by omega)]; rfl
 ·rw [qdf hq, Bool.false_or]
  by_cases he : q0 = y
  ·rw [qdt he, Bool.true_and]
   by_cases hx : q1 < x1
   ·rw [qdt hx, qdf (by omega)]; rfl
   ·rw [qdf hx, qdt (by omega)]; rfl
  ·rw [qdf he, Bool.false_and, qdt (by omega)]; rfl
theorem rcwish_any (ps : List Pk) (v : Ws) (S : Nat → Prop) (A : Option Addr) (n c : Nat) (A1 A2 A3 A4 : Option Addr) (n1 c1 n2 c2 n3 c3 n4 c4 : Nat) (w : World) (hT : RTree w S A n ps) (hck : ckTree ps = 0) (hnc : n ≤ c) (hc : c ≤ maxLen) (hV : WsAt w S A1 n1 c1 A2 n2 c2 A3 n3 c3 A4 n4 c4 v) (hS : ∀ k, S k → k < w.heap.size) :
  Calls Tryz.prog 66 #[.agg #[.slice A n c], .agg #[.slice A1 n1 c1, .slice A2 n2 c2, .slice A3 n3 c3, .slice A4 n4 c4]] w fun e w' => e = .returned (.int .i64 (ckWish ps v)) ∧ Below w.heap.size w w' := by
 have Hpl := qh hT.len
 have X0 := qh (Wb.new w A n c [.slice A1 n1 c1, .slice A2 n2 c2, .slice A3 n3 c3, .slice A4 n4 c4])
 have HT := qh hT; have HS := qh hS; have HV := qh hV; clear hT hS hV
 have hl0 := fun q hq => ql (HS.out q hq) X0.out.bel.size
 have hn8 : n ≤ 8 := by rw [← Hpl.out]; exact ckTree_len hck
 have HOK : Hid (∀ p ∈ ps, p.fs.length ≤ 2) := qh fun p hp => (pkOk (ckTree_mem hck p hp)).len
 have Hcs := qh (rcset_any ps v.ins S A A2 n c n2 c2 _ (HT.out.under X0.out.bel HS.out) hn8 hnc hc (HV.out.ins.under X0.out.bel HS.out) (qlt HV.out.h2.1 HV.out.h2.2) hl0)
 clear hl0
 have H1 := HV.out.h1; have H2 := HV.out.h2; have H3 := HV.out.h3; have H4 := HV.out.h4
 unfold maxLen at hc H1 H2 H3 H4
 have hts := HV.out.ts.len
 have hms := HV.out.ms.len
 have hon := HV.out.on.len
 have HR : Hid (ckWish ps v = if ckMs ps none v.ins ≠ 0 then ckMs ps none v.ins else ckWishR ps v) := qh (by unfold ckWish ckSet; rw [if_neg (show ¬ (ckTree ps ≠ 0) by simp [hck])])
 clear hck
 have HR1 : Hid (ckWishR ps v = if 6 < v.ts.length then 2 else if ckAts v.ts ≠ 0 then ckAts v.ts else if ckMask ps none v.ms ≠ 0 then ckMask ps none v.ms else ckOn ps none v.on) := qh rfl
 generalize ckWish ps v = R at HR ⊢
 generalize hz : ckMs ps none v.ins = z at Hcs HR
 have HZ := qh hz; clear hz
 have Hts := qh hts; have Hms := qh hms; have Hon := qh hon
 clear hts hms hon
 by_cases z0 : z = 0
 ·subst z0
  have HR2 : Hid (R = if 6 < n1 then 2 else if ckAts v.ts ≠ 0 then ckAts v.ts else if ckMask ps none v.ms ≠ 0 then ckMask ps none v.ms else ckOn ps none v.on) := qh (by rw [HR.out, if_neg (by simp), HR1.out, Hts.out])
  clear HR HR1
  by_cases h6 : (6 : Int) < n1
  ·
   go_enter Tryz.func66, Tryz.ntmps66
   go_wp2_with (first | (go_at_call 25; refine Hcs.out.mono ?_; rintro e w2 ⟨rfl, hb2⟩; refine Hid.out ?_))
   refine qh ?_
   have X2 := qh (X0.out.move hb2)
   clear hb2 X0 Hcs
   have v0 := X2.out.v.cell 0
   simp only [qgz] at v0
   go_wp2
   go_ret
   exact ⟨ret_int (by rw [HR2.out, if_pos (by omega)]), X2.out.bel⟩
  have h6' : decide ((6 : Int) < n1) = false := qdf h6
  have HRA : Hid (R = if ckAts v.ts ≠ 0 then ckAts v.ts else if ckMask ps none v.ms ≠ 0 then ckMask ps none v.ms else ckOn ps none v.on) := qh (by rw [HR2.out, if_neg (by omega)])
  clear HR2
  go_enter Tryz.func66, Tryz.ntmps66
  go_wp2_with (first | (go_at_call 25; refine Hcs.out.mono ?_; rintro e w2 ⟨rfl, hb2⟩; refine Hid.out ?_))
  refine qh ?_
  have X2 := qh (X0.out.move hb2)
  clear hb2 X0 Hcs
  have v0 := X2.out.v.cell 0
  simp only [qgz] at v0
  have vlt := X2.out.v.lt
  go_wp2
  clear v0 vlt
  go_loopg [29] n1 (fun g iv wr => ∃ j : Nat, Hid (j + g = n1) ∧ iv = .int .i64 j ∧ Hid (ckAts v.ts = ckAts (v.ts.drop j)) ∧ Hid (Wb w A n c [.slice A1 n1 c1, .slice A2 n2 c2, .slice A3 n3 c3, .slice A4 n4 c4] wr))
  case atStart => exact ⟨0, qh (Nat.zero_add _), rfl, qh rfl, X2⟩
  case round =>
   obtain ⟨j, Hj, rfl, Hcl, XR⟩ := hrel
   clear X2
   by_cases hj : j < n1
   ·obtain ⟨b, o, x, a, rfl, hbS, ha, hxa, _, hcell⟩ := (HV.out.ts.keep (w' := wr) (fun p hp => XR.out.bel.cell (HS.out _ hp)) fun _ _ h => h).at_ hj (by decide)
    obtain ⟨rfl, ha1, ha2⟩ := hxa
    have Hst := qh (ckAts_step ha)
    have hac := fun wx => rcheck_any ⟨a.nm.toArray⟩ ⟨a.fl.toArray⟩ a.op a.ver a.slot a.on wx (by rw [bsz]; exact ha1) (by rw [bsz]; exact ha2)
    rw [atOf_mk] at hac
    unfold atv at hac
    generalize ckAtom a = y at hac Hst
    have Hac := qh hac; clear hac
    have g0 := hcell 0 (by omega); have g1 := hcell 1 (by omega); have g2 := hcell 2 (by omega); have g3 := hcell 3 (by omega); have g4 := hcell 4 (by omega); have g5 := hcell 5 (by omega)
    unfold atRow at g0 g1 g2 g3 g4 g5
    simp only [qgz, qgs, Nat.add_zero] at g0 g1 g2 g3 g4 g5
    have X3 := qh (XR.out.alloc (.cells #[.string ⟨a.nm.toArray⟩, .int .i64 a.op, .int .i64 a.ver, .int .i64 a.slot, .string ⟨a.fl.toArray⟩, .bool a.on] 75))
    clear hcell ha ha1 ha2
    go_wp2_with (first | (go_at_call 93; refine (Hac.out _).mono ?_; rintro e w4 ⟨rfl, hb4⟩; refine Hid.out ?_))
    refine qh ?_
    have X4 := qh (X3.out.move hb4)
    clear hb4 g0 g1 g2 g3 g4 g5
    by_cases y0 : y = 0
    ·subst y0
     have HE : Hid (ckAts (v.ts.drop j) = ckAts (v.ts.drop (j + 1))) := qh (by rw [Hst.out, if_neg (by simp)])
     go_wp2
     go_roundg (gk - 1)
     case measure => have := Hj.out; omega
     case rel => exact ⟨j + 1, qh (by have := Hj.out; omega), by go_num, qh (by rw [Hcl.out, HE.out]), X4⟩
    ·have y1 : (y != 0) = true := by simpa using y0
     have HE : Hid (ckAts v.ts = y) := qh (by rw [Hcl.out, Hst.out, if_pos y0])
     go_wp2
     go_ret
     exact ⟨ret_int (by rw [HRA.out, HE.out, if_pos y0]), X4.out.bel⟩
   ·obtain rfl : n1 = j := by have := Hj.out; omega
    have HRB : Hid (R = if ckMask ps none v.ms ≠ 0 then ckMask ps none v.ms else ckOn ps none v.on) := qh (by
     rw [HRA.out, Hcl.out, List.drop_of_length_le (by have := Hts.out; omega)]; rfl)
    clear HRA Hcl
    have v2 := XR.out.v.cell 2
    simp only [qgz, qgs] at v2
    go_wp2
    clear v2
    obtain ⟨wq, hwq⟩ : ∃ x, x = wr := ⟨_, rfl⟩
    rw [← hwq] at XR ⊢
    clear hwq
    go_loopg [42] n3 (fun g iv wr => ∃ j : Nat, Hid (j + g = n3) ∧ iv = .int .i64 j ∧ Hid (ckMask ps none v.ms = ckMask ps (prevOf v.ms j) (v.ms.drop j)) ∧ Hid (Wb w A n c [.slice A1 n1 c1, .slice A2 n2 c2, .slice A3 n3 c3, .slice A4 n4 c4] wr))
    case atStart => exact ⟨0, qh (Nat.zero_add _), rfl, qh rfl, XR⟩
    case round =>
     obtain ⟨j, Hj, rfl, Hcl, XQ⟩ := hrel
     clear XR
     by_cases hj : j < n3
     ·obtain ⟨b, o, rfl, hbS, g0⟩ := RInts.at_ (RInts.keep (w' := wr) HV.out.ms fun p hp => XQ.out.bel.cell (HS.out _ hp)) hj
      have Hst := qh (ckMask_step (ps := ps) (getD_some (l := v.ms) (j := j) (by have := Hms.out; omega)))
      have hbl : b < wr.heap.size := ql (HS.out _ hbS) XQ.out.bel.size
      have t0 := XQ.out.t.cell 0
      have v2 := XQ.out.v.cell 2
      simp only [qgz, qgs] at t0 v2
      generalize v.ms.getD j 0 = x at g0 Hst
      by_cases hneg : x < 0
      ·have HE : Hid (ckMask ps none v.ms = 5) := qh (by rw [Hcl.out, Hst.out, if_pos (.inl hneg)])
       have hneg' : decide (x < 0) = true := qdt hneg
       go_wp2
       go_ret
       exact ⟨ret_int (by rw [HRB.out, HE.out, if_pos (by decide)]), XQ.out.bel⟩
      have hneg' : decide (x < 0) = false := qdf hneg
      by_cases hpn : (n : Int) ≤ x
      ·have HE : Hid (ckMask ps none v.ms = 5) := qh (by rw [Hcl.out, Hst.out, if_pos (.inr (by rw [Hpl.out]; exact hpn))])
       have hpn' : decide ((n : Int) ≤ x) = true := qdt hpn
       go_wp2
       go_ret
       exact ⟨ret_int (by rw [HRB.out, HE.out, if_pos (by decide)]), XQ.out.bel⟩
      have hpn' : decide ((n : Int) ≤ x) = false := qdf hpn
      have HSt2 : Hid (ckMask ps none v.ms = if badPl (prevOf v.ms j) x = true then 6 else ckMask ps (prevOf v.ms (j + 1)) (v.ms.drop (j + 1))) := qh (by rw [Hcl.out, Hst.out, if_neg (by have := Hpl.out; omega)])
      clear Hst Hcl
      rcases j with _ | i
      ·have HE : Hid (ckMask ps none v.ms = ckMask ps (prevOf v.ms (0 + 1)) (v.ms.drop (0 + 1))) := qh (by rw [HSt2.out, if_neg (by rw [prevOf_zero]; simp [badPl])])
       simp only [Nat.add_zero] at g0
       go_wp2
       go_roundg (gk - 1)
       case measure => have := Hj.out; omega
       case rel => exact ⟨0 + 1, qh (by have := Hj.out; omega), by go_num, HE, XQ⟩
      ·obtain ⟨b', o', e, _, k0⟩ := RInts.at_ (RInts.keep (w' := wr) HV.out.ms fun p hp => XQ.out.bel.cell (HS.out _ hp)) (k := i) (by omega)
       injection e with e; injection e with e1 e2; subst e1 e2
       have Hpr : Hid (prevOf v.ms (i + 1) = some (v.ms.getD i 0)) := qh (prevOf_succ (getD_some (by have := Hms.out; omega)))
       have HSt3 : Hid (ckMask ps none v.ms = if badPl (some (v.ms.getD i 0)) x = true then 6 else ckMask ps (prevOf v.ms (i + 1 + 1)) (v.ms.drop (i + 1 + 1))) := qh (by rw [HSt2.out, Hpr.out])
       clear HSt2
       generalize v.ms.getD i 0 = pp at k0 HSt3
       have hwr : IntKind.i64.wrap ((i : Int) + 1 - 1) = (i : Int) := by rw [IntKind.wrap_i64]; omega
       have hwr0 : IntKind.i64.wrap (i : Int) = (i : Int) := by rw [IntKind.wrap_i64]; omega
       have hin : i < n3 := by omega
       have hin2 : (i : Int) < n3 := by omega
       have hin3 : (0 : Int) < (i : Int) + 1 := by omega
       by_cases hb : x ≤ pp
       ·have HE : Hid (ckMask ps none v.ms = 6) := qh (by rw [HSt3.out, if_pos (by simpa [badPl] using hb)])
        have hb' : decide (x ≤ pp) = true := qdt hb
        go_wp2
        go_ret
        exact ⟨ret_int (by rw [HRB.out, HE.out, if_pos (by decide)]), XQ.out.bel⟩
       ·have HE : Hid (ckMask ps none v.ms = ckMask ps (prevOf v.ms (i + 1 + 1)) (v.ms.drop (i + 1 + 1))) := qh (by rw [HSt3.out, if_neg (by simpa [badPl] using hb)])
        have hb' : decide (x ≤ pp) = false := qdf hb
        go_wp2
        go_roundg (gk - 1)
        case measure => have := Hj.out; omega
        case rel => exact ⟨i + 1 + 1, qh (by have := Hj.out; omega), by go_num, HE, XQ⟩
     ·obtain rfl : n3 = j := by have := Hj.out; omega
      have HRC : Hid (R = ckOn ps none v.on) := qh (by
       rw [HRB.out, Hcl.out, List.drop_of_length_le (by have := Hms.out; omega)]; rfl)
      clear HRB Hcl
      have v3 := XQ.out.v.cell 3
      simp only [qgz, qgs] at v3
      go_wp2
      clear v3
      obtain ⟨wu, hwu⟩ : ∃ x, x = wr := ⟨_, rfl⟩
      rw [← hwu] at XQ ⊢
      clear hwu
      go_loopg [11, 72] n4 (fun g lv iv wr => ∃ (j : Nat) (la : Int), Hid (j + g = n4) ∧ iv = .int .i64 j ∧ lv = .int .i64 la ∧ -1 ≤ la ∧ la ≤ 1000 ∧ Hid (j = 0 → la = -1) ∧ Hid (∀ q, prevOf v.on j = some q → la = 10 * q.1 + q.2 ∧ 0 ≤ q.2 ∧ q.2 ≤ 9) ∧ Hid (ckOn ps none v.on = ckOn ps (prevOf v.on j) (v.on.drop j)) ∧ Hid (Wb w A n c [.slice A1 n1 c1, .slice A2 n2 c2, .slice A3 n3 c3, .slice A4 n4 c4] wr))
      case atStart => exact ⟨0, -1, qh (Nat.zero_add _), rfl, rfl, by omega, by omega, qh (fun _ => rfl), qh (fun q h => by rw [prevOf_zero] at h; cases h), qh rfl, XQ⟩
      case round =>
       obtain ⟨j, la, Hj, rfl, rfl, hla1, hla2, Hl0, Hla, Hcl, XT⟩ := hrel
       clear XQ
       by_cases hj : j < n4
       ·obtain ⟨b, o, x, y, rfl, hbS, hy, hxy, _, hcell⟩ := (HV.out.on.keep (w' := wr) (fun p hp => XT.out.bel.cell (HS.out _ hp)) fun _ _ h => h).at_ hj (by decide)
        have Hst := qh (ckOn_step (ps := ps) hy)
        have hyq := qh hy
        unfold RPair at hxy
        subst hxy
        obtain ⟨x0, x1⟩ := y
        have hbl : b < wr.heap.size := ql (HS.out _ hbS) XT.out.bel.size
        have g0 := hcell 0 (by omega); have g1 := hcell 1 (by omega)
        simp only [qgz, qgs, Nat.add_zero] at g0 g1
        dsimp only at Hst
        have X3 := qh (XT.out.alloc (.cells #[.int .i64 x0, .int .i64 x1] 86))
        have t0 := XT.out.t.cell 0
        have v3 := XT.out.v.cell 3
        simp only [qgz, qgs] at t0 v3
        have vlt := XT.out.v.lt
        have tlt := XT.out.t.lt
        clear hcell hy
        have HR3 : Hid (R = ckOn ps none v.on) := HRC
        by_cases hneg : x0 < 0
        ·have HE : Hid (ckOn ps (prevOf v.on j) (v.on.drop j) = 5) := qh (by rw [Hst.out, if_pos (.inl hneg)])
         have hneg' : decide (x0 < 0) = true := qdt hneg
         go_wp2
         go_quiet (fail)
         go_wp2
         go_ret
         exact ⟨ret_int (by rw [HR3.out, Hcl.out, HE.out]), below_drewN X3.out.bel _⟩
        have hneg' : decide (x0 < 0) = false := qdf hneg
        by_cases hpn : (n : Int) ≤ x0
        ·have HE : Hid (ckOn ps (prevOf v.on j) (v.on.drop j) = 5) := qh (by rw [Hst.out, if_pos (.inr (.inl (by rw [Hpl.out]; exact hpn)))])
         have hpn' : decide ((n : Int) ≤ x0) = true := qdt hpn
         go_wp2
         go_quiet (fail)
         go_wp2
         go_ret
         exact ⟨ret_int (by rw [HR3.out, Hcl.out, HE.out]), below_drewN X3.out.bel _⟩
        have hpn' : decide ((n : Int) ≤ x0) = false := qdf hpn
        by_cases hneg1 : x1 < 0
        ·have HE : Hid (ckOn ps (prevOf v.on j) (v.on.drop j) = 5) := qh (by rw [Hst.out, if_pos (.inr (.inr (.inl hneg1)))])
         have hneg1' : decide (x1 < 0) = true := qdt hneg1
         go_wp2
         go_quiet (fail)
         go_wp2
         go_ret
         exact ⟨ret_int (by rw [HR3.out, Hcl.out, HE.out]), below_drewN X3.out.bel _⟩
        have hneg1' : decide (x1 < 0) = false := qdf hneg1
        obtain ⟨y, rfl⟩ : ∃ y : Nat, x0 = y := ⟨x0.toNat, by omega⟩
        have hyn : y < n := by omega
        obtain ⟨b2, o2, p, D, fn, fc, kd, pa, f, no, F, fq, fd, rfl, hbS2, hp, hP, hcell⟩ := (HT.out.under XT.out.bel HS.out).at_ hyn
        have h3 := hcell 3 (by omega)
        unfold pkRow ndRow at h3
        simp only [qgz, qgs] at h3
        have Hfl : Hid ((pkOf ps (y : Int)).fs.length = fn) := qh (by unfold pkOf; rw [Int.toNat_natCast, qgd, hp]; exact hP.fs.len)
        have hbl2 : b2 < wr.heap.size := ql (HS.out _ hbS2) XT.out.bel.size
        have hy0 : (0 : Int) ≤ (y : Int) := by omega
        have hy1 : (y : Int) < n := by omega
        have Hf2 : Hid (fn ≤ 2) := qh (by have := HOK.out p (List.mem_of_getElem? hp); have := hP.fs.len; omega)
        clear hcell hp hP
        by_cases hfn : (fn : Int) ≤ x1
        ·have HE : Hid (ckOn ps (prevOf v.on j) (v.on.drop j) = 5) := qh (by rw [Hst.out, if_pos (.inr (.inr (.inr (by rw [Hfl.out]; exact hfn))))])
         have hfn' : decide ((fn : Int) ≤ x1) = true := qdt hfn
         go_wp2
         go_quiet (fail)
         go_wp2
         go_ret
         exact ⟨ret_int (by rw [HR3.out, Hcl.out, HE.out]), below_drewN X3.out.bel _⟩
        have hfn' : decide ((fn : Int) ≤ x1) = false := qdf hfn
        have HSt2 : Hid (ckOn ps none v.on = if badOn (prevOf v.on j) ((y : Int), x1) = true then 6 else ckOn ps (prevOf v.on (j + 1)) (v.on.drop (j + 1))) := qh (by rw [Hcl.out, Hst.out, if_neg (by have := Hpl.out; have := Hfl.out; omega)])
        have hx9 : x1 ≤ 9 := by have := Hf2.out; omega
        have hx0 : 0 ≤ x1 := by omega
        have hy8 : (y : Int) ≤ 8 := by omega
        have HP := qh (prevOf_succ hyq.out)
        clear Hst Hcl
        rcases j with _ | i
        ·have HE : Hid (ckOn ps none v.on = ckOn ps (prevOf v.on (0 + 1)) (v.on.drop (0 + 1))) := qh (by rw [HSt2.out, if_neg (by rw [prevOf_zero]; simp [badOn])])
         simp only [Nat.zero_mul, Nat.add_zero, Nat.zero_add] at g0 g1
         obtain rfl : la = -1 := Hl0.out rfl
         have hle : decide (10 * (y : Int) + x1 ≤ -1) = false := qdf (by omega)
         go_wp2
         go_quiet (fail)
         go_wp2
         go_roundg (gk - 1)
         case measure => have := Hj.out; omega
         case rel => exact ⟨(0 + 1), 10 * (y : Int) + x1, qh (by have := Hj.out; omega), by go_num, rfl, by omega, by omega, qh (fun h => by omega), qh (fun q h => by rw [HP.out] at h; cases Option.some.inj h; exact ⟨rfl, hx0, hx9⟩), HE, qh (X3.out.drewN _)⟩
        ·obtain ⟨⟨q0, q1⟩, hq⟩ : ∃ q, v.on[i]? = some q := ⟨_, qge (by have := Hon.out; omega)⟩
         have Hpr : Hid (prevOf v.on (i + 1) = some (q0, q1)) := qh (prevOf_succ hq)
         obtain ⟨hl1, hl2, hl3⟩ := Hla.out _ Hpr.out
         dsimp only at hl1 hl2 hl3
         have hbo := badOn_num (q0 := q0) (q1 := q1) (y := (y : Int)) (x1 := x1) hl2 hl3 hx0 hx9
         rw [← hl1] at hbo
         have HSt3 : Hid (ckOn ps none v.on = if decide (10 * (y : Int) + x1 ≤ la) = true then 6 else ckOn ps (prevOf v.on (i + 1 + 1)) (v.on.drop (i + 1 + 1))) := qh (by rw [HSt2.out, Hpr.out, hbo])
         clear HSt2 hq hbo hl1 hl2 hl3 Hpr Hla Hl0
         by_cases hle0 : 10 * (y : Int) + x1 ≤ la
         ·have hle : decide (10 * (y : Int) + x1 ≤ la) = true := qdt hle0
          have HE : Hid (ckOn ps none v.on = 6) := qh (by rw [HSt3.out, if_pos hle])
          go_wp2
          go_quiet (fail)
          go_wp2
          go_ret
          exact ⟨ret_int (by rw [HR3.out, HE.out]), below_drewN X3.out.bel _⟩
         ·have hle : decide (10 * (y : Int) + x1 ≤ la) = false := qdf hle0
          have HE : Hid (ckOn ps none v.on = ckOn ps (prevOf v.on (i + 1 + 1)) (v.on.drop (i + 1 + 1))) := qh (by rw [HSt3.out, if_neg (by rw [hle]; simp)])
          go_wp2
          go_quiet (fail)
          go_wp2
          go_roundg (gk - 1)
          case measure => have := Hj.out; omega
          case rel => exact ⟨(i + 1 + 1), 10 * (y : Int) + x1, qh (by have := Hj.out; omega), by go_num, rfl, by omega, by omega, qh (fun h => by omega), qh (fun q h => by rw [HP.out] at h; cases Option.some.inj h; exact ⟨rfl, hx0, hx9⟩), HE, qh (X3.out.drewN _)⟩
       ·obtain rfl : n4 = j := by have := Hj.out; omega
        go_wp2
        go_ret
        exact ⟨ret_int (by rw [HRC.out, Hcl.out, List.drop_of_length_le (by have := Hon.out; omega)]; rfl), XT.out.bel⟩
 ·have z1 : (z != 0) = true := by simpa using z0
  go_enter Tryz.func66, Tryz.ntmps66
  go_wp2_with (first | (go_at_call 25; refine Hcs.out.mono ?_; rintro e w2 ⟨rfl, hb2⟩; refine Hid.out ?_))
  refine qh ?_
  have X2 := qh (X0.out.move hb2)
  clear hb2 X0 Hcs
  go_wp2
  go_ret
  exact ⟨ret_int (by rw [HR.out, if_pos z0]), X2.out.bel⟩
end
section
open Go.RowKit Qm
theorem right_any (ps : List Pk) (v : Ws) (S : Nat → Prop) (A : Option Addr) (n c : Nat) (A1 A2 A3 A4 : Option Addr) (n1 c1 n2 c2 n3 c3 n4 c4 : Nat) (w : World) (hT : RTree w S A n ps) (hnc : n ≤ c) (hc : c ≤ maxLen) (hV : WsAt w S A1 n1 c1 A2 n2 c2 A3 n3 c3 A4 n4 c4 v) (hS : ∀ k, S k → k < w.heap.size) :
  Calls Tryz.prog 21 #[.agg #[.slice A n c], .agg #[.slice A1 n1 c1, .slice A2 n2 c2, .slice A3 n3 c3, .slice A4 n4 c4]] w fun e w' => e = .returned (.int .i64 (ckWish ps v)) ∧ Below w.heap.size w w' := by
 have X0 := qh (Wb.new w A n c [.slice A1 n1 c1, .slice A2 n2 c2, .slice A3 n3 c3, .slice A4 n4 c4])
 have Hlt := qh (fun (wx : World) (hb : Below w.heap.size w wx) k hk => ql (hS k hk) hb.size)
 have HTR := qh (rcheckTree_any ps S A n c _ (hT.under X0.out.bel hS) hnc hc (Hlt.out _ X0.out.bel))
 have HWR := qh (fun wx (hb : Below w.heap.size w wx) (h0 : ckTree ps = 0) => rcwish_any ps v S A n c A1 A2 A3 A4 n1 c1 n2 c2 n3 c3 n4 c4 wx (hT.under hb hS) h0 hnc hc (hV.under hb hS) (Hlt.out _ hb))
 clear hT hV hS Hlt
 obtain ⟨k, hk⟩ : ∃ x, ckTree ps = x := ⟨_, rfl⟩
 have HK := qh hk
 rw [hk] at HTR HWR
 obtain ⟨r, hr⟩ : ∃ x, ckWish ps v = x := ⟨_, rfl⟩
 have HR := qh hr
 rw [hr] at HWR ⊢
 clear hk hr
 have t0 := X0.out.t.cell 0
 simp only [qgz] at t0
 go_enter Tryz.func21, Tryz.ntmps21
 go_upto_region 2 with (first | (go_at_call 65; refine HTR.out.mono ?_; rintro e w2 ⟨rfl, hb2⟩; refine Hid.out ?_))
 refine qh ?_
 have X2 := qh (X0.out.move hb2)
 clear t0 hb2 HTR X0
 have t0 := X2.out.t.cell 0; have u0 := X2.out.v.cell 0; have u1 := X2.out.v.cell 1; have u2 := X2.out.v.cell 2; have u3 := X2.out.v.cell 3
 simp only [qgz, qgs] at t0 u0 u1 u2 u3
 by_cases h : k = 0
 ·subst h
  have HW2 := qh (HWR.out _ X2.out.bel rfl)
  go_wp2_with (first | (go_at_call 66; refine HW2.out.mono ?_; rintro e w3 ⟨rfl, hb3⟩; refine Hid.out ?_))
  refine qh ?_
  have X3 := qh (X2.out.move hb3)
  clear t0 u0 u1 u2 u3
  go_wp2
  go_ret
  exact ⟨rfl, X3.out.bel⟩
 ·have hb : (k == 0) = false := by simpa using h
  have hs : ckSet ps v.ins = k := by unfold ckSet; rw [if_pos (by rw [HK.out]; exact h), HK.out]
  obtain rfl : r = k := by rw [← HR.out]; unfold ckWish; rw [if_pos (by rw [hs]; exact h), hs]
  go_wp2
  go_ret
  exact ⟨rfl, X2.out.bel⟩
end
section
open Go.RowKit Qm
theorem esays_any (ps : List Pk) (v : Ws) (l : List Mem) (bs0 : List Bool) (S : Nat → Prop) (A B D : Option Addr) (n c q d r e' : Nat) (A1 A2 A3 A4 : Option Addr) (n1 c1 n2 c2 n3 c3 n4 c4 : Nat) (w : World) (hT : RTree w S A n ps) (hnc : n ≤ c) (hc : c ≤ maxLen) (hV : WsAt w S A1 n1 c1 A2 n2 c2 A3 n3 c3 A4 n4 c4 v) (hLo : RSet w S B q l) (hqd : q ≤ d) (hd : d ≤ maxLen) (hF : RBools w S D r bs0) (hre : r ≤ e') (he : e' ≤ maxLen) (hS : ∀ k, S k → k < w.heap.size) (hLV : LaidV w) (hMW : MaxW w) :
  Calls Tryz.prog 4 #[.agg #[.slice A n c], .agg #[.slice A1 n1 c1, .slice A2 n2 c2, .slice A3 n3 c3, .slice A4 n4 c4], .slice B q d, .slice D r e'] w fun e w' => e = .returned (.bool true) ∧ Below w.heap.size w w' := by
 have X0 := qh (Wb.new w A n c [.slice A1 n1 c1, .slice A2 n2 c2, .slice A3 n3 c3, .slice A4 n4 c4])
 have HT := qh hT; have HV := qh hV; have HS := qh hS; have HLo := qh hLo; have HF := qh hF; have HLV := qh hLV; have HMW := qh hMW; clear hT hV hS hLo hF hLV hMW
 have Hlt := qh (fun (wx : World) (hb : Below w.heap.size w wx) k hk => ql (HS.out k hk) hb.size)
 have HWS := qh (fun wx (hb : Below w.heap.size w wx) => (HV.out.under hb HS.out).more (S' := fun k => k < wx.heap.size) fun k hk => Hlt.out _ hb k hk)
 have HTR := qh (fun wx (hb : Below w.heap.size w wx) => (HT.out.under hb HS.out).more (S' := fun k => k < wx.heap.size) fun k hk => Hlt.out _ hb k hk)
 have HLS := qh (fun wx (hb : Below w.heap.size w wx) => (HLo.out.under hb HS.out).more (S' := fun k => k < wx.heap.size) fun k hk => Hlt.out _ hb k hk)
 have HFB := qh (fun wx (hb : Below w.heap.size w wx) => (RBools.below HF.out hb HS.out).more (S' := fun k => k < wx.heap.size) fun k hk => Hlt.out _ hb k hk)
 have HES := qh (fun wx (hb : Below w.heap.size w wx) => eset_any ps v bs0 (fun k => k < wx.heap.size) A D n c r e' A1 A2 A3 A4 n1 c1 n2 c2 n3 c3 n4 c4 wx (HTR.out _ hb) hnc hc (HWS.out _ hb) (HFB.out _ hb) hre he (fun k hk => hk))
 have HLQ := qh (fun wx (hb : Below w.heap.size w wx) => literals_any ps v l S A B n c q d A1 A2 A3 A4 n1 c1 n2 c2 n3 c3 n4 c4 wx (HT.out.under hb HS.out) hnc hc (HV.out.under hb HS.out) (HLo.out.under hb HS.out) hqd hd (Hlt.out _ hb))
 have HEN := qh (encode_any ps v S A n c A1 A2 A3 A4 n1 c1 n2 c2 n3 c3 n4 c4 _ (HT.out.under X0.out.bel HS.out) hnc hc (HV.out.under X0.out.bel HS.out) (Hlt.out _ X0.out.bel))
 have Hrd := qh (fun wx (hb : Below w.heap.size w wx) => encoded_any wx (HLV.out.below hb) (HMW.out.below hb))
 have Hri := qh (fun wx (hb : Below w.heap.size w wx) => right_any ps v (fun k => k < wx.heap.size) A n c A1 A2 A3 A4 n1 c1 n2 c2 n3 c3 n4 c4 wx (HTR.out _ hb) hnc hc (HWS.out _ hb) (fun k hk => hk))
 have Hch := qh (fun wx (hb : Below w.heap.size w wx) (h0 : ckWish ps v = 0) => rchoices_any ps v (fun k => k < wx.heap.size) A n c A1 n1 c1 A2 n2 c2 A3 n3 c3 A4 n4 c4 wx (HTR.out _ hb) hnc hc (HWS.out _ hb) (fun k hk => hk) h0)
 have henter : ∀ (args : Array Value) (W : World), (callFunc 67 args).run Tryz.prog W = .ok (.enter 67 args) W := fun args W => by kernel_rfl
 have hen := HEN.out
 unfold EncodeP at hen
 obtain ⟨z, hz⟩ : ∃ z, ckWish ps v = z := ⟨_, rfl⟩
 have HZ := qh hz
 rw [hz] at hen Hri Hch
 obtain ⟨EN, hEN⟩ : ∃ x, encN ps v = x := ⟨_, rfl⟩
 obtain ⟨EL, hEL⟩ : ∃ x, (encC ps v).length = x := ⟨_, rfl⟩
 have HEN1 := qh hEN; have HEL1 := qh hEL
 rw [hEN, hEL] at hen
 have HE0 := qh hen
 obtain ⟨LN, hLN⟩ : ∃ x, (litL ps v l).length = x := ⟨_, rfl⟩
 obtain ⟨ev, hev⟩ : ∃ x, validE ps v l = x := ⟨_, rfl⟩
 have HLN := qh hLN; have HEV := qh hev
 obtain ⟨SN, hSN⟩ : ∃ x, (setV ps v bs0).length = x := ⟨_, rfl⟩
 obtain ⟨hv, hhv⟩ : ∃ x, setE ps v bs0 = x := ⟨_, rfl⟩
 have HSN := qh hSN; have HHV := qh hhv
 have t0 := X0.out.t.cell 0; have u0 := X0.out.v.cell 0; have u1 := X0.out.v.cell 1; have u2 := X0.out.v.cell 2; have u3 := X0.out.v.cell 3
 simp only [qgz, qgs] at t0 u0 u1 u2 u3
 clear hen HEN hz hEN hEL
 go_enter Tryz.func4, Tryz.ntmps4
 go_upto_region 2 with (first | (go_at_call 12; refine HE0.out.mono ?_; rintro e w2 ⟨F, cF, rfl, hcl, hcc, hcm, hb2⟩; refine Hid.out ?_))
 refine qh ?_
 have X2 := qh (X0.out.move hb2)
 have HCL := qh (hcl.more (S' := fun k => k < w2.heap.size) fun k hk => hk.2)
 clear hcl hb2 X0 HE0 t0 u0 u1 u2 u3
 go_upto_region 2 with fail
 have hal : Below w2.heap.size w2 (w2.alloc (.cells #[.int .i64 (EN : Int), .slice F EL cF] 33)) := (Below.refl _ w2).alloc (qr _) _
 have X3 : Hid (Fx w A n c [.slice A1 n1 c1, .slice A2 n2 c2, .slice A3 n3 c3, .slice A4 n4 c4] w2.heap.size [.int .i64 (EN : Int), .slice F EL cF] (w2.alloc (.cells #[.int .i64 (EN : Int), .slice F EL cF] 33))) := qh ⟨X2.out.move hal, Whole.new w2 _ _ [.int .i64 (EN : Int), .slice F EL cF] rfl⟩
 have HCL3 := qh (RClauses.more (S' := fun k => k < w2.heap.size) (RClauses.below HCL.out hal fun k hk => hk) fun k hk => hk)
 have hlq := HLQ.out _ X3.out.b.bel
 unfold LiteralsP at hlq
 rw [hev, hLN] at hlq
 have HL3 := qh hlq
 have t0 := X3.out.b.t.cell 0; have u0 := X3.out.b.v.cell 0; have u1 := X3.out.b.v.cell 1; have u2 := X3.out.b.v.cell 2; have u3 := X3.out.b.v.cell 3
 simp only [qgz, qgs] at t0 u0 u1 u2 u3
 have HW23 : Hid (w2.heap.size < (w2.alloc (.cells #[.int .i64 (EN : Int), .slice F EL cF] 33)).heap.size) := qh (by simp)
 generalize w2.alloc (.cells #[.int .i64 (EN : Int), .slice F EL cF] 33) = w3 at *
 clear hal hev hLN hlq HLQ X2 HCL
 go_upto_region 3 with (first | (go_at_call 13; refine HL3.out.mono ?_; rintro e w4 ⟨Ia, ia, rfl, hra, hia, hia2, hb4⟩; refine Hid.out ?_))
 refine qh ?_
 have X4 := qh (X3.out.move hb4)
 have HRA := qh (RInts.more hra (S' := fun k => k < w4.heap.size) fun k hk => hk.2)
 have HB34 := qh hb4
 have hes := HES.out _ X4.out.b.bel
 unfold SetP at hes
 rw [hhv, hSN] at hes
 have HE4 := qh hes
 clear hra hb4 t0 u0 u1 u2 u3 HL3 hes hhv hSN HES X3
 have t0 := X4.out.b.t.cell 0; have u0 := X4.out.b.v.cell 0; have u1 := X4.out.b.v.cell 1; have u2 := X4.out.b.v.cell 2; have u3 := X4.out.b.v.cell 3
 simp only [qgz, qgs] at t0 u0 u1 u2 u3
 go_upto_region 4 with (first | (go_at_call 15; refine HE4.out.mono ?_; rintro e w5 ⟨Am, am, rfl, hrm, ham, ham2, hb5⟩; refine Hid.out ?_))
 refine qh ?_
 have X5 := qh (X4.out.move hb5)
 have HRM := qh (hrm.more (S' := fun k => k < w5.heap.size) fun k hk => hk.2)
 have HB45 := qh hb5
 have HR5 := qh (Hri.out _ X5.out.b.bel)
 clear hrm hb5 t0 u0 u1 u2 u3 HE4 Hri X4
 have t0 := X5.out.b.t.cell 0; have u0 := X5.out.b.v.cell 0; have u1 := X5.out.b.v.cell 1; have u2 := X5.out.b.v.cell 2; have u3 := X5.out.b.v.cell 3
 simp only [qgz, qgs] at t0 u0 u1 u2 u3
 go_upto_region 5 with (first | (go_at_call 21; refine HR5.out.mono ?_; rintro e w6 ⟨rfl, hb6⟩; refine Hid.out ?_))
 refine qh ?_
 have X6 := qh (X5.out.move hb6)
 have HB56 := qh hb6
 have HO6 := qh (Hrd.out _ X6.out.b.bel)
 clear hb6 t0 u0 u1 u2 u3 HR5 X5
 by_cases h0 : z = 0
 ·subst h0
  go_upto_region 7 with (first | (go_at_call 14; refine HO6.out.mono ?_; rintro e w7 ⟨rfl, hb7⟩; refine Hid.out ?_))
  refine qh ?_
  have X7 := qh (X6.out.move hb7)
  have HB67 := qh hb7
  have WP := qh (wish_parts HZ.out)
  have EO := qh (encW_ok HZ.out)
  have HC7 := qh (Hch.out _ X7.out.b.bel (by first | rfl | trivial))
  clear hb7 HO6 Hrd X6 Hch
  have t0 := X7.out.b.t.cell 0; have u0 := X7.out.b.v.cell 0; have u1 := X7.out.b.v.cell 1; have u2 := X7.out.b.v.cell 2; have u3 := X7.out.b.v.cell 3
  simp only [qgz, qgs] at t0 u0 u1 u2 u3
  go_upto_region 8 with (first | (go_at_call 22; refine HC7.out.mono ?_; rintro e w8 ⟨zz, ob, gg, mb, lv, em, hzz, rfl, hoc, hb8⟩; refine Hid.out ?_))
  refine qh ?_
  have X8 := qh (X7.out.move hb8)
  have HOC := qh hoc
  have HB48 := qh (HB45.out.trans ((HB56.out.trans ((HB67.out.trans (hb8.mono HB67.out.size)).mono HB56.out.size)).mono HB45.out.size))
  have HB58 := qh (HB56.out.trans ((HB67.out.trans (hb8.mono HB67.out.size)).mono HB56.out.size))
  have HB38 := qh (HB34.out.trans (HB48.out.mono HB34.out.size))
  have HRS := qh (fun (bs : List Bool) (M : Option Addr) (mn mc : Nat) wx (hb : Below w8.heap.size w8 wx) (hm : RBools wx (fun k => k < wx.heap.size) M mn bs) (h1 : mn ≤ mc) (h2 : mc ≤ maxLen) (h3 : manyC ps ≤ mn) => rset_any ps v bs (fun k => k < wx.heap.size) A M n c mn mc A1 A2 A3 A4 n1 c1 n2 c2 n3 c3 n4 c4 zz ob gg mb lv em wx HZ.out (HOC.out.move hb) (HTR.out _ (X8.out.b.bel.trans (hb.mono X8.out.b.bel.size))) hc (HWS.out _ (X8.out.b.bel.trans (hb.mono X8.out.b.bel.size))) hm h1 h2 h3 (fun k hk => hk))
  clear hoc hb8 hzz t0 u0 u1 u2 u3 HC7 X7
  have HM14 : Hid (manyC ps ≤ 14) := qh (tree_parts WP.out.tree).2.1
  obtain ⟨M, hMd⟩ : ∃ x, manyC ps = x := ⟨_, rfl⟩
  have HMD := qh hMd
  rw [hMd] at HRS HM14 ⊢
  clear hMd
  have f0 := X8.out.f.cell 0; have f1 := X8.out.f.cell 1
  have fl := X8.out.f.lt
  simp only [qgz, qgs] at f0 f1
  have hck := checkFormula_any F EL cF (encC ps v) (EN : Int) w8 (fun k => k < w2.heap.size) (RClauses.below HCL3.out (HB38.out) fun k hk => Nat.lt_trans hk HW23.out) (fun k hk => ql (Nat.lt_trans hk HW23.out) HB38.out.size) (qlt hcc hcm) (by omega) (by have := EO.out.n400; have := (encN_of HZ.out).1; have := HEN1.out; omega)
  rw [← HEN1.out, (encN_of HZ.out).1, (encN_of HZ.out).2, enc_formula HZ.out, ← (encN_of HZ.out).1, HEN1.out] at hck
  have HCK := qh hck
  have hEM : M ≤ EN := by rw [← HMD.out, ← HEN1.out, (encN_of HZ.out).1]; exact EO.out.many
  have hEM1 : ¬ ((EN : Int) < (M : Int)) := by omega
  go_upto_region 10 with (first | (go_at_call 23; refine HCK.out.mono ?_; rintro e w9 ⟨rfl, hb9⟩; have X9 := qh (X8.out.move hb9); have hk0 := X9.out.f.cell 0; have hk1 := X9.out.f.lt; simp only [qgz] at hk0; refine Hid.out ?_))
  refine qh ?_
  have HB89 := qh hb9
  clear hb9 HCK hck f0 f1 fl
  go_upto_region 10 with fail
  clear hk0 hk1 hEM1
  unfold maxLen at he
  go_cut [110] (fun s110 wx => s110 = .bool (decide (r < M ∨ 400 < r)) ∧ wx = w9)
  case first =>
   by_cases h1 : r < M
   ·have h1d : (r : Int) < (M : Int) := by omega
    have hd1 : decide (r < M ∨ 400 < r) = true := qdt (.inl h1)
    go_wp2
    go_meet
    case rel => exact ⟨by rw [hd1], rfl⟩
   ·have h1d : ¬ ((r : Int) < (M : Int)) := by omega
    by_cases h2 : 400 < r
    ·have h2d : (400 : Int) < (r : Int) := by omega
     have hd1 : decide (r < M ∨ 400 < r) = true := qdt (.inr h2)
     go_wp2
     go_meet
     case rel => exact ⟨by rw [hd1], rfl⟩
    ·have h2d : ¬ ((400 : Int) < (r : Int)) := by omega
     have hd1 : decide (r < M ∨ 400 < r) = false := qdf (by omega)
     go_wp2
     go_meet
     case rel => exact ⟨by rw [hd1], rfl⟩
  case rest =>
  obtain ⟨rfl, hwc⟩ := hcut
  replace hwc := hwc.symm
  subst hwc
  go_upto_if 110 with fail
  go_cut [] (fun wx => Hid (Below w8.heap.size w8 wx))
  case first =>
   by_cases hbad : r < M ∨ 400 < r
   ·have hhv4 : hv = 4 := by rw [← HHV.out]; unfold setE; rw [if_neg (by rw [HZ.out]; decide), if_pos (by rw [HMD.out, HF.out.len]; exact hbad)]
    have hSN0 : SN = 0 := by rw [← HSN.out]; unfold setV; rw [if_neg (by rw [HHV.out, hhv4]; decide)]; rfl
    subst hhv4 hSN0
    have hd1 : decide (r < M ∨ 400 < r) = true := qdt hbad
    go_wp2
    go_meet
    case rel => exact HB89
   ·have hhv0 : hv = 0 := by rw [← HHV.out]; unfold setE; rw [if_neg (by rw [HZ.out]; decide), if_neg (by rw [HMD.out, HF.out.len]; exact hbad)]
    have hsv : setV ps v bs0 = setOfM (chW ps v) ps bs0 := by unfold setV; rw [if_pos (by rw [HHV.out, hhv0])]
    subst hhv0
    have hd1 : decide (r < M ∨ 400 < r) = false := qdf hbad
    have hcl := HRS.out bs0 D r e' w9 HB89.out (HFB.out _ X9.out.b.bel) hre (by unfold maxLen; exact he) (by omega)
    unfold RSetP at hcl
    have HCL9 := qh hcl
    clear hcl
    go_wp2_with (first | (go_at_call 67; refine HCL9.out.mono ?_; rintro e w10 ⟨As, as_, rfl, hrs, has, has2, hb10⟩; refine Hid.out ?_))
    refine qh ?_
    have HB510 : Hid (Below w5.heap.size w5 w10) := qh ((HB58.out.trans (HB89.out.mono HB58.out.size)).trans (hb10.mono (qlt HB58.out.size HB89.out.size)))
    have hss := sameSetr_any (setV ps v bs0) (setOfM (chW ps v) ps bs0) (fun k => k < w10.heap.size) Am As SN am (setOfM (chW ps v) ps bs0).length as_ w10 ((HRM.out.under HB510.out fun k hk => hk).more fun k hk => ql hk HB510.out.size) (hrs.more fun k hk => hk.2) (fun k hk => hk) (qlt ham ham2) (qlt has has2)
    rw [hsv, eqL_self] at hss
    have HSS := qh hss
    have HB810 := qh (HB89.out.trans (hb10.mono HB89.out.size))
    clear hss hrs has has2 hb10 HCL9 hsv
    go_wp2_with (first | (go_at_call 24; refine HSS.out.mono ?_; rintro e w11 ⟨rfl, hb11⟩; refine Hid.out ?_))
    refine qh ?_
    have HB811 : Hid (Below w8.heap.size w8 w11) := qh (HB810.out.trans (hb11.mono HB810.out.size))
    clear hb11
    go_wp2
    go_meet
    case rel => exact HB811
  case rest =>
   have HBC := hcut
   clear hcut
   have XC := qh (X8.out.move HBC.out)
   have h8 : n ≤ 8 := by have h := HT.out.len; rw [← h]; exact (tree_parts WP.out.tree).1
   obtain ⟨k, hk⟩ : ∃ x, ckMs ps none l = x := ⟨_, rfl⟩
   have HK := qh hk
   have hcs := rcset_any ps l (fun k => k < wc.heap.size) A B n c q d wc (HTR.out _ XC.out.b.bel) h8 hnc hc (HLS.out _ XC.out.b.bel) (qlt hqd hd) (fun k hk => hk)
   rw [hk] at hcs
   have HCS := qh hcs
   have hevk : ev = k := by rw [← HEV.out]; unfold validE ckSet; rw [if_neg (by rw [HZ.out]; decide), if_neg (by rw [WP.out.tree]; decide)]; exact hk
   subst hevk
   have t0 := XC.out.b.t.cell 0
   simp only [qgz] at t0
   clear hcs hk
   go_wp2_with (first | (go_at_call 25; refine HCS.out.mono ?_; rintro e w10 ⟨rfl, hb10⟩; refine Hid.out ?_))
   refine qh ?_
   have X10 := qh (XC.out.move hb10)
   have HB10 := qh (HBC.out.trans (hb10.mono HBC.out.size))
   clear hb10 HCS t0 XC HBC X9 HB89
   by_cases hk0 : ev = 0
   ·subst hk0
    have hl : litL ps v l = litsB (chVec ps v l) := litL_ok HEV.out
    have hln : LN = M := by rw [← HLN.out, hl, litsB_length, chVec_len, HMD.out]
    subst hln
    have HLL := qh hl
    have HCN : Hid ((chVec ps v l).length = LN) := qh (by rw [chVec_len, HMD.out])
    have HRB : Hid (RInts w4 (fun k => k < w4.heap.size) Ia LN (litsB (chVec ps v l))) := qh (by have h := HRA.out; rw [hl] at h; exact h)
    have HOFF : Hid (∀ x, x < LN → (chVec ps v l).getD x false = true → eqL sameMem (setOfM (chW ps v) ps ((chVec ps v l).set x false)) l = false) := qh fun x hx hb => by
     have h := setOfM_off WP.out.ok (l := l) (by rw [HMD.out]; exact hx) hb
     cases hq : eqL sameMem (setOfM (chW ps v) ps ((chVec ps v l).set x false)) l
     ·rfl
     ·exact absurd ((eqL_iff sameMem_iff).1 hq) h
    have HALL : Hid (eqL sameMem (setOfM (chW ps v) ps (chVec ps v l)) l = true) := qh (by rw [setOf_chVec WP.out.ok HK.out]; exact eqL_self _)
    have HB410 : Hid (Below w4.heap.size w4 w10) := qh (HB48.out.trans (HB10.out.mono HB48.out.size))
    obtain ⟨ch, hch⟩ : ∃ x, chVec ps v l = x := ⟨_, rfl⟩
    rw [hch] at HCN HRB HOFF HALL
    clear hl hch HRA
    have hmk := fun wx => make_boolsM LN (by have := HM14.out; omega) wx
    go_upto_region 21 with fail
    have hfl : ((List.range LN).map fun _ => Value.bool false) = (List.replicate LN false).map Value.bool := by rw [List.map_replicate, List.map_const', List.length_range]
    have MB6 := qh (Whole.new w10 w10.heap.size 4 ((List.range LN).map fun _ => Value.bool false) rfl)
    rw [hfl] at MB6
    have HB6 : Hid (Below w10.heap.size w10 (w10.alloc (.cells ((List.range LN).map fun _ => Value.bool false).toArray 4))) := qh ((Below.refl _ w10).alloc (qr _) _)
    rw [hfl] at HB6
    rw [hfl]
    generalize w10.alloc (.cells ((List.replicate LN false).map Value.bool).toArray 4) = w11 at *
    clear hfl hmk
    go_wp2
    go_loopg [153] LN (fun g iv wr => ∃ (k : Nat) (bs : List Bool), Hid (k + g = LN) ∧ iv = .int .i64 k ∧ Hid (bs.length = LN) ∧ Hid (∀ j, j < k → bs.getD j false = ch.getD j false) ∧ Hid (Whole wr w10.heap.size 4 (bs.map Value.bool)) ∧ Hid (Below w10.heap.size w10 wr))
    case atStart => exact ⟨0, _, qh (Nat.zero_add _), rfl, qh (List.length_replicate ..), qh (fun j hj => absurd hj (by omega)), MB6, HB6⟩
    case round =>
     obtain ⟨k, bs, Hk, rfl, HBN, HEQ, MB, HBR⟩ := hrel
     clear MB6 HB6
     by_cases hk : k < LN
     ·obtain ⟨b1, o1, rfl, hb1S, g1⟩ := (RInts.below HRB.out (HB410.out.trans (HBR.out.mono HB410.out.size)) fun k hk => hk).at_ hk
      have hb1l : b1 < wr.heap.size := ql hb1S (qlt HB410.out.size HBR.out.size)
      rw [litsB_get (by rw [HCN.out]; exact hk)] at g1
      have y := MB.out.cell k; have yf := MB.out.free k; have yl := MB.out.lt
      rw [qgm, qge (by rw [HBN.out]; exact hk)] at y
      simp only [Option.map_some] at y
      have HMB2 := qh (MB.out.set_ k (.bool (ch.getD k false)))
      have HBR2 := qh (HBR.out.setCell (p := ⟨w10.heap.size, k, none⟩) (qr _) (.bool (ch.getD k false)))
      have HEQ2 : Hid (∀ j, j < k + 1 → (bs.set k (ch.getD k false)).getD j false = ch.getD j false) := qh fun j hj => by
       by_cases e : j = k
       ·subst e; rw [qgd, List.getElem?_set_self (by rw [HBN.out]; exact hk)]; rfl
       ·rw [qgd, List.getElem?_set_ne (Ne.symm e), ← qgd]; exact HEQ.out j (by omega)
      have hk1 : (k : Int) < LN := by omega
      have hk0 : (0 : Int) ≤ (k : Int) := by omega
      have hMb : (LN : Int) ≤ 14 := by have := HM14.out; omega
      rw [← List.map_set] at HMB2
      clear hb1S
      generalize ch.getD k false = bb at g1 HMB2 HBR2 HEQ2
      cases bb
      ·rw [if_neg (by decide)] at g1
       have hn1 : ¬ (-((k : Int) + 1) = (k : Int) + 1) := by omega
       have hn2 : -((k : Int) + 1) = -(k : Int) - 1 := by omega
       rw [hn2] at g1 hn1
       have hn3 : ((-(k : Int) - 1) == (k : Int) + 1) = false := by simpa using hn1
       have hn4 : decide ((1 : Int) < -(k : Int)) = false := qdf (by omega)
       clear hn2
       go_wp2
       go_roundg (gk - 1)
       case measure => have := Hk.out; omega
       case rel => exact ⟨k + 1, _, qh (by have := Hk.out; omega), by go_num, qh (by rw [List.length_set]; exact HBN.out), HEQ2, HMB2, HBR2⟩
      ·rw [if_pos rfl] at g1
       have hn4 : decide ((0 : Int) < (k : Int) + 1) = true := qdt (by omega)
       go_wp2
       go_roundg (gk - 1)
       case measure => have := Hk.out; omega
       case rel => exact ⟨k + 1, _, qh (by have := Hk.out; omega), by go_num, qh (by rw [List.length_set]; exact HBN.out), HEQ2, HMB2, HBR2⟩
     ·have HBC : Hid (bs = ch) := qh (List.ext_getElem (by rw [HBN.out, HCN.out]) fun j h1 h2 => by
       have h := HEQ.out j (by have := HBN.out; omega)
       rw [qgd, qgd, qge h1, qge h2] at h
       exact h)
      rw [HBC.out] at MB
      have hk1 : ¬ (k : Int) < LN := by omega
      clear HBC HEQ HBN
      obtain ⟨wo, rfl⟩ : ∃ x : World, x = wr := ⟨_, rfl⟩
      go_wp2
      clear hk1 Hk hk
      go_loopg [22] LN (fun g iv wr => iv = .int .i64 ((g : Int) - 1) ∧ Hid (g ≤ LN) ∧ Hid (Whole wr w10.heap.size 4 (ch.map Value.bool)) ∧ Hid (Below w10.heap.size w10 wr))
      case atStart => exact ⟨by (have := HM14.out; simp (disch := omega) only [IntWalk.wrap64_in]), qh (qr _), MB, HBR⟩
      case round =>
       obtain ⟨g3, rfl⟩ : ∃ x : Nat, x = gk := ⟨_, rfl⟩
       obtain ⟨rfl, HG, MB2, HB2⟩ := hrel
       clear MB HBR
       by_cases hg : 0 < g3
       ·obtain ⟨j, rfl⟩ : ∃ j, g3 = j + 1 := ⟨g3 - 1, by omega⟩
        have hj1 : ((j + 1 : Nat) : Int) - 1 = (j : Int) := by omega
        rw [hj1]
        have hjl : j < LN := HG.out
        have hj0 : (0 : Int) ≤ (j : Int) := by omega
        have hjn : (j : Int) < LN := by omega
        have hjb : (LN : Int) ≤ 14 := by have := HM14.out; omega
        have y := MB2.out.cell j; have yf := MB2.out.free j; have yl := MB2.out.lt
        rw [qgm, qge (by rw [HCN.out]; exact hjl)] at y
        simp only [Option.map_some] at y
        have hcg : ch[j]'(by rw [HCN.out]; exact hjl) = ch.getD j false := by rw [qgd, qge (by rw [HCN.out]; exact hjl)]; rfl
        rw [hcg] at y
        obtain ⟨cb, hcb⟩ : ∃ x, ch.getD j false = x := ⟨_, rfl⟩
        have HCB := qh hcb
        rw [hcb] at y hcg
        clear hj1 hg hcb
        have HG2 : Hid (j ≤ LN) := qh (by omega)
        cases cb
        ·go_wp2
         go_roundg j
         case measure => omega
         case rel => exact ⟨by go_num, HG2, MB2, HB2⟩
        ·have hmb := MB2.out.set_ j (.bool false)
         rw [← List.map_set] at hmb
         have HMB3 := qh hmb
         have HB3 := qh (HB2.out.setCell (p := ⟨w10.heap.size, j, none⟩) (qr _) (.bool false))
         have HBK : Hid ((ch.set j false).set j true = ch) := qh (by
          rw [List.set_set]
          refine List.ext_getElem? fun i => ?_
          by_cases e : j = i
          ·subst e; rw [List.getElem?_set_self (by rw [HCN.out]; exact hjl), qge (by rw [HCN.out]; exact hjl), hcg]
          ·rw [List.getElem?_set_ne e])
         clear hmb hcg
         go_upto_region 33 with fail
         generalize wr.setCell ⟨w10.heap.size, j, none⟩ (.bool false) = w12 at *
         have hb812 : Below w8.heap.size w8 w12 := HB10.out.trans (HB3.out.mono HB10.out.size)
         have hcl := HRS.out (ch.set j false) (some ⟨w10.heap.size, 0, none⟩) LN LN w12 hb812 (HMB3.out.bools HMB3.out.lt (by rw [List.length_set]; exact HCN.out)) (qr _) (by unfold maxLen; have := HM14.out; omega) (qr _)
         unfold RSetP at hcl
         have HCL9 := qh hcl
         clear hcl hb812 y yf yl
         go_wp2_with (first | (go_at_call 67; refine HCL9.out.mono ?_; rintro e w13 ⟨As, as_, rfl, hrs, has, has2, hb13⟩; refine Hid.out ?_))
         refine qh ?_
         have HMB4 := qh (HMB3.out.below hb13 HMB3.out.lt)
         have HB4 := qh (HB3.out.trans (hb13.mono HB3.out.size))
         have hbw13 : Below w.heap.size w w13 := X10.out.b.bel.trans (HB4.out.mono X10.out.b.bel.size)
         have hss := sameSetr_any (setOfM (chW ps v) ps (ch.set j false)) l (fun k => k < w13.heap.size) As B (setOfM (chW ps v) ps (ch.set j false)).length as_ q d w13 (hrs.more fun k hk => hk.2) (HLS.out _ hbw13) (fun k hk => hk) (qlt has has2) (qlt hqd hd)
         rw [HOFF.out j hjl HCB.out] at hss
         have HSS := qh hss
         clear hss hrs has has2 hb13 HCL9 hbw13 HMB3 HB3
         go_wp2_with (first | (go_at_call 24; refine HSS.out.mono ?_; rintro e w14 ⟨rfl, hb14⟩; have HMB5 := qh (HMB4.out.below hb14 HMB4.out.lt); have yf := HMB5.out.free j; have yl := HMB5.out.lt; have y := HMB5.out.cell j; rw [qgm, List.getElem?_set_self (by rw [HCN.out]; exact hjl)] at y; simp only [Option.map_some] at y; refine Hid.out ?_))
         refine qh ?_
         have HB5 := qh (HB4.out.trans (hb14.mono HB4.out.size))
         have hmb := HMB5.out.set_ j (.bool true)
         rw [← List.map_set, HBK.out] at hmb
         have HMB6 := qh hmb
         have HB6 := qh (HB5.out.setCell (p := ⟨w10.heap.size, j, none⟩) (qr _) (.bool true))
         clear hb14 hmb HSS HMB4 HB4
         go_wp2
         go_roundg j
         case measure => omega
         case rel => exact ⟨by go_num, HG2, HMB6, HB6⟩
       ·obtain rfl : g3 = 0 := by omega
        have hb812 : Below w8.heap.size w8 wr := HB10.out.trans (HB2.out.mono HB10.out.size)
        have hcl := HRS.out ch (some ⟨w10.heap.size, 0, none⟩) LN LN wr hb812 (MB2.out.bools MB2.out.lt HCN.out) (qr _) (by unfold maxLen; have := HM14.out; omega) (qr _)
        unfold RSetP at hcl
        have HCL9 := qh hcl
        clear hcl hb812
        go_wp2_with (first | (go_at_call 67; refine HCL9.out.mono ?_; rintro e w13 ⟨As, as_, rfl, hrs, has, has2, hb13⟩; refine Hid.out ?_))
        refine qh ?_
        have HB4 := qh (HB2.out.trans (hb13.mono HB2.out.size))
        have hbw13 : Below w.heap.size w w13 := X10.out.b.bel.trans (HB4.out.mono X10.out.b.bel.size)
        have hss := sameSetr_any (setOfM (chW ps v) ps ch) l (fun k => k < w13.heap.size) As B (setOfM (chW ps v) ps ch).length as_ q d w13 (hrs.more fun k hk => hk.2) (HLS.out _ hbw13) (fun k hk => hk) (qlt has has2) (qlt hqd hd)
        rw [HALL.out] at hss
        have HSS := qh hss
        have HBW := qh hbw13
        clear hss hrs has has2 hb13 HCL9 hbw13
        go_wp2_with (first | (go_at_call 24; refine HSS.out.mono ?_; rintro e w14 ⟨rfl, hb14⟩; refine Hid.out ?_))
        refine qh ?_
        have HBZ := qh (HBW.out.trans (hb14.mono HBW.out.size))
        clear hb14
        go_wp2
        go_ret
        exact ⟨rfl, HBZ.out⟩
   ·have hkb : (ev == 0) = false := by simpa using hk0
    have hLN0 : LN = 0 := by rw [← HLN.out]; unfold litL; rw [if_neg (by rw [HEV.out]; exact hk0)]; rfl
    subst hLN0
    go_wp2
    go_ret
    exact ⟨rfl, X10.out.b.bel⟩
 ·have hzb : (z == 0) = false := by simpa using h0
  have hev0 : ev = z := by rw [← HEV.out]; unfold validE; rw [if_pos (by rw [HZ.out]; exact h0), HZ.out]
  have hhv0 : hv = z := by rw [← HHV.out]; unfold setE; rw [if_pos (by rw [HZ.out]; exact h0), HZ.out]
  have hLN0 : LN = 0 := by rw [← HLN.out]; unfold litL; rw [if_neg (by rw [HEV.out, hev0]; exact h0)]; rfl
  have hSN0 : SN = 0 := by rw [← HSN.out]; unfold setV; rw [if_neg (by rw [HHV.out, hhv0]; exact h0)]; rfl
  have hEN0 : EN = 0 := by rw [← HEN1.out]; unfold encN; rw [if_neg (by rw [HZ.out]; exact h0)]
  have hEL0 : EL = 0 := by rw [← HEL1.out]; unfold encC; rw [if_neg (by rw [HZ.out]; exact h0)]; rfl
  subst hev0 hhv0 hLN0 hSN0 hEN0 hEL0
  go_upto_region 6 with (first | (go_at_call 14; refine HO6.out.mono ?_; rintro e w7 ⟨rfl, hb7⟩; refine Hid.out ?_))
  refine qh ?_
  have X7 := qh (X6.out.move hb7)
  have HO7 := qh (Hrd.out _ X7.out.b.bel)
  clear hb7 HO6 X6
  go_upto_region 6 with fail
  go_wp2_with (first | (go_at_call 14; refine HO7.out.mono ?_; rintro e w8 ⟨rfl, hb8⟩; have X8 := qh (X7.out.move hb8); have f0 := X8.out.f.cell 0; have f1 := X8.out.f.cell 1; have fl := X8.out.f.lt; simp only [qgz, qgs] at f0 f1; refine Hid.out ?_))
  refine qh ?_
  go_wp2
  go_ret
  exact ⟨rfl, X8.out.b.bel⟩
end
section
open Go.ChangeShapes Go.WideShapes Go.ChangeAt Go.RowKit Go.Joins Go.Deep
theorem spot_add {w : World} {a : Addr} {n : Nat} {f : Nat → Value} (hn : 0 < n) (h : ∀ i, i < n → w.cell? (a.add i) = some (f i)) : ∃ b o, a = ⟨b, o, none⟩ ∧ b < w.heap.size ∧ ∀ j, j < n → w.cell? ⟨b, o + j, none⟩ = some (f j) := by
 obtain ⟨b, o, spot⟩ := a
 have h0 := h 0 hn
 have hs : spot = none := by simpa [Addr.add] using World.cell?_spot h0
 subst hs
 have ha : ∀ j, (⟨b, o, none⟩ : Addr).add j = ⟨b, o + j, none⟩ := by
  intro j; unfold Addr.add; by_cases hj : j = 0 <;> simp [hj]
 refine ⟨b, o, rfl, ?_, fun j hj => by rw [← ha]; exact h j hj⟩
 have := World.block_lt_of_cell? w _ h0
 rw [ha] at this; exact this
theorem row_of_cells {w : World} {a : Addr} {n : Nat} {vs : List Value} (hl : vs.length = n) (h : ∀ i (_ : i < n), w.cell? (a.add i) = vs[i]?) : Row w (fun k => k < w.heap.size) (some a) n vs := by
 refine ⟨hl, fun hn => ?_⟩
 obtain ⟨b, o, rfl, hb, hc⟩ := spot_add (f := fun i => (vs[i]?).getD undef) hn (fun i hi => by rw [h i hi, qge (by omega)]; rfl)
 exact ⟨b, o, rfl, hb, fun j hj => by rw [hc j hj, qge (by omega)]; rfl⟩
section
variable {H : Type} {enc : TypeId × Value → H} {P : Program} {w : World} {base : Nat} {held : Bool}
theorem rbools_of_trod {t e : TypeId} {fuel : Nat} {v : Value} {x : DataW H × List MemPlace} (ht : P.underlying t = some (.slice e)) (he : P.underlying e = some .bool) (hc : P.cellsOf e = 1)
  (h : DataW.trod enc P w base (fun _ => true) held fuel t [v] = some x) : ∃ (A : Option Addr) (n c : Nat) (xs : List Bool), v = .slice A n c ∧ n ≤ c ∧ c ≤ maxLen ∧ RBools w (fun k => k < w.heap.size) A n xs := by
 rcases open_bools ht he hc h with ⟨hcs, _⟩ | ⟨a, len, cap, Bf, hcs, _, hl, hm, _, hcell⟩
 ·simp at hcs
  exact ⟨none, 0, 0, [], hcs, qr _, Nat.zero_le _, ⟨rfl, fun h => absurd h (by omega)⟩⟩
 ·simp at hcs
  refine ⟨some a, len, cap, (List.range len).map Bf, hcs, hl, hm, row_of_cells (by simp) (fun i hi => ?_)⟩
  rw [hcell i (by omega), qgm, qgm, List.getElem?_range hi]; rfl
end
end
end Go.Proofs.YtedbhlgjcnnknaaGreatDoor
