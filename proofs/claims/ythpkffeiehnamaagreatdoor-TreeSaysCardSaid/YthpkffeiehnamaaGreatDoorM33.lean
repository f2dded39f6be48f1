/- Parts of the proof: walks and plain laws, side by side. -/
import Derived.Test.YthpkffeiehnamaaGreatDoorM30
import Derived.Test.YthpkffeiehnamaaGreatDoorM12
import Derived.Deep.QuietTactic
import Derived.BigQuiet
import Derived.IntWalk
set_option linter.unusedVariables false
set_option linter.unusedSimpArgs false
set_option linter.unusedSectionVars false
/- tree.CheckSet, walked. -/
namespace Go.Proofs.YthpkffeiehnamaaGreatDoor
open Go.RowKit Qm

set_option maxRecDepth 100000 in
set_option maxHeartbeats 3200000 in
theorem cset_any (ps : List Pk) (l : List Mem) (S : Nat → Prop) (A B : Option Addr) (n c k d : Nat) (w : World) (hT : RTree w S A n ps) (hnc : n ≤ c) (hc : c ≤ maxLen) (hL : RSet w S B k l) (hk : k ≤ maxLen) (hS : ∀ k, S k → k < w.heap.size) :
    Calls Tryz.prog 25 #[.agg #[.slice A n c], .slice B k d] w fun e w' => e = .returned (.int .i64 (ckSet ps l)) ∧ Below w.heap.size w w' := by
  have Hpl := Lib.hid hT.len
  have Hll := Lib.hid hL.len
  have X0 := Lib.hid (Tx.new w A n c)
  have HT := Lib.hid hT; have HS := Lib.hid hS; have HL := Lib.hid hL; clear hT hS hL
  have Hck := Lib.hid (tCheck_any ps S A n c _ (HT.out.under X0.out.below HS.out) hnc hc (fun k hk => Nat.lt_of_lt_of_le (HS.out k hk) X0.out.below.size))
  have HK : Hid (ckSet ps l = if ckTree ps ≠ 0 then ckTree ps else ckMs ps none l) := Lib.hid rfl
  generalize ckSet ps l = R at HK ⊢
  generalize hz : ckTree ps = z at Hck HK
  have HZ := Lib.hid hz; clear hz
  unfold maxLen at hc hk
  by_cases z0 : z = 0
  · subst z0
    have HK1 : Hid (R = ckMs ps none l) := Lib.hid (by rw [HK.out, if_neg (by simp)])
    have hn8 : n ≤ 8 := by rw [← Hpl.out]; exact ckTree_len HZ.out
    clear HK
    go_enter Tryz.func25, Tryz.ntmps25
    go_wp2_with (first | (go_at_call 20; refine Hck.out.mono ?_; rintro e w2 ⟨rfl, hb2⟩; refine Hid.out ?_))
    refine Lib.hid ?_
    have X2 := Lib.hid (X0.out.move hb2)
    clear hb2 X0 Hck
    go_wp2
    go_loopg [15] k (fun g iv wr => ∃ j : Nat, Hid (j + g = k) ∧ iv = .int .i64 j ∧ Hid (ckMs ps none l = ckMs ps (prevOf (l.map Mem.pl) j) (l.drop j)) ∧ Hid (Tx w A n c wr))
    case atStart => exact ⟨0, Lib.hid (Nat.zero_add _), rfl, Lib.hid rfl, X2⟩
    case round =>
      obtain ⟨j, Hj, rfl, Hcl, XR⟩ := hrel
      clear X2
      by_cases hj : j < k
      · obtain ⟨b, o, m, E, q, r, rfl, hbS, hm, hqr, hr, hon, g0, g1⟩ := (HL.out.under XR.out.below HS.out).at_ hj
        have Hst := Lib.hid (ckMs_step (ps := ps) hm)
        have HMj : Hid (∀ i : Nat, j = i + 1 → ∃ m', l[i]? = some m') := Lib.hid fun i hi => ⟨_, List.getElem?_eq_getElem (by have := Hll.out; omega)⟩
        have Hol := Lib.hid hon.len
        have hbl : b < wr.heap.size := Nat.lt_of_lt_of_le (HS.out _ hbS) XR.out.below.size
        have X3 := Lib.hid (XR.out.move ((Below.refl _ wr).alloc (Nat.le_refl _) (.cells #[.int .i64 m.pl, .slice E q r] 103)))
        obtain ⟨pl, on⟩ := m
        dsimp only at g0 g1 Hst Hol X3
        clear hm hon
        have t0 := XR.out.whole.cell 0
        simp only [List.getElem?_cons_zero] at t0
        have tlt := XR.out.whole.lt
        by_cases hneg : pl < 0
        · have HE : Hid (ckMs ps (prevOf (l.map Mem.pl) j) (l.drop j) = 5) := Lib.hid (by rw [Hst.out, if_pos (.inl hneg)])
          have hneg' : decide (pl < 0) = true := decide_eq_true hneg
          go_wp2
          go_ret
          exact ⟨ret_int (by rw [HK1.out, Hcl.out, HE.out]), X3.out.below⟩
        have hneg' : decide (pl < 0) = false := decide_eq_false hneg
        by_cases hpn : (n : Int) ≤ pl
        ·
          have HE : Hid (ckMs ps (prevOf (l.map Mem.pl) j) (l.drop j) = 5) := Lib.hid (by rw [Hst.out, if_pos (.inr (by rw [Hpl.out]; exact hpn))])
          have hpn' : decide ((n : Int) ≤ pl) = true := decide_eq_true hpn
          go_wp2
          go_ret
          exact ⟨ret_int (by rw [HK1.out, Hcl.out, HE.out]), X3.out.below⟩
        obtain ⟨y, rfl⟩ : ∃ y : Nat, pl = y := ⟨pl.toNat, by omega⟩
        have hyn : y < n := by omega
        obtain ⟨b2, o2, p, D, fn, fc, kd, pa, f, no, F, fq, fd, rfl, hbS2, hp, hP, hcell⟩ := (HT.out.under XR.out.below HS.out).at_ hyn
        have h3 := hcell 3 (by omega)
        unfold pkRow ndRow at h3
        simp only [List.getElem?_cons_zero, List.getElem?_cons_succ] at h3
        have Hfl : Hid ((pkOf ps (y : Int)).fs.length = fn) := Lib.hid (by unfold pkOf; rw [Int.toNat_natCast, List.getD_eq_getElem?_getD, hp]; exact hP.fs.len)
        have hbl2 : b2 < wr.heap.size := Nat.lt_of_lt_of_le (HS.out _ hbS2) XR.out.below.size
        clear hcell hp hP
        have HSt2 : Hid (ckMs ps (prevOf (l.map Mem.pl) j) (l.drop j) = if badPl (prevOf (l.map Mem.pl) j) (y : Int) = true then 6 else if q ≠ fn then 4 else ckMs ps (prevOf (l.map Mem.pl) (j + 1)) (l.drop (j + 1))) := Lib.hid (by
          rw [Hst.out, if_neg (by have := Hpl.out; omega), Hfl.out, Hol.out])
        clear Hst
        have hy0 : (0 : Int) ≤ (y : Int) := by omega
        have hy1 : (y : Int) < n := by omega
        rcases j with _ | i
        · have HX : Hid (ckMs ps (prevOf (l.map Mem.pl) 0) (l.drop 0) = if q ≠ fn then 4 else ckMs ps (prevOf (l.map Mem.pl) (0 + 1)) (l.drop (0 + 1))) := Lib.hid (by rw [HSt2.out, if_neg (by rw [prevOf_zero]; simp [badPl])])
          simp only [Nat.zero_mul, Nat.add_zero] at g0 g1
          by_cases hq : q = fn
          · have HE : Hid (ckMs ps (prevOf (l.map Mem.pl) 0) (l.drop 0) = ckMs ps (prevOf (l.map Mem.pl) (0 + 1)) (l.drop (0 + 1))) := Lib.hid (by rw [HX.out, if_neg (by simpa using hq)])
            subst hq
            go_wp2
            go_quiet (fail)
            go_wp2
            go_quiet (fail)
            go_wp2
            go_roundg (gk - 1)
            case measure => have := Hj.out; omega
            case rel => exact ⟨0 + 1, Lib.hid (by have := Hj.out; omega), by go_num, Lib.hid (by rw [Hcl.out, HE.out]), Lib.hid (by first | exact X3.out.drew _ | exact (X3.out.drew _).drew _)⟩
          · have HE : Hid (ckMs ps (prevOf (l.map Mem.pl) 0) (l.drop 0) = 4) := Lib.hid (by rw [HX.out, if_pos hq])
            have hq' : ((q : Int) != (fn : Int)) = true := by simp; omega
            go_wp2
            go_quiet (fail)
            go_wp2
            go_quiet (fail)
            go_wp2
            go_ret
            exact ⟨ret_int (by rw [HK1.out, Hcl.out, HE.out]), by first | exact below_drewN X3.out.below _ | exact below_drewN (below_drewN X3.out.below _) _⟩
        · obtain ⟨b', o', m', E', q', r', e, _, hm', _, _, _, k0, _⟩ := (HL.out.under XR.out.below HS.out).at_ (j := i) (by omega)
          injection e with e; injection e with e1 e2; subst e1 e2
          have Hpr : Hid (prevOf (l.map Mem.pl) (i + 1) = some m'.pl) := Lib.hid (prevOf_succ (by rw [List.getElem?_map, hm']; rfl))
          have HSt3 : Hid (ckMs ps (prevOf (l.map Mem.pl) (i + 1)) (l.drop (i + 1)) = if badPl (some m'.pl) (y : Int) = true then 6 else if q ≠ fn then 4 else ckMs ps (prevOf (l.map Mem.pl) (i + 1 + 1)) (l.drop (i + 1 + 1))) := Lib.hid (by rw [HSt2.out, Hpr.out])
          clear hm' HSt2
          generalize m'.pl = pp at k0 HSt3
          have hwr : IntKind.i64.wrap ((i : Int) + 1 - 1) = (i : Int) := by rw [IntKind.wrap_i64]; omega
          have hwr0 : IntKind.i64.wrap (i : Int) = (i : Int) := by rw [IntKind.wrap_i64]; omega
          have hin : i < k := by omega
          have hin2 : (i : Int) < k := by omega
          have hin3 : (0 : Int) < (i : Int) + 1 := by omega
          by_cases hb : (y : Int) ≤ pp
          · have HE : Hid (ckMs ps (prevOf (l.map Mem.pl) (i + 1)) (l.drop (i + 1)) = 6) := Lib.hid (by rw [HSt3.out, if_pos (by simpa [badPl] using hb)])
            have hb' : decide ((y : Int) ≤ pp) = true := decide_eq_true hb
            go_wp2
            go_quiet (fail)
            go_wp2
            go_ret
            exact ⟨ret_int (by rw [HK1.out, Hcl.out, HE.out]), below_drewN X3.out.below _⟩
          · have HX : Hid (ckMs ps (prevOf (l.map Mem.pl) (i + 1)) (l.drop (i + 1)) = if q ≠ fn then 4 else ckMs ps (prevOf (l.map Mem.pl) (i + 1 + 1)) (l.drop (i + 1 + 1))) := Lib.hid (by rw [HSt3.out, if_neg (by simpa [badPl] using hb)])
            have hb' : decide ((y : Int) ≤ pp) = false := decide_eq_false hb
            by_cases hq : q = fn
            · have HE : Hid (ckMs ps (prevOf (l.map Mem.pl) (i + 1)) (l.drop (i + 1)) = ckMs ps (prevOf (l.map Mem.pl) ((i + 1) + 1)) (l.drop ((i + 1) + 1))) := Lib.hid (by rw [HX.out, if_neg (by simpa using hq)])
              subst hq
              go_wp2
              go_quiet (fail)
              go_wp2
              go_quiet (fail)
              go_wp2
              go_roundg (gk - 1)
              case measure => have := Hj.out; omega
              case rel => exact ⟨(i + 1) + 1, Lib.hid (by have := Hj.out; omega), by go_num, Lib.hid (by rw [Hcl.out, HE.out]), Lib.hid (by first | exact X3.out.drew _ | exact (X3.out.drew _).drew _)⟩
            · have HE : Hid (ckMs ps (prevOf (l.map Mem.pl) (i + 1)) (l.drop (i + 1)) = 4) := Lib.hid (by rw [HX.out, if_pos hq])
              have hq' : ((q : Int) != (fn : Int)) = true := by simp; omega
              go_wp2
              go_quiet (fail)
              go_wp2
              go_quiet (fail)
              go_wp2
              go_ret
              exact ⟨ret_int (by rw [HK1.out, Hcl.out, HE.out]), by first | exact below_drewN X3.out.below _ | exact below_drewN (below_drewN X3.out.below _) _⟩
      · obtain rfl : k = j := by have := Hj.out; omega
        go_wp2
        go_ret
        exact ⟨ret_int (by rw [HK1.out, Hcl.out, ckMs_done (by have := Hll.out; omega)]), XR.out.below⟩
  · have z1 : (z != 0) = true := by simpa using z0
    go_enter Tryz.func25, Tryz.ntmps25
    go_wp2_with (first | (go_at_call 20; refine Hck.out.mono ?_; rintro e w2 ⟨rfl, hb2⟩; refine Hid.out ?_))
    refine Lib.hid ?_
    have X2 := Lib.hid (X0.out.move hb2)
    clear hb2 X0 Hck
    go_wp2
    go_ret
    exact ⟨ret_int (by rw [HK.out, if_pos z0]), X2.out.below⟩
end Go.Proofs.YthpkffeiehnamaaGreatDoor
