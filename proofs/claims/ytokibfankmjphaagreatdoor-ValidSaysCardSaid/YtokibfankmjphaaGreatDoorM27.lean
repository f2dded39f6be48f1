/- Parts of the proof: walks and plain laws, side by side. -/
import Derived.Test.YtokibfankmjphaaGreatDoorM18
import Derived.Test.YtokibfankmjphaaGreatDoorM19
import Derived.Test.YtokibfankmjphaaGreatDoorM22
import Derived.Test.YtokibfankmjphaaGreatDoorM26
import Derived.Test.YtokibfankmjphaaGreatDoorM11
set_option linter.unusedVariables false
set_option linter.unusedSimpArgs false
set_option linter.unusedSectionVars false
/- ValidSays, walked: it returns true. (Printed by wip/bin/mkvsays.py.) -/
namespace Go.Proofs.YtokibfankmjphaaGreatDoor
open Go.RowKit Qm

set_option maxRecDepth 100000 in
set_option maxHeartbeats 6400000 in
theorem vsays_ok (ps : List Pk) (v : Ws) (l : List Mem) (k0 : Int) (S : Nat → Prop) (A B : Option Addr) (n c q d : Nat) (A1 A2 A3 A4 : Option Addr) (n1 c1 n2 c2 n3 c3 n4 c4 : Nat) (w : World) (hT : RTree w S A n ps) (hnc : n ≤ c) (hc : c ≤ maxLen) (hV : WsAt w S A1 n1 c1 A2 n2 c2 A3 n3 c3 A4 n4 c4 v) (hL : RSet w S B q l) (hqd : q ≤ d) (hd : d ≤ maxLen) (hS : ∀ k, S k → k < w.heap.size) (hLV : LaidV w) (hM : MaxW w) (z0 : ckTree ps = 0) (y0 : ckWish ps v = 0) :
    Calls Tryz.prog 4 #[.agg #[.slice A n c], .agg #[.slice A1 n1 c1, .slice A2 n2 c2, .slice A3 n3 c3, .slice A4 n4 c4], .slice B q d, .int .i64 k0] w fun e w' => e = .returned (.bool true) ∧ Below w.heap.size w w' := by
  have HLV := Lib.hid hLV; have HMV := Lib.hid hM
  have X0 := Lib.hid (Wb.new w A n c [.slice A1 n1 c1, .slice A2 n2 c2, .slice A3 n3 c3, .slice A4 n4 c4])
  have Hll := Lib.hid hL.len
  have Hpl := Lib.hid hT.len
  have Hlt := Lib.hid (fun (wx : World) (hb : Below w.heap.size w wx) k hk => Nat.lt_of_lt_of_le (hS k hk) hb.size)
  have Hva := Lib.hid (fun (wx : World) (hb : Below w.heap.size w wx) => valid_any ps v l S A B n c q d A1 A2 A3 A4 n1 c1 n2 c2 n3 c3 n4 c4 wx (hT.under hb hS) hnc hc (hV.under hb hS) (hL.under hb hS) hqd hd (Hlt.out _ hb))
  have Hho := Lib.hid (fun (wx : World) (hb : Below w.heap.size w wx) => vholds_any ps l k0 S A B n c q d wx (hT.under hb hS) hnc hc (hL.under hb hS) hqd hd (Hlt.out _ hb))
  have Hct := Lib.hid (fun (wx : World) (hb : Below w.heap.size w wx) => rcheckTree_any ps S A n c wx (hT.under hb hS) hnc hc (Hlt.out _ hb))
  have Hcw := Lib.hid (fun (wx : World) (hb : Below w.heap.size w wx) => cwish_any ps v S A n c A1 A2 A3 A4 n1 c1 n2 c2 n3 c3 n4 c4 wx (hT.under hb hS) hnc hc (hV.under hb hS) (Hlt.out _ hb))
  have HE : Hid (validE ps v l = if ckWish ps v ≠ 0 then ckWish ps v else ckSet ps l) := Lib.hid rfl
  have HVV : Hid (validV ps v l = (decide (validE ps v l = 0) && validP ps v.ts v.ms l)) := Lib.hid rfl
  have HH : Hid (holdsE ps l k0 = if ckSet ps l ≠ 0 then ckSet ps l else if k0 < 0 ∨ (l.length : Int) ≤ k0 then 5 else 0) := Lib.hid rfl
  have HHV : Hid (holdsV ps l k0 = (decide (holdsE ps l k0 = 0) && holdsAt ps l k0.toNat)) := Lib.hid rfl
  have HT := Lib.hid hT; have HS := Lib.hid hS; have HL := Lib.hid hL; have HV := Lib.hid hV; clear hT hS hL hV hLV hM
  have hdm := hd
  unfold maxLen at hdm
  have hn8 : n ≤ 8 := by rw [← Hpl.out]; exact ckTree_len z0
  have Hrw := Lib.hid (fun (wx : World) (hb : Below w.heap.size w wx) => rcwish_any ps v S A n c A1 A2 A3 A4 n1 c1 n2 c2 n3 c3 n4 c4 wx (HT.out.under hb HS.out) z0 hnc hc (HV.out.under hb HS.out) (Hlt.out _ hb))
  have hrs := fun (wx : World) (hb : Below w.heap.size w wx) => rcset_any ps l S A B n c q d wx (HT.out.under hb HS.out) hn8 hnc hc (HL.out.under hb HS.out) (Nat.le_trans hqd hd) (Hlt.out _ hb)
  have hms : ckMs ps none l = ckSet ps l := by unfold ckSet; rw [if_neg (by simpa using z0)]
  rw [hms] at hrs
  have Hrs := Lib.hid hrs
  clear hrs hms
  have HZ := Lib.hid z0
  rw [z0] at Hct
  clear z0
  rw [y0, if_neg (by simp)] at HE
  rw [y0] at Hcw Hrw
  by_cases x0 : ckSet ps l = 0
  · have HC := Lib.hid (fun wx (hb : Below w.heap.size w wx) => Cx.of x0 (HT.out.under hb HS.out) hnc hc (HL.out.under hb HS.out) hqd hd (Hlt.out _ hb))
    have hri := fun (wx : World) (hb : Below w.heap.size w wx) => risvalid_any ps v l S A B n c q d A1 A2 A3 A4 n1 c1 n2 c2 n3 c3 n4 c4 wx (HC.out wx hb) x0 (HV.out.under hb HS.out)
    have hve : validE ps v l = 0 := by rw [HE.out, x0]
    have hvv : validV ps v l = validP ps v.ts v.ms l := by rw [HVV.out, hve]; simp
    rw [hve, hvv] at Hva
    rw [x0] at Hrs
    generalize validP ps v.ts v.ms l = r at Hva hri
    have Hri := Lib.hid hri
    have hbb : (r != r) = false := by simp
    rw [x0, if_neg (by simp)] at HH
    clear hve hvv hri HE HVV y0
    by_cases kneg : k0 < 0
    · have he : holdsE ps l k0 = 5 := by rw [HH.out, if_pos (.inl kneg)]
      have hv : holdsV ps l k0 = false := by rw [HHV.out, he]; rfl
      rw [he, hv] at Hho
      have k1 : decide (k0 < 0) = true := decide_eq_true kneg
      clear he hv HH HHV x0
      go_enter Tryz.func4, Tryz.ntmps4
      go_wp2_with (first | (go_at_call 5; refine (Hva.out _ X0.out.bel).mono ?_; rintro e w2 ⟨rfl, hb2⟩; refine Hid.out ?_))
      refine Lib.hid ?_
      have X2 := Lib.hid (X0.out.move hb2)
      clear hb2 X0 Hva
      have t0 := X2.out.t.cell 0
      have v0 := X2.out.v.cell 0; have v1 := X2.out.v.cell 1; have v2 := X2.out.v.cell 2; have v3 := X2.out.v.cell 3
      simp only [List.getElem?_cons_zero, List.getElem?_cons_succ] at t0 v0 v1 v2 v3
      have vlt := X2.out.v.lt
      have tlt := X2.out.t.lt
      go_wp2_with (first | (go_at_call 7; refine (Hho.out _ X2.out.bel).mono ?_; rintro e w3 ⟨rfl, hb3⟩; refine Hid.out ?_))
      refine Lib.hid ?_
      have X3 := Lib.hid (X2.out.move hb3)
      clear t0 v0 v1 v2 v3 vlt tlt
      clear hb3 X2 Hho
      have t0 := X3.out.t.cell 0
      have v0 := X3.out.v.cell 0; have v1 := X3.out.v.cell 1; have v2 := X3.out.v.cell 2; have v3 := X3.out.v.cell 3
      simp only [List.getElem?_cons_zero, List.getElem?_cons_succ] at t0 v0 v1 v2 v3
      have vlt := X3.out.v.lt
      have tlt := X3.out.t.lt
      go_wp2_with (first | (go_at_call 8; refine (Hct.out _ X3.out.bel).mono ?_; rintro e w4 ⟨rfl, hb4⟩; refine Hid.out ?_))
      refine Lib.hid ?_
      have X4 := Lib.hid (X3.out.move hb4)
      clear t0 v0 v1 v2 v3 vlt tlt
      clear hb4 X3
      have t0 := X4.out.t.cell 0
      have v0 := X4.out.v.cell 0; have v1 := X4.out.v.cell 1; have v2 := X4.out.v.cell 2; have v3 := X4.out.v.cell 3
      simp only [List.getElem?_cons_zero, List.getElem?_cons_succ] at t0 v0 v1 v2 v3
      have vlt := X4.out.v.lt
      have tlt := X4.out.t.lt
      go_wp2_with (first | (go_at_call 9; refine (Hrw.out _ X4.out.bel).mono ?_; rintro e w5 ⟨rfl, hb5⟩; refine Hid.out ?_))
      refine Lib.hid ?_
      have X5 := Lib.hid (X4.out.move hb5)
      clear t0 v0 v1 v2 v3 vlt tlt
      clear hb5 X4 Hrw
      have t0 := X5.out.t.cell 0
      have v0 := X5.out.v.cell 0; have v1 := X5.out.v.cell 1; have v2 := X5.out.v.cell 2; have v3 := X5.out.v.cell 3
      simp only [List.getElem?_cons_zero, List.getElem?_cons_succ] at t0 v0 v1 v2 v3
      have vlt := X5.out.v.lt
      have tlt := X5.out.t.lt
      go_wp2_with (first | (go_at_call 6; refine (allowed_any _ (HLV.out.below X5.out.bel) (HMV.out.below X5.out.bel)).mono ?_; rintro e w6 ⟨rfl, hb6⟩; refine Hid.out ?_))
      refine Lib.hid ?_
      have X6 := Lib.hid (X5.out.move hb6)
      clear t0 v0 v1 v2 v3 vlt tlt
      clear hb6 X5
      have t0 := X6.out.t.cell 0
      have v0 := X6.out.v.cell 0; have v1 := X6.out.v.cell 1; have v2 := X6.out.v.cell 2; have v3 := X6.out.v.cell 3
      simp only [List.getElem?_cons_zero, List.getElem?_cons_succ] at t0 v0 v1 v2 v3
      have vlt := X6.out.v.lt
      have tlt := X6.out.t.lt
      go_wp2_with (first | (go_at_call 10; refine (Hcw.out _ X6.out.bel).mono ?_; rintro e w7 ⟨rfl, hb7⟩; refine Hid.out ?_))
      refine Lib.hid ?_
      have X7 := Lib.hid (X6.out.move hb7)
      clear t0 v0 v1 v2 v3 vlt tlt
      clear hb7 X6 Hcw
      have t0 := X7.out.t.cell 0
      have v0 := X7.out.v.cell 0; have v1 := X7.out.v.cell 1; have v2 := X7.out.v.cell 2; have v3 := X7.out.v.cell 3
      simp only [List.getElem?_cons_zero, List.getElem?_cons_succ] at t0 v0 v1 v2 v3
      have vlt := X7.out.v.lt
      have tlt := X7.out.t.lt
      go_wp2_with (first | (go_at_call 8; refine (Hct.out _ X7.out.bel).mono ?_; rintro e w8 ⟨rfl, hb8⟩; refine Hid.out ?_))
      refine Lib.hid ?_
      have X8 := Lib.hid (X7.out.move hb8)
      clear t0 v0 v1 v2 v3 vlt tlt
      clear hb8 X7 Hct
      have t0 := X8.out.t.cell 0
      have v0 := X8.out.v.cell 0; have v1 := X8.out.v.cell 1; have v2 := X8.out.v.cell 2; have v3 := X8.out.v.cell 3
      simp only [List.getElem?_cons_zero, List.getElem?_cons_succ] at t0 v0 v1 v2 v3
      have vlt := X8.out.v.lt
      have tlt := X8.out.t.lt
      go_wp2_with (first | (go_at_call 11; refine (Hrs.out _ X8.out.bel).mono ?_; rintro e w9 ⟨rfl, hb9⟩; refine Hid.out ?_))
      refine Lib.hid ?_
      have X9 := Lib.hid (X8.out.move hb9)
      clear t0 v0 v1 v2 v3 vlt tlt
      clear hb9 X8 Hrs
      have t0 := X9.out.t.cell 0
      have v0 := X9.out.v.cell 0; have v1 := X9.out.v.cell 1; have v2 := X9.out.v.cell 2; have v3 := X9.out.v.cell 3
      simp only [List.getElem?_cons_zero, List.getElem?_cons_succ] at t0 v0 v1 v2 v3
      have vlt := X9.out.v.lt
      have tlt := X9.out.t.lt
      go_wp2_with (first | (go_at_call 12; refine (Hri.out _ X9.out.bel).mono ?_; rintro e w10 ⟨rfl, hb10⟩; refine Hid.out ?_))
      refine Lib.hid ?_
      replace X9 := Lib.hid (X9.out.move hb10)
      clear t0 v0 v1 v2 v3 vlt tlt
      clear hb10 Hri
      have t0 := X9.out.t.cell 0
      have v0 := X9.out.v.cell 0; have v1 := X9.out.v.cell 1; have v2 := X9.out.v.cell 2; have v3 := X9.out.v.cell 3
      simp only [List.getElem?_cons_zero, List.getElem?_cons_succ] at t0 v0 v1 v2 v3
      have vlt := X9.out.v.lt
      have tlt := X9.out.t.lt
      go_wp2
      go_quiet (fail)
      go_wp2
      go_ret
      exact ⟨rfl, below_drewN X9.out.bel _⟩
    by_cases kbig : (q : Int) ≤ k0
    · have he : holdsE ps l k0 = 5 := by rw [HH.out, if_pos (.inr (by rw [Hll.out]; exact kbig))]
      have hv : holdsV ps l k0 = false := by rw [HHV.out, he]; rfl
      rw [he, hv] at Hho
      have k1 : decide (k0 < 0) = false := decide_eq_false kneg
      have k2 : decide ((q : Int) ≤ k0) = true := decide_eq_true kbig
      clear he hv HH HHV x0
      go_enter Tryz.func4, Tryz.ntmps4
      go_wp2_with (first | (go_at_call 5; refine (Hva.out _ X0.out.bel).mono ?_; rintro e w2 ⟨rfl, hb2⟩; refine Hid.out ?_))
      refine Lib.hid ?_
      have X2 := Lib.hid (X0.out.move hb2)
      clear hb2 X0 Hva
      have t0 := X2.out.t.cell 0
      have v0 := X2.out.v.cell 0; have v1 := X2.out.v.cell 1; have v2 := X2.out.v.cell 2; have v3 := X2.out.v.cell 3
      simp only [List.getElem?_cons_zero, List.getElem?_cons_succ] at t0 v0 v1 v2 v3
      have vlt := X2.out.v.lt
      have tlt := X2.out.t.lt
      go_wp2_with (first | (go_at_call 7; refine (Hho.out _ X2.out.bel).mono ?_; rintro e w3 ⟨rfl, hb3⟩; refine Hid.out ?_))
      refine Lib.hid ?_
      have X3 := Lib.hid (X2.out.move hb3)
      clear t0 v0 v1 v2 v3 vlt tlt
      clear hb3 X2 Hho
      have t0 := X3.out.t.cell 0
      have v0 := X3.out.v.cell 0; have v1 := X3.out.v.cell 1; have v2 := X3.out.v.cell 2; have v3 := X3.out.v.cell 3
      simp only [List.getElem?_cons_zero, List.getElem?_cons_succ] at t0 v0 v1 v2 v3
      have vlt := X3.out.v.lt
      have tlt := X3.out.t.lt
      go_wp2_with (first | (go_at_call 8; refine (Hct.out _ X3.out.bel).mono ?_; rintro e w4 ⟨rfl, hb4⟩; refine Hid.out ?_))
      refine Lib.hid ?_
      have X4 := Lib.hid (X3.out.move hb4)
      clear t0 v0 v1 v2 v3 vlt tlt
      clear hb4 X3
      have t0 := X4.out.t.cell 0
      have v0 := X4.out.v.cell 0; have v1 := X4.out.v.cell 1; have v2 := X4.out.v.cell 2; have v3 := X4.out.v.cell 3
      simp only [List.getElem?_cons_zero, List.getElem?_cons_succ] at t0 v0 v1 v2 v3
      have vlt := X4.out.v.lt
      have tlt := X4.out.t.lt
      go_wp2_with (first | (go_at_call 9; refine (Hrw.out _ X4.out.bel).mono ?_; rintro e w5 ⟨rfl, hb5⟩; refine Hid.out ?_))
      refine Lib.hid ?_
      have X5 := Lib.hid (X4.out.move hb5)
      clear t0 v0 v1 v2 v3 vlt tlt
      clear hb5 X4 Hrw
      have t0 := X5.out.t.cell 0
      have v0 := X5.out.v.cell 0; have v1 := X5.out.v.cell 1; have v2 := X5.out.v.cell 2; have v3 := X5.out.v.cell 3
      simp only [List.getElem?_cons_zero, List.getElem?_cons_succ] at t0 v0 v1 v2 v3
      have vlt := X5.out.v.lt
      have tlt := X5.out.t.lt
      go_wp2_with (first | (go_at_call 6; refine (allowed_any _ (HLV.out.below X5.out.bel) (HMV.out.below X5.out.bel)).mono ?_; rintro e w6 ⟨rfl, hb6⟩; refine Hid.out ?_))
      refine Lib.hid ?_
      have X6 := Lib.hid (X5.out.move hb6)
      clear t0 v0 v1 v2 v3 vlt tlt
      clear hb6 X5
      have t0 := X6.out.t.cell 0
      have v0 := X6.out.v.cell 0; have v1 := X6.out.v.cell 1; have v2 := X6.out.v.cell 2; have v3 := X6.out.v.cell 3
      simp only [List.getElem?_cons_zero, List.getElem?_cons_succ] at t0 v0 v1 v2 v3
      have vlt := X6.out.v.lt
      have tlt := X6.out.t.lt
      go_wp2_with (first | (go_at_call 10; refine (Hcw.out _ X6.out.bel).mono ?_; rintro e w7 ⟨rfl, hb7⟩; refine Hid.out ?_))
      refine Lib.hid ?_
      have X7 := Lib.hid (X6.out.move hb7)
      clear t0 v0 v1 v2 v3 vlt tlt
      clear hb7 X6 Hcw
      have t0 := X7.out.t.cell 0
      have v0 := X7.out.v.cell 0; have v1 := X7.out.v.cell 1; have v2 := X7.out.v.cell 2; have v3 := X7.out.v.cell 3
      simp only [List.getElem?_cons_zero, List.getElem?_cons_succ] at t0 v0 v1 v2 v3
      have vlt := X7.out.v.lt
      have tlt := X7.out.t.lt
      go_wp2_with (first | (go_at_call 8; refine (Hct.out _ X7.out.bel).mono ?_; rintro e w8 ⟨rfl, hb8⟩; refine Hid.out ?_))
      refine Lib.hid ?_
      have X8 := Lib.hid (X7.out.move hb8)
      clear t0 v0 v1 v2 v3 vlt tlt
      clear hb8 X7 Hct
      have t0 := X8.out.t.cell 0
      have v0 := X8.out.v.cell 0; have v1 := X8.out.v.cell 1; have v2 := X8.out.v.cell 2; have v3 := X8.out.v.cell 3
      simp only [List.getElem?_cons_zero, List.getElem?_cons_succ] at t0 v0 v1 v2 v3
      have vlt := X8.out.v.lt
      have tlt := X8.out.t.lt
      go_wp2_with (first | (go_at_call 11; refine (Hrs.out _ X8.out.bel).mono ?_; rintro e w9 ⟨rfl, hb9⟩; refine Hid.out ?_))
      refine Lib.hid ?_
      have X9 := Lib.hid (X8.out.move hb9)
      clear t0 v0 v1 v2 v3 vlt tlt
      clear hb9 X8 Hrs
      have t0 := X9.out.t.cell 0
      have v0 := X9.out.v.cell 0; have v1 := X9.out.v.cell 1; have v2 := X9.out.v.cell 2; have v3 := X9.out.v.cell 3
      simp only [List.getElem?_cons_zero, List.getElem?_cons_succ] at t0 v0 v1 v2 v3
      have vlt := X9.out.v.lt
      have tlt := X9.out.t.lt
      go_wp2_with (first | (go_at_call 12; refine (Hri.out _ X9.out.bel).mono ?_; rintro e w10 ⟨rfl, hb10⟩; refine Hid.out ?_))
      refine Lib.hid ?_
      replace X9 := Lib.hid (X9.out.move hb10)
      clear t0 v0 v1 v2 v3 vlt tlt
      clear hb10 Hri
      have t0 := X9.out.t.cell 0
      have v0 := X9.out.v.cell 0; have v1 := X9.out.v.cell 1; have v2 := X9.out.v.cell 2; have v3 := X9.out.v.cell 3
      simp only [List.getElem?_cons_zero, List.getElem?_cons_succ] at t0 v0 v1 v2 v3
      have vlt := X9.out.v.lt
      have tlt := X9.out.t.lt
      go_wp2
      go_quiet (fail)
      go_wp2
      go_ret
      exact ⟨rfl, below_drewN X9.out.bel _⟩
    obtain ⟨k, rfl⟩ : ∃ k : Nat, k0 = k := ⟨k0.toNat, by omega⟩
    have he : holdsE ps l (k : Int) = 0 := by rw [HH.out, if_neg (by rw [Hll.out]; omega)]
    have hv : holdsV ps l (k : Int) = holdsAt ps l k := by rw [HHV.out, he]; simp
    rw [he, hv] at Hho
    have k1 : decide ((k : Int) < 0) = false := decide_eq_false kneg
    have k2 : decide ((q : Int) ≤ (k : Int)) = false := decide_eq_false kbig
    have hkq : k < q := by omega
    have Hfs : Hid (∀ p ∈ ps, ∀ f ∈ p.fs, f ≠ []) := Lib.hid fun p hp f hf e => by
      have := (isName_len (ckFlags_names (pkOk (ckTree_mem HZ.out p hp)).fs f hf)).1
      rw [e] at this; simp at this
    have Hnd : Hid (∀ p ∈ ps, p.fs.Nodup) := Lib.hid fun p hp => flags_nodup (pkOk (ckTree_mem HZ.out p hp))
    obtain ⟨b, o, m, E9, u, v9, rfl, hbS, hm, huv, hv9, hon, g0, g1⟩ := HL.out.at_ hkq
    have hown := own_flags x0 (k := k) (by have := Hll.out; omega)
    obtain ⟨hp0, hp1, _⟩ := (HC.out w (Below.refl _ _)).ok m (List.mem_of_getElem? hm)
    have hra := fun (wx : World) (hb : Below w.heap.size w wx) cx hr => rholds_any ps l S A n c (some ⟨b, o, none⟩) q d Hfs.out Hnd.out (pkOf ps (memAt l k).pl).nd k cx wx (HC.out wx hb) hkq hr hown
    have Hat : Hid (holdsAt ps l k = holdsN ps l k (memAt l k) (pkOf ps (memAt l k).pl).nd) := Lib.hid rfl
    rw [memAt_at hm] at hra Hat
    have hpl := Hpl.out
    obtain ⟨pl, on⟩ := m
    dsimp only at g0 hp0 hp1 hra Hat
    obtain ⟨j, rfl⟩ : ∃ j : Nat, pl = j := ⟨pl.toNat, by omega⟩
    have hjn : j < n := by omega
    obtain ⟨b2, o2, p, F, fn, fc, kd, pa, f, no, E, r9, d', rfl, hbS2, hp, hP, hcell⟩ := HT.out.at_ hjn
    rw [pkOf_at hp] at hra Hat
    have hrh := fun (wx : World) (hb : Below w.heap.size w wx) => hra wx hb (ndRow kd pa f no E r9 d') (hP.nd.under hb HS.out)
    rw [← Hat.out] at hrh
    generalize holdsAt ps l k = hval at hrh Hho
    unfold ndRow at hrh
    have Hrh := Lib.hid hrh
    have H0 := Lib.hid g0
    have h4 := hcell 4 (by omega); have h5 := hcell 5 (by omega); have h6 := hcell 6 (by omega); have h7 := hcell 7 (by omega); have h8 := hcell 8 (by omega); have h9 := hcell 9 (by omega); have h10 := hcell 10 (by omega); have h11 := hcell 11 (by omega); have h12 := hcell 12 (by omega); have h13 := hcell 13 (by omega)
    unfold pkRow ndRow at h4 h5 h6 h7 h8 h9 h10 h11 h12 h13
    simp only [List.getElem?_cons_zero, List.getElem?_cons_succ, Nat.add_zero] at h4 h5 h6 h7 h8 h9 h10 h11 h12 h13
    have H4 := Lib.hid h4; have H5 := Lib.hid h5; have H6 := Lib.hid h6; have H7 := Lib.hid h7; have H8 := Lib.hid h8; have H9 := Lib.hid h9; have H10 := Lib.hid h10; have H11 := Lib.hid h11; have H12 := Lib.hid h12; have H13 := Lib.hid h13
    have hbl : b < w.heap.size := HS.out b hbS
    have hbl2 : b2 < w.heap.size := HS.out b2 hbS2
    have hhv : (hval == hval) = true := by simp
    clear he hv HH HHV x0 hown hra hrh hcell h4 h5 h6 h7 h8 h9 h10 h11 h12 h13 g0 g1 hm hon hp hP hp0 hp1 Hat
    go_enter Tryz.func4, Tryz.ntmps4
    go_wp2_with (first | (go_at_call 5; refine (Hva.out _ X0.out.bel).mono ?_; rintro e w2 ⟨rfl, hb2⟩; refine Hid.out ?_))
    refine Lib.hid ?_
    have X2 := Lib.hid (X0.out.move hb2)
    clear hb2 X0 Hva
    have t0 := X2.out.t.cell 0
    have v0 := X2.out.v.cell 0; have v1 := X2.out.v.cell 1; have v2 := X2.out.v.cell 2; have v3 := X2.out.v.cell 3
    simp only [List.getElem?_cons_zero, List.getElem?_cons_succ] at t0 v0 v1 v2 v3
    have vlt := X2.out.v.lt
    have tlt := X2.out.t.lt
    go_wp2_with (first | (go_at_call 7; refine (Hho.out _ X2.out.bel).mono ?_; rintro e w3 ⟨rfl, hb3⟩; refine Hid.out ?_))
    refine Lib.hid ?_
    have X3 := Lib.hid (X2.out.move hb3)
    clear t0 v0 v1 v2 v3 vlt tlt
    clear hb3 X2 Hho
    have t0 := X3.out.t.cell 0
    have v0 := X3.out.v.cell 0; have v1 := X3.out.v.cell 1; have v2 := X3.out.v.cell 2; have v3 := X3.out.v.cell 3
    simp only [List.getElem?_cons_zero, List.getElem?_cons_succ] at t0 v0 v1 v2 v3
    have vlt := X3.out.v.lt
    have tlt := X3.out.t.lt
    go_wp2_with (first | (go_at_call 8; refine (Hct.out _ X3.out.bel).mono ?_; rintro e w4 ⟨rfl, hb4⟩; refine Hid.out ?_))
    refine Lib.hid ?_
    have X4 := Lib.hid (X3.out.move hb4)
    clear t0 v0 v1 v2 v3 vlt tlt
    clear hb4 X3
    have t0 := X4.out.t.cell 0
    have v0 := X4.out.v.cell 0; have v1 := X4.out.v.cell 1; have v2 := X4.out.v.cell 2; have v3 := X4.out.v.cell 3
    simp only [List.getElem?_cons_zero, List.getElem?_cons_succ] at t0 v0 v1 v2 v3
    have vlt := X4.out.v.lt
    have tlt := X4.out.t.lt
    go_wp2_with (first | (go_at_call 9; refine (Hrw.out _ X4.out.bel).mono ?_; rintro e w5 ⟨rfl, hb5⟩; refine Hid.out ?_))
    refine Lib.hid ?_
    have X5 := Lib.hid (X4.out.move hb5)
    clear t0 v0 v1 v2 v3 vlt tlt
    clear hb5 X4 Hrw
    have t0 := X5.out.t.cell 0
    have v0 := X5.out.v.cell 0; have v1 := X5.out.v.cell 1; have v2 := X5.out.v.cell 2; have v3 := X5.out.v.cell 3
    simp only [List.getElem?_cons_zero, List.getElem?_cons_succ] at t0 v0 v1 v2 v3
    have vlt := X5.out.v.lt
    have tlt := X5.out.t.lt
    go_wp2_with (first | (go_at_call 6; refine (allowed_any _ (HLV.out.below X5.out.bel) (HMV.out.below X5.out.bel)).mono ?_; rintro e w6 ⟨rfl, hb6⟩; refine Hid.out ?_))
    refine Lib.hid ?_
    have X6 := Lib.hid (X5.out.move hb6)
    clear t0 v0 v1 v2 v3 vlt tlt
    clear hb6 X5
    have t0 := X6.out.t.cell 0
    have v0 := X6.out.v.cell 0; have v1 := X6.out.v.cell 1; have v2 := X6.out.v.cell 2; have v3 := X6.out.v.cell 3
    simp only [List.getElem?_cons_zero, List.getElem?_cons_succ] at t0 v0 v1 v2 v3
    have vlt := X6.out.v.lt
    have tlt := X6.out.t.lt
    go_wp2_with (first | (go_at_call 10; refine (Hcw.out _ X6.out.bel).mono ?_; rintro e w7 ⟨rfl, hb7⟩; refine Hid.out ?_))
    refine Lib.hid ?_
    have X7 := Lib.hid (X6.out.move hb7)
    clear t0 v0 v1 v2 v3 vlt tlt
    clear hb7 X6 Hcw
    have t0 := X7.out.t.cell 0
    have v0 := X7.out.v.cell 0; have v1 := X7.out.v.cell 1; have v2 := X7.out.v.cell 2; have v3 := X7.out.v.cell 3
    simp only [List.getElem?_cons_zero, List.getElem?_cons_succ] at t0 v0 v1 v2 v3
    have vlt := X7.out.v.lt
    have tlt := X7.out.t.lt
    go_wp2_with (first | (go_at_call 8; refine (Hct.out _ X7.out.bel).mono ?_; rintro e w8 ⟨rfl, hb8⟩; refine Hid.out ?_))
    refine Lib.hid ?_
    have X8 := Lib.hid (X7.out.move hb8)
    clear t0 v0 v1 v2 v3 vlt tlt
    clear hb8 X7 Hct
    have t0 := X8.out.t.cell 0
    have v0 := X8.out.v.cell 0; have v1 := X8.out.v.cell 1; have v2 := X8.out.v.cell 2; have v3 := X8.out.v.cell 3
    simp only [List.getElem?_cons_zero, List.getElem?_cons_succ] at t0 v0 v1 v2 v3
    have vlt := X8.out.v.lt
    have tlt := X8.out.t.lt
    go_wp2_with (first | (go_at_call 11; refine (Hrs.out _ X8.out.bel).mono ?_; rintro e w9 ⟨rfl, hb9⟩; refine Hid.out ?_))
    refine Lib.hid ?_
    have X9 := Lib.hid (X8.out.move hb9)
    clear t0 v0 v1 v2 v3 vlt tlt
    clear hb9 X8 Hrs
    have t0 := X9.out.t.cell 0
    have v0 := X9.out.v.cell 0; have v1 := X9.out.v.cell 1; have v2 := X9.out.v.cell 2; have v3 := X9.out.v.cell 3
    simp only [List.getElem?_cons_zero, List.getElem?_cons_succ] at t0 v0 v1 v2 v3
    have vlt := X9.out.v.lt
    have tlt := X9.out.t.lt
    go_wp2_with (first | (go_at_call 12; refine (Hri.out _ X9.out.bel).mono ?_; rintro e w10 ⟨rfl, hb10⟩; refine Hid.out ?_))
    refine Lib.hid ?_
    replace X9 := Lib.hid (X9.out.move hb10)
    clear t0 v0 v1 v2 v3 vlt tlt
    clear hb10 Hri
    have t0 := X9.out.t.cell 0
    have v0 := X9.out.v.cell 0; have v1 := X9.out.v.cell 1; have v2 := X9.out.v.cell 2; have v3 := X9.out.v.cell 3
    simp only [List.getElem?_cons_zero, List.getElem?_cons_succ] at t0 v0 v1 v2 v3
    have vlt := X9.out.v.lt
    have tlt := X9.out.t.lt
    go_wp2
    clear v0 v1 v2 v3 vlt tlt t0
    have XX := X9
    clear X9
    have t0 := XX.out.t.cell 0; simp only [List.getElem?_cons_zero, List.getElem?_cons_succ] at t0; have q0 := (XX.out.bel.cell (p := ⟨b, o + k * 2, none⟩) hbl).trans H0.out; have q4 := (XX.out.bel.cell (p := ⟨b2, o2 + j * 14 + 4, none⟩) hbl2).trans H4.out; have q5 := (XX.out.bel.cell (p := ⟨b2, o2 + j * 14 + 5, none⟩) hbl2).trans H5.out; have q6 := (XX.out.bel.cell (p := ⟨b2, o2 + j * 14 + 6, none⟩) hbl2).trans H6.out; have q7 := (XX.out.bel.cell (p := ⟨b2, o2 + j * 14 + 7, none⟩) hbl2).trans H7.out; have q8 := (XX.out.bel.cell (p := ⟨b2, o2 + j * 14 + 8, none⟩) hbl2).trans H8.out; have q9 := (XX.out.bel.cell (p := ⟨b2, o2 + j * 14 + 9, none⟩) hbl2).trans H9.out; have q10 := (XX.out.bel.cell (p := ⟨b2, o2 + j * 14 + 10, none⟩) hbl2).trans H10.out; have q11 := (XX.out.bel.cell (p := ⟨b2, o2 + j * 14 + 11, none⟩) hbl2).trans H11.out; have q12 := (XX.out.bel.cell (p := ⟨b2, o2 + j * 14 + 12, none⟩) hbl2).trans H12.out; have q13 := (XX.out.bel.cell (p := ⟨b2, o2 + j * 14 + 13, none⟩) hbl2).trans H13.out
    refine wp_region_held_drew (S := (fun w' => w'.cell? ⟨w.heap.size, 0, none⟩ = some (.slice (some ⟨b2, o2, none⟩) n c) ∧ w'.cell? ⟨b, o + k * 2, none⟩ = some (.int .i64 (j : Int)) ∧ w'.cell? ⟨b2, o2 + j * 14 + 4, none⟩ = some (.int .i64 kd) ∧ w'.cell? ⟨b2, o2 + j * 14 + 5, none⟩ = some (.string ⟨pa.nm.toArray⟩) ∧ w'.cell? ⟨b2, o2 + j * 14 + 6, none⟩ = some (.int .i64 pa.op) ∧ w'.cell? ⟨b2, o2 + j * 14 + 7, none⟩ = some (.int .i64 pa.ver) ∧ w'.cell? ⟨b2, o2 + j * 14 + 8, none⟩ = some (.int .i64 pa.slot) ∧ w'.cell? ⟨b2, o2 + j * 14 + 9, none⟩ = some (.string ⟨pa.fl.toArray⟩) ∧ w'.cell? ⟨b2, o2 + j * 14 + 10, none⟩ = some (.bool pa.on) ∧ w'.cell? ⟨b2, o2 + j * 14 + 11, none⟩ = some (.string ⟨f.toArray⟩) ∧ w'.cell? ⟨b2, o2 + j * 14 + 12, none⟩ = some (.bool no) ∧ w'.cell? ⟨b2, o2 + j * 14 + 13, none⟩ = some (.slice E r9 d'))) (by kernel_rfl) (⟨t0, q0, q4, q5, q6, q7, q8, q9, q10, q11, q12, q13⟩) (fun hHeld => ?_)
    first
    | (refine wpAnyH_take (i := 0) (v := ?_) held_at0 (by kernel_rfl) (by kernel_rfl) (by kernel_rfl) (fun _ _ _ h => h) (Or.inl ⟨by rfl, ?_⟩) (by assumption) ?_
       rotate_left
       · (intro w_ hSw; (try dsimp only at hSw); go_simp; (try with_reducible rfl))
       (try simp only [Act.put, List.setIfInBounds_toArray, List.set_cons_zero, List.set_cons_succ]))
    | (refine wpAnyH_take (i := 0) (v := undef) held_at0 (by kernel_rfl) (by kernel_rfl) (by kernel_rfl) (fun _ _ _ h => h) (Or.inr ⟨by rfl, rfl⟩) (by assumption) ?_
       (try simp only [Act.put, List.setIfInBounds_toArray, List.set_cons_zero, List.set_cons_succ]))
    first
    | (refine wpAnyH_take (i := 1) (v := ?_) held_at1 (by kernel_rfl) (by kernel_rfl) (by kernel_rfl) (fun _ _ _ h => h) (Or.inl ⟨by rfl, ?_⟩) (by assumption) ?_
       rotate_left
       · (intro w_ hSw; (try dsimp only at hSw); go_simp; (try with_reducible rfl))
       (try simp only [Act.put, List.setIfInBounds_toArray, List.set_cons_zero, List.set_cons_succ]))
    | (refine wpAnyH_take (i := 1) (v := undef) held_at1 (by kernel_rfl) (by kernel_rfl) (by kernel_rfl) (fun _ _ _ h => h) (Or.inr ⟨by rfl, rfl⟩) (by assumption) ?_
       (try simp only [Act.put, List.setIfInBounds_toArray, List.set_cons_zero, List.set_cons_succ]))
    first
    | (refine wpAnyH_take (i := 2) (v := ?_) held_at2 (by kernel_rfl) (by kernel_rfl) (by kernel_rfl) (fun _ _ _ h => h) (Or.inl ⟨by rfl, ?_⟩) (by assumption) ?_
       rotate_left
       · (intro w_ hSw; (try dsimp only at hSw); go_simp; (try with_reducible rfl))
       (try simp only [Act.put, List.setIfInBounds_toArray, List.set_cons_zero, List.set_cons_succ]))
    | (refine wpAnyH_take (i := 2) (v := undef) held_at2 (by kernel_rfl) (by kernel_rfl) (by kernel_rfl) (fun _ _ _ h => h) (Or.inr ⟨by rfl, rfl⟩) (by assumption) ?_
       (try simp only [Act.put, List.setIfInBounds_toArray, List.set_cons_zero, List.set_cons_succ]))
    first
    | (refine wpAnyH_take (i := 3) (v := ?_) held_at3 (by kernel_rfl) (by kernel_rfl) (by kernel_rfl) (fun _ _ _ h => h) (Or.inl ⟨by rfl, ?_⟩) (by assumption) ?_
       rotate_left
       · (intro w_ hSw; (try dsimp only at hSw); go_simp; (try with_reducible rfl))
       (try simp only [Act.put, List.setIfInBounds_toArray, List.set_cons_zero, List.set_cons_succ]))
    | (refine wpAnyH_take (i := 3) (v := undef) held_at3 (by kernel_rfl) (by kernel_rfl) (by kernel_rfl) (fun _ _ _ h => h) (Or.inr ⟨by rfl, rfl⟩) (by assumption) ?_
       (try simp only [Act.put, List.setIfInBounds_toArray, List.set_cons_zero, List.set_cons_succ]))
    first
    | (refine wpAnyH_take (i := 4) (v := ?_) held_at4 (by kernel_rfl) (by kernel_rfl) (by kernel_rfl) (fun _ _ _ h => h) (Or.inl ⟨by rfl, ?_⟩) (by assumption) ?_
       rotate_left
       · (intro w_ hSw; (try dsimp only at hSw); go_simp; (try with_reducible rfl))
       (try simp only [Act.put, List.setIfInBounds_toArray, List.set_cons_zero, List.set_cons_succ]))
    | (refine wpAnyH_take (i := 4) (v := undef) held_at4 (by kernel_rfl) (by kernel_rfl) (by kernel_rfl) (fun _ _ _ h => h) (Or.inr ⟨by rfl, rfl⟩) (by assumption) ?_
       (try simp only [Act.put, List.setIfInBounds_toArray, List.set_cons_zero, List.set_cons_succ]))
    first
    | (refine wpAnyH_take (i := 5) (v := ?_) held_at5 (by kernel_rfl) (by kernel_rfl) (by kernel_rfl) (fun _ _ _ h => h) (Or.inl ⟨by rfl, ?_⟩) (by assumption) ?_
       rotate_left
       · (intro w_ hSw; (try dsimp only at hSw); go_simp; (try with_reducible rfl))
       (try simp only [Act.put, List.setIfInBounds_toArray, List.set_cons_zero, List.set_cons_succ]))
    | (refine wpAnyH_take (i := 5) (v := undef) held_at5 (by kernel_rfl) (by kernel_rfl) (by kernel_rfl) (fun _ _ _ h => h) (Or.inr ⟨by rfl, rfl⟩) (by assumption) ?_
       (try simp only [Act.put, List.setIfInBounds_toArray, List.set_cons_zero, List.set_cons_succ]))
    first
    | (refine wpAnyH_take (i := 6) (v := ?_) held_at6 (by kernel_rfl) (by kernel_rfl) (by kernel_rfl) (fun _ _ _ h => h) (Or.inl ⟨by rfl, ?_⟩) (by assumption) ?_
       rotate_left
       · (intro w_ hSw; (try dsimp only at hSw); go_simp; (try with_reducible rfl))
       (try simp only [Act.put, List.setIfInBounds_toArray, List.set_cons_zero, List.set_cons_succ]))
    | (refine wpAnyH_take (i := 6) (v := undef) held_at6 (by kernel_rfl) (by kernel_rfl) (by kernel_rfl) (fun _ _ _ h => h) (Or.inr ⟨by rfl, rfl⟩) (by assumption) ?_
       (try simp only [Act.put, List.setIfInBounds_toArray, List.set_cons_zero, List.set_cons_succ]))
    first
    | (refine wpAnyH_take (i := 7) (v := ?_) held_at7 (by kernel_rfl) (by kernel_rfl) (by kernel_rfl) (fun _ _ _ h => h) (Or.inl ⟨by rfl, ?_⟩) (by assumption) ?_
       rotate_left
       · (intro w_ hSw; (try dsimp only at hSw); go_simp; (try with_reducible rfl))
       (try simp only [Act.put, List.setIfInBounds_toArray, List.set_cons_zero, List.set_cons_succ]))
    | (refine wpAnyH_take (i := 7) (v := undef) held_at7 (by kernel_rfl) (by kernel_rfl) (by kernel_rfl) (fun _ _ _ h => h) (Or.inr ⟨by rfl, rfl⟩) (by assumption) ?_
       (try simp only [Act.put, List.setIfInBounds_toArray, List.set_cons_zero, List.set_cons_succ]))
    first
    | (refine wpAnyH_take (i := 8) (v := ?_) held_at8 (by kernel_rfl) (by kernel_rfl) (by kernel_rfl) (fun _ _ _ h => h) (Or.inl ⟨by rfl, ?_⟩) (by assumption) ?_
       rotate_left
       · (intro w_ hSw; (try dsimp only at hSw); go_simp; (try with_reducible rfl))
       (try simp only [Act.put, List.setIfInBounds_toArray, List.set_cons_zero, List.set_cons_succ]))
    | (refine wpAnyH_take (i := 8) (v := undef) held_at8 (by kernel_rfl) (by kernel_rfl) (by kernel_rfl) (fun _ _ _ h => h) (Or.inr ⟨by rfl, rfl⟩) (by assumption) ?_
       (try simp only [Act.put, List.setIfInBounds_toArray, List.set_cons_zero, List.set_cons_succ]))
    first
    | (refine wpAnyH_take (i := 9) (v := ?_) held_at9 (by kernel_rfl) (by kernel_rfl) (by kernel_rfl) (fun _ _ _ h => h) (Or.inl ⟨by rfl, ?_⟩) (by assumption) ?_
       rotate_left
       · (intro w_ hSw; (try dsimp only at hSw); go_simp; (try with_reducible rfl))
       (try simp only [Act.put, List.setIfInBounds_toArray, List.set_cons_zero, List.set_cons_succ]))
    | (refine wpAnyH_take (i := 9) (v := undef) held_at9 (by kernel_rfl) (by kernel_rfl) (by kernel_rfl) (fun _ _ _ h => h) (Or.inr ⟨by rfl, rfl⟩) (by assumption) ?_
       (try simp only [Act.put, List.setIfInBounds_toArray, List.set_cons_zero, List.set_cons_succ]))
    first
    | (refine wpAnyH_take (i := 10) (v := ?_) held_at10 (by kernel_rfl) (by kernel_rfl) (by kernel_rfl) (fun _ _ _ h => h) (Or.inl ⟨by rfl, ?_⟩) (by assumption) ?_
       rotate_left
       · (intro w_ hSw; (try dsimp only at hSw); go_simp; (try with_reducible rfl))
       (try simp only [Act.put, List.setIfInBounds_toArray, List.set_cons_zero, List.set_cons_succ]))
    | (refine wpAnyH_take (i := 10) (v := undef) held_at10 (by kernel_rfl) (by kernel_rfl) (by kernel_rfl) (fun _ _ _ h => h) (Or.inr ⟨by rfl, rfl⟩) (by assumption) ?_
       (try simp only [Act.put, List.setIfInBounds_toArray, List.set_cons_zero, List.set_cons_succ]))
    first
    | (refine wpAnyH_take (i := 11) (v := ?_) held_at11 (by kernel_rfl) (by kernel_rfl) (by kernel_rfl) (fun _ _ _ h => h) (Or.inl ⟨by rfl, ?_⟩) (by assumption) ?_
       rotate_left
       · (intro w_ hSw; (try dsimp only at hSw); go_simp; (try with_reducible rfl))
       (try simp only [Act.put, List.setIfInBounds_toArray, List.set_cons_zero, List.set_cons_succ]))
    | (refine wpAnyH_take (i := 11) (v := undef) held_at11 (by kernel_rfl) (by kernel_rfl) (by kernel_rfl) (fun _ _ _ h => h) (Or.inr ⟨by rfl, rfl⟩) (by assumption) ?_
       (try simp only [Act.put, List.setIfInBounds_toArray, List.set_cons_zero, List.set_cons_succ]))
    first
    | (refine wpAnyH_take (i := 12) (v := ?_) held_at12 (by kernel_rfl) (by kernel_rfl) (by kernel_rfl) (fun _ _ _ h => h) (Or.inl ⟨by rfl, ?_⟩) (by assumption) ?_
       rotate_left
       · (intro w_ hSw; (try dsimp only at hSw); go_simp; (try with_reducible rfl))
       (try simp only [Act.put, List.setIfInBounds_toArray, List.set_cons_zero, List.set_cons_succ]))
    | (refine wpAnyH_take (i := 12) (v := undef) held_at12 (by kernel_rfl) (by kernel_rfl) (by kernel_rfl) (fun _ _ _ h => h) (Or.inr ⟨by rfl, rfl⟩) (by assumption) ?_
       (try simp only [Act.put, List.setIfInBounds_toArray, List.set_cons_zero, List.set_cons_succ]))
    first
    | (refine wpAnyH_take (i := 13) (v := ?_) held_at13 (by kernel_rfl) (by kernel_rfl) (by kernel_rfl) (fun _ _ _ h => h) (Or.inl ⟨by rfl, ?_⟩) (by assumption) ?_
       rotate_left
       · (intro w_ hSw; (try dsimp only at hSw); go_simp; (try with_reducible rfl))
       (try simp only [Act.put, List.setIfInBounds_toArray, List.set_cons_zero, List.set_cons_succ]))
    | (refine wpAnyH_take (i := 13) (v := undef) held_at13 (by kernel_rfl) (by kernel_rfl) (by kernel_rfl) (fun _ _ _ h => h) (Or.inr ⟨by rfl, rfl⟩) (by assumption) ?_
       (try simp only [Act.put, List.setIfInBounds_toArray, List.set_cons_zero, List.set_cons_succ]))
    first
    | (refine wpAnyH_take (i := 14) (v := ?_) held_at14 (by kernel_rfl) (by kernel_rfl) (by kernel_rfl) (fun _ _ _ h => h) (Or.inl ⟨by rfl, ?_⟩) (by assumption) ?_
       rotate_left
       · (intro w_ hSw; (try dsimp only at hSw); go_simp; (try with_reducible rfl))
       (try simp only [Act.put, List.setIfInBounds_toArray, List.set_cons_zero, List.set_cons_succ]))
    | (refine wpAnyH_take (i := 14) (v := undef) held_at14 (by kernel_rfl) (by kernel_rfl) (by kernel_rfl) (fun _ _ _ h => h) (Or.inr ⟨by rfl, rfl⟩) (by assumption) ?_
       (try simp only [Act.put, List.setIfInBounds_toArray, List.set_cons_zero, List.set_cons_succ]))
    first
    | (refine wpAnyH_take (i := 15) (v := ?_) held_at15 (by kernel_rfl) (by kernel_rfl) (by kernel_rfl) (fun _ _ _ h => h) (Or.inl ⟨by rfl, ?_⟩) (by assumption) ?_
       rotate_left
       · (intro w_ hSw; (try dsimp only at hSw); go_simp; (try with_reducible rfl))
       (try simp only [Act.put, List.setIfInBounds_toArray, List.set_cons_zero, List.set_cons_succ]))
    | (refine wpAnyH_take (i := 15) (v := undef) held_at15 (by kernel_rfl) (by kernel_rfl) (by kernel_rfl) (fun _ _ _ h => h) (Or.inr ⟨by rfl, rfl⟩) (by assumption) ?_
       (try simp only [Act.put, List.setIfInBounds_toArray, List.set_cons_zero, List.set_cons_succ]))
    first
    | (refine wpAnyH_take (i := 16) (v := ?_) held_at16 (by kernel_rfl) (by kernel_rfl) (by kernel_rfl) (fun _ _ _ h => h) (Or.inl ⟨by rfl, ?_⟩) (by assumption) ?_
       rotate_left
       · (intro w_ hSw; (try dsimp only at hSw); go_simp; (try with_reducible rfl))
       (try simp only [Act.put, List.setIfInBounds_toArray, List.set_cons_zero, List.set_cons_succ]))
    | (refine wpAnyH_take (i := 16) (v := undef) held_at16 (by kernel_rfl) (by kernel_rfl) (by kernel_rfl) (fun _ _ _ h => h) (Or.inr ⟨by rfl, rfl⟩) (by assumption) ?_
       (try simp only [Act.put, List.setIfInBounds_toArray, List.set_cons_zero, List.set_cons_succ]))
    first
    | (refine wpAnyH_take (i := 17) (v := ?_) held_at17 (by kernel_rfl) (by kernel_rfl) (by kernel_rfl) (fun _ _ _ h => h) (Or.inl ⟨by rfl, ?_⟩) (by assumption) ?_
       rotate_left
       · (intro w_ hSw; (try dsimp only at hSw); go_simp; (try with_reducible rfl))
       (try simp only [Act.put, List.setIfInBounds_toArray, List.set_cons_zero, List.set_cons_succ]))
    | (refine wpAnyH_take (i := 17) (v := undef) held_at17 (by kernel_rfl) (by kernel_rfl) (by kernel_rfl) (fun _ _ _ h => h) (Or.inr ⟨by rfl, rfl⟩) (by assumption) ?_
       (try simp only [Act.put, List.setIfInBounds_toArray, List.set_cons_zero, List.set_cons_succ]))
    first
    | (refine wpAnyH_take (i := 18) (v := ?_) held_at18 (by kernel_rfl) (by kernel_rfl) (by kernel_rfl) (fun _ _ _ h => h) (Or.inl ⟨by rfl, ?_⟩) (by assumption) ?_
       rotate_left
       · (intro w_ hSw; (try dsimp only at hSw); go_simp; (try with_reducible rfl))
       (try simp only [Act.put, List.setIfInBounds_toArray, List.set_cons_zero, List.set_cons_succ]))
    | (refine wpAnyH_take (i := 18) (v := undef) held_at18 (by kernel_rfl) (by kernel_rfl) (by kernel_rfl) (fun _ _ _ h => h) (Or.inr ⟨by rfl, rfl⟩) (by assumption) ?_
       (try simp only [Act.put, List.setIfInBounds_toArray, List.set_cons_zero, List.set_cons_succ]))
    first
    | (refine wpAnyH_take (i := 19) (v := ?_) held_at19 (by kernel_rfl) (by kernel_rfl) (by kernel_rfl) (fun _ _ _ h => h) (Or.inl ⟨by rfl, ?_⟩) (by assumption) ?_
       rotate_left
       · (intro w_ hSw; (try dsimp only at hSw); go_simp; (try with_reducible rfl))
       (try simp only [Act.put, List.setIfInBounds_toArray, List.set_cons_zero, List.set_cons_succ]))
    | (refine wpAnyH_take (i := 19) (v := undef) held_at19 (by kernel_rfl) (by kernel_rfl) (by kernel_rfl) (fun _ _ _ h => h) (Or.inr ⟨by rfl, rfl⟩) (by assumption) ?_
       (try simp only [Act.put, List.setIfInBounds_toArray, List.set_cons_zero, List.set_cons_succ]))
    first
    | (refine wpAnyH_take (i := 20) (v := ?_) held_at20 (by kernel_rfl) (by kernel_rfl) (by kernel_rfl) (fun _ _ _ h => h) (Or.inl ⟨by rfl, ?_⟩) (by assumption) ?_
       rotate_left
       · (intro w_ hSw; (try dsimp only at hSw); go_simp; (try with_reducible rfl))
       (try simp only [Act.put, List.setIfInBounds_toArray, List.set_cons_zero, List.set_cons_succ]))
    | (refine wpAnyH_take (i := 20) (v := undef) held_at20 (by kernel_rfl) (by kernel_rfl) (by kernel_rfl) (fun _ _ _ h => h) (Or.inr ⟨by rfl, rfl⟩) (by assumption) ?_
       (try simp only [Act.put, List.setIfInBounds_toArray, List.set_cons_zero, List.set_cons_succ]))
    first
    | (refine wpAnyH_take (i := 21) (v := ?_) held_at21 (by kernel_rfl) (by kernel_rfl) (by kernel_rfl) (fun _ _ _ h => h) (Or.inl ⟨by rfl, ?_⟩) (by assumption) ?_
       rotate_left
       · (intro w_ hSw; (try dsimp only at hSw); go_simp; (try with_reducible rfl))
       (try simp only [Act.put, List.setIfInBounds_toArray, List.set_cons_zero, List.set_cons_succ]))
    | (refine wpAnyH_take (i := 21) (v := undef) held_at21 (by kernel_rfl) (by kernel_rfl) (by kernel_rfl) (fun _ _ _ h => h) (Or.inr ⟨by rfl, rfl⟩) (by assumption) ?_
       (try simp only [Act.put, List.setIfInBounds_toArray, List.set_cons_zero, List.set_cons_succ]))
    first
    | (refine wpAnyH_take (i := 22) (v := ?_) held_at22 (by kernel_rfl) (by kernel_rfl) (by kernel_rfl) (fun _ _ _ h => h) (Or.inl ⟨by rfl, ?_⟩) (by assumption) ?_
       rotate_left
       · (intro w_ hSw; (try dsimp only at hSw); go_simp; (try with_reducible rfl))
       (try simp only [Act.put, List.setIfInBounds_toArray, List.set_cons_zero, List.set_cons_succ]))
    | (refine wpAnyH_take (i := 22) (v := undef) held_at22 (by kernel_rfl) (by kernel_rfl) (by kernel_rfl) (fun _ _ _ h => h) (Or.inr ⟨by rfl, rfl⟩) (by assumption) ?_
       (try simp only [Act.put, List.setIfInBounds_toArray, List.set_cons_zero, List.set_cons_succ]))
    first
    | (refine wpAnyH_take (i := 23) (v := ?_) held_at23 (by kernel_rfl) (by kernel_rfl) (by kernel_rfl) (fun _ _ _ h => h) (Or.inl ⟨by rfl, ?_⟩) (by assumption) ?_
       rotate_left
       · (intro w_ hSw; (try dsimp only at hSw); go_simp; (try with_reducible rfl))
       (try simp only [Act.put, List.setIfInBounds_toArray, List.set_cons_zero, List.set_cons_succ]))
    | (refine wpAnyH_take (i := 23) (v := undef) held_at23 (by kernel_rfl) (by kernel_rfl) (by kernel_rfl) (fun _ _ _ h => h) (Or.inr ⟨by rfl, rfl⟩) (by assumption) ?_
       (try simp only [Act.put, List.setIfInBounds_toArray, List.set_cons_zero, List.set_cons_succ]))
    first
    | (refine wpAnyH_take (i := 24) (v := ?_) held_at24 (by kernel_rfl) (by kernel_rfl) (by kernel_rfl) (fun _ _ _ h => h) (Or.inl ⟨by rfl, ?_⟩) (by assumption) ?_
       rotate_left
       · (intro w_ hSw; (try dsimp only at hSw); go_simp; (try with_reducible rfl))
       (try simp only [Act.put, List.setIfInBounds_toArray, List.set_cons_zero, List.set_cons_succ]))
    | (refine wpAnyH_take (i := 24) (v := undef) held_at24 (by kernel_rfl) (by kernel_rfl) (by kernel_rfl) (fun _ _ _ h => h) (Or.inr ⟨by rfl, rfl⟩) (by assumption) ?_
       (try simp only [Act.put, List.setIfInBounds_toArray, List.set_cons_zero, List.set_cons_succ]))
    first
    | (refine wpAnyH_take (i := 25) (v := ?_) held_at25 (by kernel_rfl) (by kernel_rfl) (by kernel_rfl) (fun _ _ _ h => h) (Or.inl ⟨by rfl, ?_⟩) (by assumption) ?_
       rotate_left
       · (intro w_ hSw; (try dsimp only at hSw); go_simp; (try with_reducible rfl))
       (try simp only [Act.put, List.setIfInBounds_toArray, List.set_cons_zero, List.set_cons_succ]))
    | (refine wpAnyH_take (i := 25) (v := undef) held_at25 (by kernel_rfl) (by kernel_rfl) (by kernel_rfl) (fun _ _ _ h => h) (Or.inr ⟨by rfl, rfl⟩) (by assumption) ?_
       (try simp only [Act.put, List.setIfInBounds_toArray, List.set_cons_zero, List.set_cons_succ]))
    first
    | (refine wpAnyH_take (i := 26) (v := ?_) held_at26 (by kernel_rfl) (by kernel_rfl) (by kernel_rfl) (fun _ _ _ h => h) (Or.inl ⟨by rfl, ?_⟩) (by assumption) ?_
       rotate_left
       · (intro w_ hSw; (try dsimp only at hSw); go_simp; (try with_reducible rfl))
       (try simp only [Act.put, List.setIfInBounds_toArray, List.set_cons_zero, List.set_cons_succ]))
    | (refine wpAnyH_take (i := 26) (v := undef) held_at26 (by kernel_rfl) (by kernel_rfl) (by kernel_rfl) (fun _ _ _ h => h) (Or.inr ⟨by rfl, rfl⟩) (by assumption) ?_
       (try simp only [Act.put, List.setIfInBounds_toArray, List.set_cons_zero, List.set_cons_succ]))
    first
    | (refine wpAnyH_take (i := 27) (v := ?_) held_at27 (by kernel_rfl) (by kernel_rfl) (by kernel_rfl) (fun _ _ _ h => h) (Or.inl ⟨by rfl, ?_⟩) (by assumption) ?_
       rotate_left
       · (intro w_ hSw; (try dsimp only at hSw); go_simp; (try with_reducible rfl))
       (try simp only [Act.put, List.setIfInBounds_toArray, List.set_cons_zero, List.set_cons_succ]))
    | (refine wpAnyH_take (i := 27) (v := undef) held_at27 (by kernel_rfl) (by kernel_rfl) (by kernel_rfl) (fun _ _ _ h => h) (Or.inr ⟨by rfl, rfl⟩) (by assumption) ?_
       (try simp only [Act.put, List.setIfInBounds_toArray, List.set_cons_zero, List.set_cons_succ]))
    refine wpAnyH_ready (rs := [28]) (by kernel_rfl) (by simp) ?_
    refine AllReadyH.cons held_at28 (fun K hK => ?_) AllReadyH.nil
    (try simp only [List.setIfInBounds_toArray, List.set_cons_zero, List.set_cons_succ])
    go_simp
    go_at_call 13
    refine (Hrh.out _ (by first | exact XX.out.bel | exact below_drewN XX.out.bel _)).mono ?_
    rintro e wn ⟨rfl, hb⟩
    (first | replace XX := Lib.hid (XX.out.move hb) | replace XX := Lib.hid (XX.out.move ((below_drewN (Below.refl _ _) _).trans hb))); clear hb t0 q0 q4 q5 q6 q7 q8 q9 q10 q11 q12 q13; have t0 := XX.out.t.cell 0; simp only [List.getElem?_cons_zero, List.getElem?_cons_succ] at t0; have q0 := (XX.out.bel.cell (p := ⟨b, o + k * 2, none⟩) hbl).trans H0.out; have q4 := (XX.out.bel.cell (p := ⟨b2, o2 + j * 14 + 4, none⟩) hbl2).trans H4.out; have q5 := (XX.out.bel.cell (p := ⟨b2, o2 + j * 14 + 5, none⟩) hbl2).trans H5.out; have q6 := (XX.out.bel.cell (p := ⟨b2, o2 + j * 14 + 6, none⟩) hbl2).trans H6.out; have q7 := (XX.out.bel.cell (p := ⟨b2, o2 + j * 14 + 7, none⟩) hbl2).trans H7.out; have q8 := (XX.out.bel.cell (p := ⟨b2, o2 + j * 14 + 8, none⟩) hbl2).trans H8.out; have q9 := (XX.out.bel.cell (p := ⟨b2, o2 + j * 14 + 9, none⟩) hbl2).trans H9.out; have q10 := (XX.out.bel.cell (p := ⟨b2, o2 + j * 14 + 10, none⟩) hbl2).trans H10.out; have q11 := (XX.out.bel.cell (p := ⟨b2, o2 + j * 14 + 11, none⟩) hbl2).trans H11.out; have q12 := (XX.out.bel.cell (p := ⟨b2, o2 + j * 14 + 12, none⟩) hbl2).trans H12.out; have q13 := (XX.out.bel.cell (p := ⟨b2, o2 + j * 14 + 13, none⟩) hbl2).trans H13.out
    refine hK.out _ _ (⟨t0, q0, q4, q5, q6, q7, q8, q9, q10, q11, q12, q13⟩) (fun hHeld => ?_)
    clear hK K
    (try simp only [Act.put, List.setIfInBounds_toArray, List.set_cons_zero, List.set_cons_succ])
    first
    | (refine wpAnyH_take (i := 29) (v := ?_) held_at29 (by kernel_rfl) (by kernel_rfl) (by kernel_rfl) (fun _ _ _ h => h) (Or.inl ⟨by rfl, ?_⟩) (by assumption) ?_
       rotate_left
       · (intro w_ hSw; (try dsimp only at hSw); go_simp; (try with_reducible rfl))
       (try simp only [Act.put, List.setIfInBounds_toArray, List.set_cons_zero, List.set_cons_succ]))
    | (refine wpAnyH_take (i := 29) (v := undef) held_at29 (by kernel_rfl) (by kernel_rfl) (by kernel_rfl) (fun _ _ _ h => h) (Or.inr ⟨by rfl, rfl⟩) (by assumption) ?_
       (try simp only [Act.put, List.setIfInBounds_toArray, List.set_cons_zero, List.set_cons_succ]))
    first
    | (refine wpAnyH_take (i := 30) (v := ?_) held_at30 (by kernel_rfl) (by kernel_rfl) (by kernel_rfl) (fun _ _ _ h => h) (Or.inl ⟨by rfl, ?_⟩) (by assumption) ?_
       rotate_left
       · (intro w_ hSw; (try dsimp only at hSw); go_simp; (try with_reducible rfl))
       (try simp only [Act.put, List.setIfInBounds_toArray, List.set_cons_zero, List.set_cons_succ]))
    | (refine wpAnyH_take (i := 30) (v := undef) held_at30 (by kernel_rfl) (by kernel_rfl) (by kernel_rfl) (fun _ _ _ h => h) (Or.inr ⟨by rfl, rfl⟩) (by assumption) ?_
       (try simp only [Act.put, List.setIfInBounds_toArray, List.set_cons_zero, List.set_cons_succ]))
    first
    | (refine wpAnyH_take (i := 31) (v := ?_) held_at31 (by kernel_rfl) (by kernel_rfl) (by kernel_rfl) (fun _ _ _ h => h) (Or.inl ⟨by rfl, ?_⟩) (by assumption) ?_
       rotate_left
       · (intro w_ hSw; (try dsimp only at hSw); go_simp; (try with_reducible rfl))
       (try simp only [Act.put, List.setIfInBounds_toArray, List.set_cons_zero, List.set_cons_succ]))
    | (refine wpAnyH_take (i := 31) (v := undef) held_at31 (by kernel_rfl) (by kernel_rfl) (by kernel_rfl) (fun _ _ _ h => h) (Or.inr ⟨by rfl, rfl⟩) (by assumption) ?_
       (try simp only [Act.put, List.setIfInBounds_toArray, List.set_cons_zero, List.set_cons_succ]))
    first
    | (refine wpAnyH_take (i := 32) (v := ?_) held_at32 (by kernel_rfl) (by kernel_rfl) (by kernel_rfl) (fun _ _ _ h => h) (Or.inl ⟨by rfl, ?_⟩) (by assumption) ?_
       rotate_left
       · (intro w_ hSw; (try dsimp only at hSw); go_simp; (try with_reducible rfl))
       (try simp only [Act.put, List.setIfInBounds_toArray, List.set_cons_zero, List.set_cons_succ]))
    | (refine wpAnyH_take (i := 32) (v := undef) held_at32 (by kernel_rfl) (by kernel_rfl) (by kernel_rfl) (fun _ _ _ h => h) (Or.inr ⟨by rfl, rfl⟩) (by assumption) ?_
       (try simp only [Act.put, List.setIfInBounds_toArray, List.set_cons_zero, List.set_cons_succ]))
    first
    | (refine wpAnyH_take (i := 33) (v := ?_) held_at33 (by kernel_rfl) (by kernel_rfl) (by kernel_rfl) (fun _ _ _ h => h) (Or.inl ⟨by rfl, ?_⟩) (by assumption) ?_
       rotate_left
       · (intro w_ hSw; (try dsimp only at hSw); go_simp; (try with_reducible rfl))
       (try simp only [Act.put, List.setIfInBounds_toArray, List.set_cons_zero, List.set_cons_succ]))
    | (refine wpAnyH_take (i := 33) (v := undef) held_at33 (by kernel_rfl) (by kernel_rfl) (by kernel_rfl) (fun _ _ _ h => h) (Or.inr ⟨by rfl, rfl⟩) (by assumption) ?_
       (try simp only [Act.put, List.setIfInBounds_toArray, List.set_cons_zero, List.set_cons_succ]))
    refine wpAnyH_done (by kernel_rfl) ?_ _
    (go_wp2; go_ret; exact ⟨rfl, (by first | exact XX.out.bel | exact below_drewN XX.out.bel _)⟩)
  · have hve : validE ps v l = ckSet ps l := by rw [HE.out]
    have hvv : validV ps v l = false := by rw [HVV.out, hve, decide_eq_false x0]; rfl
    have hhe : holdsE ps l k0 = ckSet ps l := by rw [HH.out, if_pos x0]
    have hhv : holdsV ps l k0 = false := by rw [HHV.out, hhe, decide_eq_false x0]; rfl
    rw [hve, hvv] at Hva
    rw [hhe, hhv] at Hho
    have x1 : (ckSet ps l == 0) = false := by simpa using x0
    have x2 : (ckSet ps l != 0) = true := by simpa using x0
    clear hve hvv hhe hhv HE HVV HH HHV x0 y0
    generalize ckSet ps l = x at Hva Hho Hrs x1 x2
    go_enter Tryz.func4, Tryz.ntmps4
    go_wp2_with (first | (go_at_call 5; refine (Hva.out _ X0.out.bel).mono ?_; rintro e w2 ⟨rfl, hb2⟩; refine Hid.out ?_))
    refine Lib.hid ?_
    have X2 := Lib.hid (X0.out.move hb2)
    clear hb2 X0 Hva
    have t0 := X2.out.t.cell 0
    have v0 := X2.out.v.cell 0; have v1 := X2.out.v.cell 1; have v2 := X2.out.v.cell 2; have v3 := X2.out.v.cell 3
    simp only [List.getElem?_cons_zero, List.getElem?_cons_succ] at t0 v0 v1 v2 v3
    have vlt := X2.out.v.lt
    have tlt := X2.out.t.lt
    go_wp2_with (first | (go_at_call 7; refine (Hho.out _ X2.out.bel).mono ?_; rintro e w3 ⟨rfl, hb3⟩; refine Hid.out ?_))
    refine Lib.hid ?_
    have X3 := Lib.hid (X2.out.move hb3)
    clear t0 v0 v1 v2 v3 vlt tlt
    clear hb3 X2 Hho
    have t0 := X3.out.t.cell 0
    have v0 := X3.out.v.cell 0; have v1 := X3.out.v.cell 1; have v2 := X3.out.v.cell 2; have v3 := X3.out.v.cell 3
    simp only [List.getElem?_cons_zero, List.getElem?_cons_succ] at t0 v0 v1 v2 v3
    have vlt := X3.out.v.lt
    have tlt := X3.out.t.lt
    go_wp2_with (first | (go_at_call 8; refine (Hct.out _ X3.out.bel).mono ?_; rintro e w4 ⟨rfl, hb4⟩; refine Hid.out ?_))
    refine Lib.hid ?_
    have X4 := Lib.hid (X3.out.move hb4)
    clear t0 v0 v1 v2 v3 vlt tlt
    clear hb4 X3
    have t0 := X4.out.t.cell 0
    have v0 := X4.out.v.cell 0; have v1 := X4.out.v.cell 1; have v2 := X4.out.v.cell 2; have v3 := X4.out.v.cell 3
    simp only [List.getElem?_cons_zero, List.getElem?_cons_succ] at t0 v0 v1 v2 v3
    have vlt := X4.out.v.lt
    have tlt := X4.out.t.lt
    go_wp2_with (first | (go_at_call 9; refine (Hrw.out _ X4.out.bel).mono ?_; rintro e w5 ⟨rfl, hb5⟩; refine Hid.out ?_))
    refine Lib.hid ?_
    have X5 := Lib.hid (X4.out.move hb5)
    clear t0 v0 v1 v2 v3 vlt tlt
    clear hb5 X4 Hrw
    have t0 := X5.out.t.cell 0
    have v0 := X5.out.v.cell 0; have v1 := X5.out.v.cell 1; have v2 := X5.out.v.cell 2; have v3 := X5.out.v.cell 3
    simp only [List.getElem?_cons_zero, List.getElem?_cons_succ] at t0 v0 v1 v2 v3
    have vlt := X5.out.v.lt
    have tlt := X5.out.t.lt
    go_wp2_with (first | (go_at_call 6; refine (allowed_any _ (HLV.out.below X5.out.bel) (HMV.out.below X5.out.bel)).mono ?_; rintro e w6 ⟨rfl, hb6⟩; refine Hid.out ?_))
    refine Lib.hid ?_
    have X6 := Lib.hid (X5.out.move hb6)
    clear t0 v0 v1 v2 v3 vlt tlt
    clear hb6 X5
    have t0 := X6.out.t.cell 0
    have v0 := X6.out.v.cell 0; have v1 := X6.out.v.cell 1; have v2 := X6.out.v.cell 2; have v3 := X6.out.v.cell 3
    simp only [List.getElem?_cons_zero, List.getElem?_cons_succ] at t0 v0 v1 v2 v3
    have vlt := X6.out.v.lt
    have tlt := X6.out.t.lt
    go_wp2_with (first | (go_at_call 10; refine (Hcw.out _ X6.out.bel).mono ?_; rintro e w7 ⟨rfl, hb7⟩; refine Hid.out ?_))
    refine Lib.hid ?_
    have X7 := Lib.hid (X6.out.move hb7)
    clear t0 v0 v1 v2 v3 vlt tlt
    clear hb7 X6 Hcw
    have t0 := X7.out.t.cell 0
    have v0 := X7.out.v.cell 0; have v1 := X7.out.v.cell 1; have v2 := X7.out.v.cell 2; have v3 := X7.out.v.cell 3
    simp only [List.getElem?_cons_zero, List.getElem?_cons_succ] at t0 v0 v1 v2 v3
    have vlt := X7.out.v.lt
    have tlt := X7.out.t.lt
    go_wp2_with (first | (go_at_call 8; refine (Hct.out _ X7.out.bel).mono ?_; rintro e w8 ⟨rfl, hb8⟩; refine Hid.out ?_))
    refine Lib.hid ?_
    have X8 := Lib.hid (X7.out.move hb8)
    clear t0 v0 v1 v2 v3 vlt tlt
    clear hb8 X7 Hct
    have t0 := X8.out.t.cell 0
    have v0 := X8.out.v.cell 0; have v1 := X8.out.v.cell 1; have v2 := X8.out.v.cell 2; have v3 := X8.out.v.cell 3
    simp only [List.getElem?_cons_zero, List.getElem?_cons_succ] at t0 v0 v1 v2 v3
    have vlt := X8.out.v.lt
    have tlt := X8.out.t.lt
    go_wp2_with (first | (go_at_call 11; refine (Hrs.out _ X8.out.bel).mono ?_; rintro e w9 ⟨rfl, hb9⟩; refine Hid.out ?_))
    refine Lib.hid ?_
    have X9 := Lib.hid (X8.out.move hb9)
    clear t0 v0 v1 v2 v3 vlt tlt
    clear hb9 X8 Hrs
    have t0 := X9.out.t.cell 0
    have v0 := X9.out.v.cell 0; have v1 := X9.out.v.cell 1; have v2 := X9.out.v.cell 2; have v3 := X9.out.v.cell 3
    simp only [List.getElem?_cons_zero, List.getElem?_cons_succ] at t0 v0 v1 v2 v3
    have vlt := X9.out.v.lt
    have tlt := X9.out.t.lt
    go_wp2
    go_quiet (fail)
    go_wp2
    go_ret
    exact ⟨rfl, below_drewN X9.out.bel _⟩
end Go.Proofs.YtokibfankmjphaaGreatDoor
