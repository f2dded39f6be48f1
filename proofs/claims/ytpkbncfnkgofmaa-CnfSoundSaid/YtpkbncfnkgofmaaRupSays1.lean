/- The walk of RupSays. -/
import Derived.Test.YtpkbncfnkgofmaaW12
import Derived.Test.YtpkbncfnkgofmaaW13
namespace Go.Proofs.Ytpkbncfnkgofmaa
open Go.RowKit
theorem boxed_below {w w1 : World} {o : Obj} (h : Below (w.alloc o).heap.size (w.alloc o) w1) : Below w.heap.size w w1 := ((Below.refl _ _).alloc (Nat.le_refl _) o).trans (h.mono (by simp))
theorem boxed_whole {w w1 : World} {vs : List Value} {t : TypeId} (h : Below (w.alloc (.cells vs.toArray t)).heap.size (w.alloc (.cells vs.toArray t)) w1) : Whole w1 w.heap.size t vs := (Whole.new w _ t vs rfl).below h (by simp)
theorem refOk_no {vars : Int} {cs pf : List (List Int)} (h : badErr vars cs pf ≠ 0) : refOk vars cs pf = false := by unfold refOk; simp [h]
theorem badK_no {vars : Int} {cs pf : List (List Int)} (h : badErr vars cs pf ≠ 0) : badK vars cs pf = 0 := by unfold badK; rw [if_pos h]

set_option maxHeartbeats 400000 in
theorem rupSays_any (A A' : Option Addr) (n cap n' cap' : Nat) (vars vars2 : Int) (cs pf : List (List Int)) (w : World) (S : Nat → Prop) (hS : ∀ k, S k → k < w.heap.size)
    (hr : RClauses w S A n cs) (hr' : RClauses w S A' n' pf) (hn : n ≤ cap ∧ cap ≤ maxLen) (hn' : n' ≤ cap' ∧ cap' ≤ maxLen) (hv : -9223372036854775808 ≤ vars) (hv' : vars ≤ 9223372036854775807)
    (hu : -9223372036854775808 ≤ vars2) (hu' : vars2 ≤ 9223372036854775807) :
    Calls Try.prog 4 #[.agg #[.int .i64 vars, .slice A n cap], .slice A' n' cap', .int .i64 vars2] w fun e w' => e = .returned (.bool true) ∧ Below w.heap.size w w' := by
  have Hr := Lib.hid hr; have Hr' := Lib.hid hr'; have Hn := Lib.hid hn; have Hn' := Lib.hid hn'
  have hnm := Nat.le_trans hn'.1 hn'.2
  unfold maxLen at hnm
  clear hr hr' hn hn'
  go_enter Try.func4, Try.ntmps4
  go_wp2_with fail
  have hb0 : Below w.heap.size w (w.alloc (.cells #[.int .i64 vars, .slice A n cap] 29)) := (Below.refl _ _).alloc (Nat.le_refl _) _
  refine (bad_any A A' n cap n' cap' vars cs pf _ S (fun k hk => by have := hS k hk; simp; omega) (Hr.out.below hb0 hS) (Hr'.out.below hb0 hS) Hn.out Hn'.out hv hv').mono ?_
  rintro e w1 ⟨rfl, hb1⟩
  have Hb1 := Lib.hid (boxed_below hb1)
  have hW1 : Whole w1 w.heap.size 29 [.int .i64 vars, .slice A n cap] := boxed_whole hb1
  have HW1 := Lib.hid hW1
  have hf0 := hW1.cell 0
  have hf1 := hW1.cell 1
  simp only [List.getElem?_cons_zero, List.getElem?_cons_succ] at hf0 hf1
  clear hb0 hb1 hW1
  generalize hK : badK vars cs pf = K
  generalize hE : badErr vars cs pf = E
  have HK := Lib.hid hK; have HE := Lib.hid hE; clear hK hE
  go_wp2_with fail
  refine (refutes_any A A' n cap n' cap' vars cs pf _ S (fun k hk => by have := hS k hk; have := Hb1.out.size; omega) (Hr.out.below Hb1.out hS) (Hr'.out.below Hb1.out hS) Hn.out Hn'.out hv hv').mono ?_
  rw [HE.out]
  generalize hR : refOk vars cs pf = R
  have HR := Lib.hid hR; clear hR
  rintro e w2 ⟨rfl, hb2⟩
  have Hb2 := Lib.hid (Hb1.out.trans (hb2.mono Hb1.out.size))
  have hW2 := HW1.out.below hb2 HW1.out.lt
  have HW2 := Lib.hid hW2
  clear hf0 hf1 hb2
  have hf0 := hW2.cell 0
  have hf1 := hW2.cell 1
  simp only [List.getElem?_cons_zero, List.getElem?_cons_succ] at hf0 hf1
  clear hW2
  go_wp2_with fail
  refine (rcheckFormula_any A n cap cs vars _ S (Hr.out.below Hb2.out hS) (fun k hk => by have := hS k hk; have := Hb2.out.size; omega) (Nat.le_trans Hn.out.1 Hn.out.2) hv hv').mono ?_
  generalize hF : ckFormula vars cs = F
  have HF := Lib.hid hF; clear hF
  rintro e w3 ⟨rfl, hb3⟩
  have Hb3 := Lib.hid (Hb2.out.trans (hb3.mono Hb2.out.size))
  have hW3 := HW2.out.below hb3 HW2.out.lt
  have HW3 := Lib.hid hW3
  clear hf0 hf1 hb3
  have hf0 := hW3.cell 0
  have hf1 := hW3.cell 1
  simp only [List.getElem?_cons_zero, List.getElem?_cons_succ] at hf0 hf1
  clear hW3
  generalize hP2 : ckProof pf vars2 = P2
  have HP2 := Lib.hid hP2; clear hP2
  have hEF : F ≠ 0 → E = F := fun h => by rw [← HE.out]; unfold badErr; rw [if_pos (by rw [HF.out]; exact h), HF.out]
  have hEP : F = 0 → ckProof pf vars = E := fun h => by rw [← HE.out]; unfold badErr; rw [if_neg (by rw [HF.out]; simpa using h)]
  by_cases hE0 : E = 0
  · have hF0 : F = 0 := Decidable.byContradiction fun h => absurd ((hEF h).symm.trans hE0) h
    have HPE := Lib.hid (hEP hF0)
    clear hEF hEP
    subst hF0 hE0
    obtain ⟨N, rfl, hN, hcl, hcs⟩ := ckFormula_ok HF.out
    obtain ⟨hpl, hps⟩ := ckProof_ok HPE.out
    have HKB : Hid (K = badOf N cs pf) := by show _ = _; rw [← HK.out]; unfold badK; rw [if_neg (by rw [HE.out]; simp)]; simp
    have Hcs := Lib.hid hcs; have Hps := Lib.hid hps; have Hpl := Lib.hid hpl
    clear hcs hps hpl
    go_wp2_with fail
    refine (rcheckProof_any A' n' cap' pf _ _ S (Hr'.out.below Hb3.out hS) (Nat.le_trans Hn'.out.1 Hn'.out.2) hv hv').mono ?_
    rw [HPE.out]
    rintro e w' ⟨rfl, rfl⟩
    go_wp2_with fail
    refine (refuted_any _).mono ?_
    rintro e w4 ⟨rfl, hb4⟩
    have Hb4 := Lib.hid (Hb3.out.trans (hb4.mono Hb3.out.size))
    have hW4 := HW3.out.below hb4 HW3.out.lt
    have HW4 := Lib.hid hW4
    clear hf0 hf1 hb4
    have hf0 := hW4.cell 0
    have hf1 := hW4.cell 1
    simp only [List.getElem?_cons_zero, List.getElem?_cons_succ] at hf0 hf1
    clear hW4
    go_wp2_with fail
    refine (checkProof_any A' n' cap' pf vars2 _ S (Hr'.out.below Hb4.out hS) (Nat.le_trans Hn'.out.1 Hn'.out.2) hu hu').mono ?_
    rw [HP2.out]
    rintro e w' ⟨rfl, rfl⟩
    go_wp2_with fail
    refine (rcheckProof_any A' n' cap' pf vars2 _ S (Hr'.out.below Hb4.out hS) (Nat.le_trans Hn'.out.1 Hn'.out.2) hu hu').mono ?_
    rw [HP2.out]
    rintro e w' ⟨rfl, rfl⟩
    go_wp2_with fail
    refine (rbad_any A A' n cap n' cap' N cs pf _ S (fun k hk => by have := hS k hk; have := Hb4.out.size; omega) (Hr.out.below Hb4.out hS) (Hr'.out.below Hb4.out hS) Hn.out Hn'.out hN (fun c hc => (Hcs.out c hc).1) Hps.out Hpl.out).mono ?_
    rw [← HKB.out]
    rintro e w5 ⟨rfl, hb5⟩
    have Hb5 := Lib.hid (Hb4.out.trans (hb5.mono Hb4.out.size))
    clear hb5 hf0 hf1
    have HRv : Hid (R = (decide (K < 0) && decide (0 < n') && decide ((pf.getD (n' - 1) []).length = 0))) := by
      show _ = _; rw [← HR.out]; unfold refOk; rw [HE.out, HK.out, Hr'.out.len]; simp
    by_cases h1 : K < 0
    · by_cases h2 : 0 < n'
      · have h2' : (0 : Int) < (n' : Int) := by omega
        obtain ⟨b, o, A2, n2, c2, rfl, hb, hcell, hc, hnc, hcm⟩ := (Hr'.out.below Hb5.out hS).at_ (k := n' - 1) (by omega)
        have hi : ((n' : Int) - 1) = ((n' - 1 : Nat) : Int) := by omega
        have hRv : R = ((n2 : Int) == 0) := by
          rw [HRv.out, hc.len]
          have e1 : decide (K < 0) = true := by simpa using h1
          have e2 : decide (0 < n') = true := by simpa using h2
          rw [e1, e2, Bool.eq_iff_iff]; simp
        clear hc
        have hRR : (R == ((n2 : Int) == 0)) = true := by rw [hRv]; simp
        have hRv' := Lib.hid hRv; clear hRv
        go_wp2_with fail
        go_ret
        exact ⟨ret_bool (by first | exact hRR | rfl), Hb5.out⟩
      · obtain rfl : n' = 0 := by omega
        have hRv : R = false := by rw [HRv.out]; simp
        subst hRv
        go_wp2_with fail
        go_ret
        exact ⟨rfl, Hb5.out⟩
    · have hRv : R = false := by rw [HRv.out]; simp [h1]
      subst hRv
      go_wp2_with fail
      go_ret
      exact ⟨rfl, Hb5.out⟩
  · have h0' : (E != 0) = true := by simpa using hE0
    have hK0 : K = 0 := by rw [← HK.out]; exact badK_no (by rw [HE.out]; exact hE0)
    have hR0 : R = false := by rw [← HR.out]; exact refOk_no (by rw [HE.out]; exact hE0)
    subst hK0 hR0
    by_cases hF0 : F = 0
    · have HPE := Lib.hid (hEP hF0)
      clear hEF hEP hE0
      subst hF0
      go_wp2_with fail
      refine (rcheckProof_any A' n' cap' pf _ _ S (Hr'.out.below Hb3.out hS) (Nat.le_trans Hn'.out.1 Hn'.out.2) hv hv').mono ?_
      rw [HPE.out]
      rintro e w' ⟨rfl, rfl⟩
      go_wp2_with fail
      refine (refuted_any _).mono ?_
      rintro e w4 ⟨rfl, hb4⟩
      have Hb4 := Lib.hid (Hb3.out.trans (hb4.mono Hb3.out.size))
      have hW4 := HW3.out.below hb4 HW3.out.lt
      have HW4 := Lib.hid hW4
      clear hf0 hf1 hb4
      have hf0 := hW4.cell 0
      have hf1 := hW4.cell 1
      simp only [List.getElem?_cons_zero, List.getElem?_cons_succ] at hf0 hf1
      clear hW4
      go_wp2_with fail
      refine (checkProof_any A' n' cap' pf vars2 _ S (Hr'.out.below Hb4.out hS) (Nat.le_trans Hn'.out.1 Hn'.out.2) hu hu').mono ?_
      rw [HP2.out]
      rintro e w' ⟨rfl, rfl⟩
      go_wp2_with fail
      refine (rcheckProof_any A' n' cap' pf vars2 _ S (Hr'.out.below Hb4.out hS) (Nat.le_trans Hn'.out.1 Hn'.out.2) hu hu').mono ?_
      rw [HP2.out]
      rintro e w' ⟨rfl, rfl⟩
      go_wp2_with fail
      go_ret
      exact ⟨rfl, Hb4.out⟩
    · have h1 := hEF hF0
      subst h1
      have h1' : (E == 0) = false := by simpa using hE0
      clear hEF hEP hE0 hF0
      go_wp2_with fail
      refine (refuted_any _).mono ?_
      rintro e w4 ⟨rfl, hb4⟩
      have Hb4 := Lib.hid (Hb3.out.trans (hb4.mono Hb3.out.size))
      have hW4 := HW3.out.below hb4 HW3.out.lt
      have HW4 := Lib.hid hW4
      clear hf0 hf1 hb4
      have hf0 := hW4.cell 0
      have hf1 := hW4.cell 1
      simp only [List.getElem?_cons_zero, List.getElem?_cons_succ] at hf0 hf1
      clear hW4
      go_wp2_with fail
      refine (checkProof_any A' n' cap' pf vars2 _ S (Hr'.out.below Hb4.out hS) (Nat.le_trans Hn'.out.1 Hn'.out.2) hu hu').mono ?_
      rw [HP2.out]
      rintro e w' ⟨rfl, rfl⟩
      go_wp2_with fail
      refine (rcheckProof_any A' n' cap' pf vars2 _ S (Hr'.out.below Hb4.out hS) (Nat.le_trans Hn'.out.1 Hn'.out.2) hu hu').mono ?_
      rw [HP2.out]
      rintro e w' ⟨rfl, rfl⟩
      go_wp2_with fail
      go_ret
      exact ⟨rfl, Hb4.out⟩
end Go.Proofs.Ytpkbncfnkgofmaa
