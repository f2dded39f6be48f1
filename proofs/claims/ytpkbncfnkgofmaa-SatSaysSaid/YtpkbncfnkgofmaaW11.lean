/- Walk: rup.Refutes. -/
import Derived.Test.YtpkbncfnkgofmaaW10
namespace Go.Proofs.Ytpkbncfnkgofmaa
open Go.RowKit
set_option maxHeartbeats 2000000 in
theorem refutes_any (A A' : Option Addr) (n cap n' cap' : Nat) (vars : Int) (cs pf : List (List Int)) (w : World) (S : Nat → Prop) (hS : ∀ k, S k → k < w.heap.size)
    (hr : RClauses w S A n cs) (hr' : RClauses w S A' n' pf) (hn : n ≤ cap ∧ cap ≤ maxLen) (hn' : n' ≤ cap' ∧ cap' ≤ maxLen) (hv : -9223372036854775808 ≤ vars) (hv' : vars ≤ 9223372036854775807) :
    Calls Try.prog 15 #[.agg #[.int .i64 vars, .slice A n cap], .slice A' n' cap'] w fun e w' => e = .returned (.tuple #[.bool (refOk vars cs pf), .int .i64 (badErr vars cs pf)]) ∧ Below w.heap.size w w' := by
  have Hlen := Lib.hid hr'.len
  have hnm := Nat.le_trans hn'.1 hn'.2
  unfold maxLen at hnm
  obtain ⟨w0, hw0⟩ : ∃ x, x = w.alloc (.cells #[.int .i64 vars, .slice A n cap] 29) := ⟨_, rfl⟩
  have hb0 : Below w.heap.size w w0 := by rw [hw0]; exact (Below.refl _ _).alloc (Nat.le_refl _) _
  have hck := bad_any A A' n cap n' cap' vars cs pf w0 S (fun k hk => by have := hS k hk; have := hb0.size; omega) (hr.below hb0 hS) (hr'.below hb0 hS) hn hn' hv hv'
  have hz0 : w0.heap.size = w.heap.size + 1 := by rw [hw0]; simp
  have Hbb : Hid (∀ w1, Below w0.heap.size w0 w1 → Below w.heap.size w w1) := fun w1 h => hb0.trans (h.mono (by omega))
  have Hr' := Lib.hid hr'
  clear hr hr' hb0 hz0
  generalize hk : badK vars cs pf = k at hck
  generalize he : badErr vars cs pf = e at hck
  have Hk := Lib.hid hk; have He := Lib.hid he; clear hk he
  have HR : Hid (refOk vars cs pf = (decide (e = 0) && decide (k < 0) && decide (0 < n') && decide ((pf.getD (n' - 1) []).length = 0))) := by
    show _ = _; unfold refOk; rw [Hk.out, He.out, Hlen.out]
  rw [hw0] at hck
  have Hck := Lib.hid hck; have Hw0 := Lib.hid hw0
  clear hck hw0
  by_cases h0 : e = 0
  · subst h0
    by_cases h1 : k < 0
    · by_cases h2 : 0 < n'
      · have h2' : (0 : Int) < (n' : Int) := by omega
        go_enter Try.func15, Try.ntmps15
        go_wp2_with fail
        refine Hck.out.mono ?_
        rintro e w1 ⟨rfl, hb1⟩
        have Hb1 : Hid (Below w.heap.size w w1) := Hbb.out w1 (by rw [Hw0.out]; exact hb1)
        clear hb1
        obtain ⟨b, o, A2, n2, c2, rfl, hb, hcell, hc, hnc, hcm⟩ := (Hr'.out.below Hb1.out hS).at_ (k := n' - 1) (by omega)
        have Hl2 := Lib.hid hc.len
        clear hc
        have hi : ((n' : Int) - 1) = ((n' - 1 : Nat) : Int) := by omega
        go_wp2_with fail
        go_ret2
        refine ⟨ret2_bi ?_ rfl, Hb1.out⟩
        rw [HR.out, Hl2.out]
        have : decide (0 < n') = true := by simp; omega
        rw [this, Bool.eq_iff_iff]
        simp
        omega
      · obtain rfl : n' = 0 := by omega
        go_enter Try.func15, Try.ntmps15
        go_wp2_with fail
        refine Hck.out.mono ?_
        rintro e w1 ⟨rfl, hb1⟩
        have Hb1 : Hid (Below w.heap.size w w1) := Hbb.out w1 (by rw [Hw0.out]; exact hb1)
        clear hb1
        go_wp2_with fail
        go_ret2
        exact ⟨ret2_bi (by rw [HR.out]; simp) rfl, Hb1.out⟩
    · go_enter Try.func15, Try.ntmps15
      go_wp2_with fail
      refine Hck.out.mono ?_
      rintro e w1 ⟨rfl, hb1⟩
      have Hb1 : Hid (Below w.heap.size w w1) := Hbb.out w1 (by rw [Hw0.out]; exact hb1)
      clear hb1
      go_wp2_with fail
      go_ret2
      exact ⟨ret2_bi (by rw [HR.out, show decide (k < 0) = false from by simp; omega]; simp) rfl, Hb1.out⟩
  · have h0' : (e != 0) = true := by simpa using h0
    have HF : Hid (refOk vars cs pf = false) := by show _ = _; rw [HR.out]; simp [h0]
    clear h0
    go_enter Try.func15, Try.ntmps15
    go_wp2_with fail
    refine Hck.out.mono ?_
    rintro e w1 ⟨rfl, hb1⟩
    have Hb1 : Hid (Below w.heap.size w w1) := Hbb.out w1 (by rw [Hw0.out]; exact hb1)
    clear hb1
    go_wp2_with fail
    go_ret2
    exact ⟨ret2_bi HF.out.symm rfl, Hb1.out⟩
end Go.Proofs.Ytpkbncfnkgofmaa
