/- Walk: cnf.checkLits. -/
import Derived.Test.YtpkbncfnkgofmaaW1
namespace Go.Proofs.Ytpkbncfnkgofmaa
open Go.RowKit
def ckLits (c : List Int) (vars : Int) : Int := if c.any (badLit vars) then 5 else 0
theorem ckLits_bad {c : List Int} {vars x : Int} {n k : Nat} (hn : c.length = n) (hk : k < n) (hx : c.getD k 0 = x) (h : badLit vars x = true) : ckLits c vars = 5 := by
  subst hn hx
  unfold ckLits
  rw [if_pos]
  exact any_of_take _ _ (k+1) (by rw [any_take_succ _ _ _ hk, h]; simp)
theorem ckLits_end {c : List Int} {vars : Int} {n k : Nat} (hn : c.length = n) (hk : ¬ k < n) (h : (c.take k).any (badLit vars) = false) : ckLits c vars = 0 := by
  subst hn
  unfold ckLits
  rw [List.take_of_length_le (by omega)] at h
  rw [if_neg]
  rw [h]; simp
set_option maxHeartbeats 400000 in
theorem checkLits_any (A : Option Addr) (n cap : Nat) (c : List Int) (vars : Int) (w : World) (S : Nat → Prop) (hr : RInts w S A n c) (hn : n ≤ maxLen) (hv : -9223372036854775808 ≤ vars) (hv' : vars ≤ 9223372036854775807) :
    Calls Try.prog 50 #[.slice A n cap, .int .i64 vars] w fun e w' => e = .returned (.int .i64 (ckLits c vars)) ∧ w = w' := by
  unfold maxLen at hn
  have Hlen := Lib.hid hr.len
  go_enter Try.func50, Try.ntmps50
  go_wp2
  go_loop [9] (fun i => ∃ k : Nat, k ≤ n ∧ i = .int .i64 k ∧ (c.take k).any (badLit vars) = false) (fun i => n - (intOf i).toNat)
  case atStart => exact ⟨0, Nat.zero_le _, rfl, rfl⟩
  case round =>
    obtain ⟨k, hk, rfl, hany⟩ := hrel
    have Hany := Lib.hid hany; clear hany
    by_cases hlt : k < n
    · obtain ⟨b, o, rfl, hb, hc⟩ := hr.at_ hlt
      generalize hx : c.getD k 0 = x at hc
      have Hx := Lib.hid hx; clear hx
      rcases Decidable.em (x = 0) with h0 | h0
      · have h1 : (x == 0) = true := by simpa using h0
        have h2 := Lib.hid h0; clear h0
        go_wp2
        all_goals (go_ret; exact ⟨ret_int (ckLits_bad Hlen.out hlt Hx.out (badLit_yes (.inr (.inl h2.out)))).symm, rfl⟩)
      have h1 : (x == 0) = false := by simpa using h0
      go_wp2
      all_goals first
        | (go_ret; refine ⟨ret_int ?_, rfl⟩; exact (ckLits_bad Hlen.out hlt Hx.out (badLit_yes (by omega))).symm)
        | (go_round
           case rel => refine ⟨k + 1, by omega, by go_num, anyBad_step Hlen.out hlt Hx.out Hany.out (badLit_no (by omega))⟩
           case measure => simp [intOf]; omega)
    · go_wp2
      go_ret
      exact ⟨ret_int (ckLits_end Hlen.out hlt Hany.out).symm, rfl⟩
end Go.Proofs.Ytpkbncfnkgofmaa
