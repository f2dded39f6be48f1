/- Walks. -/
import Derived.Test.YtpkbncfnkgofmaaProg
import Derived.Test.YtpkbncfnkgofmaaBase
namespace Go.Proofs.Ytpkbncfnkgofmaa
open Go.RowKit
def badLit (vars n : Int) : Bool := decide (vars < 0) || n == 0 || decide (n < -vars) || decide (n > vars)
def ckClause (c : List Int) (vars : Int) : Int := if 60 < c.length then 2 else if c.any (badLit vars) then 5 else 0
theorem any_take_succ (p : Int → Bool) (c : List Int) (k : Nat) (h : k < c.length) : (c.take (k+1)).any p = ((c.take k).any p || p (c.getD k 0)) := by
  rw [List.take_succ_eq_append_getElem h]; rw [List.any_append]; simp [List.getD, h]
theorem any_of_take (p : Int → Bool) (c : List Int) (k : Nat) (h : (c.take k).any p = true) : c.any p = true := by
  rw [List.any_eq_true] at h ⊢
  obtain ⟨x, hx, hp⟩ := h
  exact ⟨x, List.mem_of_mem_take hx, hp⟩
theorem ckClause_bad {c : List Int} {vars x : Int} {n k : Nat} (hn : c.length = n) (h60 : ¬ 60 < n) (hk : k < n) (hx : c.getD k 0 = x) (h : badLit vars x = true) : ckClause c vars = 5 := by
  subst hn hx
  unfold ckClause
  rw [if_neg h60, if_pos]
  exact any_of_take _ _ (k+1) (by rw [any_take_succ _ _ _ hk, h]; simp)
theorem ckClause_end {c : List Int} {vars : Int} {n k : Nat} (hn : c.length = n) (h60 : ¬ 60 < n) (hk : ¬ k < n) (h : (c.take k).any (badLit vars) = false) : ckClause c vars = 0 := by
  subst hn
  unfold ckClause
  rw [List.take_of_length_le (by omega)] at h
  rw [if_neg h60, if_neg]
  rw [h]; simp
theorem anyBad_step {c : List Int} {p : Int → Bool} {x : Int} {n k : Nat} (hn : c.length = n) (hk : k < n) (hx : c.getD k 0 = x) (h : (c.take k).any p = false) (h1 : p x = false) : (c.take (k+1)).any p = false := by
  subst hn hx
  rw [any_take_succ _ _ _ hk, h, h1]; rfl

theorem badLit_yes {vars x : Int} (h : vars < 0 ∨ x = 0 ∨ x < -vars ∨ vars < x) : badLit vars x = true := by
  simp only [badLit, Bool.or_eq_true, decide_eq_true_eq, beq_iff_eq]; omega
theorem badLit_no {vars x : Int} (h : ¬ (vars < 0 ∨ x = 0 ∨ x < -vars ∨ vars < x)) : badLit vars x = false := by
  rw [Bool.eq_false_iff]; intro h'; simp only [badLit, Bool.or_eq_true, decide_eq_true_eq, beq_iff_eq] at h'; omega

set_option maxHeartbeats 400000 in
theorem checkClause_any (A : Option Addr) (n cap : Nat) (c : List Int) (vars : Int) (w : World) (S : Nat → Prop) (hr : RInts w S A n c) (hn : n ≤ maxLen) (hv : -9223372036854775808 ≤ vars) (hv' : vars ≤ 9223372036854775807) :
    Calls Try.prog 25 #[.slice A n cap, .int .i64 vars] w fun e w' => e = .returned (.int .i64 (ckClause c vars)) ∧ w = w' := by
  unfold maxLen at hn
  have Hlen := Lib.hid hr.len
  by_cases h60 : 60 < n
  · have h60' : (60 : Int) < (n : Int) := by omega
    go_enter Try.func25, Try.ntmps25
    go_wp2
    go_ret
    exact ⟨ret_int (by unfold ckClause; rw [if_pos (by have := Hlen.out; omega)]), rfl⟩
  · have hd60 : decide ((60 : Int) < (n : Int)) = false := by simp; omega
    go_enter Try.func25, Try.ntmps25
    go_wp2
    go_loop [12] (fun i => ∃ k : Nat, k ≤ n ∧ i = .int .i64 k ∧ (c.take k).any (badLit vars) = false) (fun i => n - (intOf i).toNat)
    case atStart => exact ⟨0, Nat.zero_le _, rfl, rfl⟩
    case round =>
      obtain ⟨k, hk, rfl, hany⟩ := hrel
      have Hany := Lib.hid hany; clear hany
      by_cases hlt : k < n
      · obtain ⟨b, o, rfl, hb, hc⟩ := hr.at_ hlt
        generalize hx : c.getD k 0 = x at hc
        have Hx := Lib.hid hx; clear hx
        rcases Decidable.em (x = 0) with h0 | h0
        · have h1 : (x == 0) = true := by simpa using h0
          have h2 := Lib.hid h0; clear h0
          go_wp2
          all_goals (go_ret; exact ⟨ret_int (ckClause_bad Hlen.out h60 hlt Hx.out (badLit_yes (.inr (.inl h2.out)))).symm, rfl⟩)
        have h1 : (x == 0) = false := by simpa using h0
        go_wp2
        all_goals first
          | (go_ret; refine ⟨ret_int ?_, rfl⟩; exact (ckClause_bad Hlen.out h60 hlt Hx.out (badLit_yes (by omega))).symm)
          | (go_round
             case rel => refine ⟨k + 1, by omega, by go_num, anyBad_step Hlen.out hlt Hx.out Hany.out (badLit_no (by omega))⟩
             case measure => simp [intOf]; omega)
      · go_wp2
        go_ret
        exact ⟨ret_int (ckClause_end Hlen.out h60 hlt Hany.out).symm, rfl⟩
set_option maxHeartbeats 400000 in
theorem rcheckClause_any (A : Option Addr) (n cap : Nat) (c : List Int) (vars : Int) (w : World) (S : Nat → Prop) (hr : RInts w S A n c) (hn : n ≤ maxLen) (hv : -9223372036854775808 ≤ vars) (hv' : vars ≤ 9223372036854775807) :
    Calls Try.prog 26 #[.slice A n cap, .int .i64 vars] w fun e w' => e = .returned (.int .i64 (ckClause c vars)) ∧ w = w' := by
  unfold maxLen at hn
  have Hlen := Lib.hid hr.len
  by_cases h60 : 60 < n
  · have h60' : (60 : Int) < (n : Int) := by omega
    go_enter Try.func26, Try.ntmps26
    go_wp2
    go_ret
    exact ⟨ret_int (by unfold ckClause; rw [if_pos (by have := Hlen.out; omega)]), rfl⟩
  · have hd60 : decide ((60 : Int) < (n : Int)) = false := by simp; omega
    go_enter Try.func26, Try.ntmps26
    go_wp2
    go_loop [12] (fun i => ∃ k : Nat, k ≤ n ∧ i = .int .i64 k ∧ (c.take k).any (badLit vars) = false) (fun i => n - (intOf i).toNat)
    case atStart => exact ⟨0, Nat.zero_le _, rfl, rfl⟩
    case round =>
      obtain ⟨k, hk, rfl, hany⟩ := hrel
      have Hany := Lib.hid hany; clear hany
      by_cases hlt : k < n
      · obtain ⟨b, o, rfl, hb, hc⟩ := hr.at_ hlt
        generalize hx : c.getD k 0 = x at hc
        have Hx := Lib.hid hx; clear hx
        rcases Decidable.em (x = 0) with h0 | h0
        · have h1 : (x == 0) = true := by simpa using h0
          have h2 := Lib.hid h0; clear h0
          go_wp2
          all_goals (go_ret; exact ⟨ret_int (ckClause_bad Hlen.out h60 hlt Hx.out (badLit_yes (.inr (.inl h2.out)))).symm, rfl⟩)
        have h1 : (x == 0) = false := by simpa using h0
        go_wp2
        all_goals first
          | (go_ret; refine ⟨ret_int ?_, rfl⟩; exact (ckClause_bad Hlen.out h60 hlt Hx.out (badLit_yes (by omega))).symm)
          | (go_round
             case rel => refine ⟨k + 1, by omega, by go_num, anyBad_step Hlen.out hlt Hx.out Hany.out (badLit_no (by omega))⟩
             case measure => simp [intOf]; omega)
      · go_wp2
        go_ret
        exact ⟨ret_int (ckClause_end Hlen.out h60 hlt Hany.out).symm, rfl⟩
end Go.Proofs.Ytpkbncfnkgofmaa
