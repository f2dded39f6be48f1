/- Walks: the check of a proof, the program's and the document's. -/
import Derived.Test.YtpkbncfnkgofmaaW6
namespace Go.Proofs.Ytpkbncfnkgofmaa
open Go.RowKit
set_option maxHeartbeats 1000000 in
theorem checkProof_any (A : Option Addr) (n cap : Nat) (cs : List (List Int)) (vars : Int) (w : World) (S : Nat → Prop) (hr : RClauses w S A n cs) (hn : n ≤ maxLen) (hv : -9223372036854775808 ≤ vars) (hv' : vars ≤ 9223372036854775807) :
    Calls Try.prog 19 #[.slice A n cap, .int .i64 vars] w fun e w' => e = .returned (.int .i64 (ckProof cs vars)) ∧ w = w' := by
  unfold maxLen at hn
  have Hlen := Lib.hid hr.len
  have Hr := Lib.hid hr; clear hr
  by_cases h0 : vars < 0
  · go_enter Try.func19, Try.ntmps19
    go_wp2_with fail
    go_ret
    exact ⟨ret_int (by unfold ckProof; rw [if_pos (.inl h0)]), rfl⟩
  have h0' : decide (vars < 0) = false := by simpa using h0
  by_cases h4 : 400 < vars
  · go_enter Try.func19, Try.ntmps19
    go_wp2_with fail
    go_ret
    exact ⟨ret_int (by unfold ckProof; rw [if_pos (.inr h4)]), rfl⟩
  have h4' : decide (400 < vars) = false := by simpa using h4
  have H3 : Hid (¬ (vars < 0 ∨ 400 < vars)) := by show ¬ _; omega
  by_cases hm : 40000 < n
  · have hm' : decide ((40000 : Int) < (n : Int)) = true := by simp; omega
    go_enter Try.func19, Try.ntmps19
    go_wp2_with fail
    go_ret
    exact ⟨ret_int (by unfold ckProof; rw [if_neg H3.out, if_pos (by rw [Hlen.out]; exact hm)]), rfl⟩
  have hm' : decide ((40000 : Int) < (n : Int)) = false := by simp; omega
  have H5 : Hid (ckProof cs vars = ckClauses cs vars) := by show _ = _; unfold ckProof; rw [if_neg H3.out, if_neg (by rw [Hlen.out]; exact hm)]
  go_enter Try.func19, Try.ntmps19
  go_wp2_with fail
  go_loopg [19] n (fun g i wr => ∃ k : Nat, Hid (k + g = n) ∧ i = .int .i64 k ∧ NoneBad cs vars k ∧ Hid (w = wr))
  case atStart => exact ⟨0, Nat.zero_add _, rfl, fun c hc => by simp at hc, rfl⟩
  case round =>
    obtain ⟨k, Hk, rfl, hbad, Hwr⟩ := hrel
    obtain rfl := Hwr.out
    clear Hwr
    have Hbad := Lib.hid hbad; clear hbad
    by_cases hk : k < n
    · obtain ⟨b, o, A', n', c', rfl, hb, hcell, hc, hnc, hcm⟩ := Hr.out.at_ hk
      unfold maxLen at hcm
      have hcall := checkClause_any A' n' c' _ vars _ _ hc (by unfold maxLen; omega) hv hv'
      generalize hcc : cs.getD k [] = c at hcall
      have Hcc := Lib.hid hcc; clear hcc hc
      generalize hx : ckClause c vars = x at hcall
      have Hx := Lib.hid hx; clear hx
      have Hcall := Lib.hid hcall; clear hcall
      by_cases hx0 : (x != 0) = true
      · go_wp2_with fail
        refine Hcall.out.mono ?_
        rintro e w' ⟨rfl, rfl⟩
        go_wp2_with fail
        go_ret
        exact ⟨ret_int (by rw [H5.out, ckClauses_bad Hbad.out (by rw [Hlen.out]; exact hk) Hcc.out (by rw [Hx.out]; exact hx0), Hx.out]), rfl⟩
      · have hx1 : (x != 0) = false := by simpa using hx0
        clear hx0
        go_wp2_with fail
        refine Hcall.out.mono ?_
        rintro e w' ⟨rfl, rfl⟩
        go_wp2_with fail
        go_roundg (gk - 1)
        case measure => have := Hk.out; omega
        case rel => exact ⟨k + 1, by have := Hk.out; show _ = _; omega, by go_num, Hbad.out.next (by rw [Hlen.out]; exact hk) Hcc.out (by rw [Hx.out]; exact hx1), rfl⟩
    · go_wp2_with fail
      go_ret
      exact ⟨ret_int (by rw [H5.out, ckClauses_good Hbad.out (by rw [Hlen.out]; have := Hk.out; omega)]), rfl⟩
set_option maxHeartbeats 1000000 in
theorem rcheckProof_any (A : Option Addr) (n cap : Nat) (cs : List (List Int)) (vars : Int) (w : World) (S : Nat → Prop) (hr : RClauses w S A n cs) (hn : n ≤ maxLen) (hv : -9223372036854775808 ≤ vars) (hv' : vars ≤ 9223372036854775807) :
    Calls Try.prog 17 #[.slice A n cap, .int .i64 vars] w fun e w' => e = .returned (.int .i64 (ckProof cs vars)) ∧ w = w' := by
  unfold maxLen at hn
  have Hlen := Lib.hid hr.len
  have Hr := Lib.hid hr; clear hr
  by_cases h0 : vars < 0
  · go_enter Try.func17, Try.ntmps17
    go_wp2_with fail
    go_ret
    exact ⟨ret_int (by unfold ckProof; rw [if_pos (.inl h0)]), rfl⟩
  have h0' : decide (vars < 0) = false := by simpa using h0
  by_cases h4 : 400 < vars
  · go_enter Try.func17, Try.ntmps17
    go_wp2_with fail
    go_ret
    exact ⟨ret_int (by unfold ckProof; rw [if_pos (.inr h4)]), rfl⟩
  have h4' : decide (400 < vars) = false := by simpa using h4
  have H3 : Hid (¬ (vars < 0 ∨ 400 < vars)) := by show ¬ _; omega
  by_cases hm : 40000 < n
  · have hm' : decide ((40000 : Int) < (n : Int)) = true := by simp; omega
    go_enter Try.func17, Try.ntmps17
    go_wp2_with fail
    go_ret
    exact ⟨ret_int (by unfold ckProof; rw [if_neg H3.out, if_pos (by rw [Hlen.out]; exact hm)]), rfl⟩
  have hm' : decide ((40000 : Int) < (n : Int)) = false := by simp; omega
  have H5 : Hid (ckProof cs vars = ckClauses cs vars) := by show _ = _; unfold ckProof; rw [if_neg H3.out, if_neg (by rw [Hlen.out]; exact hm)]
  go_enter Try.func17, Try.ntmps17
  go_wp2_with fail
  go_loopg [19] n (fun g i wr => ∃ k : Nat, Hid (k + g = n) ∧ i = .int .i64 k ∧ NoneBad cs vars k ∧ Hid (w = wr))
  case atStart => exact ⟨0, Nat.zero_add _, rfl, fun c hc => by simp at hc, rfl⟩
  case round =>
    obtain ⟨k, Hk, rfl, hbad, Hwr⟩ := hrel
    obtain rfl := Hwr.out
    clear Hwr
    have Hbad := Lib.hid hbad; clear hbad
    by_cases hk : k < n
    · obtain ⟨b, o, A', n', c', rfl, hb, hcell, hc, hnc, hcm⟩ := Hr.out.at_ hk
      unfold maxLen at hcm
      have hcall := rcheckClause_any A' n' c' _ vars _ _ hc (by unfold maxLen; omega) hv hv'
      generalize hcc : cs.getD k [] = c at hcall
      have Hcc := Lib.hid hcc; clear hcc hc
      generalize hx : ckClause c vars = x at hcall
      have Hx := Lib.hid hx; clear hx
      have Hcall := Lib.hid hcall; clear hcall
      by_cases hx0 : (x != 0) = true
      · go_wp2_with fail
        refine Hcall.out.mono ?_
        rintro e w' ⟨rfl, rfl⟩
        go_wp2_with fail
        go_ret
        exact ⟨ret_int (by rw [H5.out, ckClauses_bad Hbad.out (by rw [Hlen.out]; exact hk) Hcc.out (by rw [Hx.out]; exact hx0), Hx.out]), rfl⟩
      · have hx1 : (x != 0) = false := by simpa using hx0
        clear hx0
        go_wp2_with fail
        refine Hcall.out.mono ?_
        rintro e w' ⟨rfl, rfl⟩
        go_wp2_with fail
        go_roundg (gk - 1)
        case measure => have := Hk.out; omega
        case rel => exact ⟨k + 1, by have := Hk.out; show _ = _; omega, by go_num, Hbad.out.next (by rw [Hlen.out]; exact hk) Hcc.out (by rw [Hx.out]; exact hx1), rfl⟩
    · go_wp2_with fail
      go_ret
      exact ⟨ret_int (by rw [H5.out, ckClauses_good Hbad.out (by rw [Hlen.out]; have := Hk.out; omega)]), rfl⟩
end Go.Proofs.Ytpkbncfnkgofmaa
