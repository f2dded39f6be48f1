/- Walks: slices.Index, slices.Contains over ints. -/
import Derived.Test.YtpkbncfnkgofmaaW14
namespace Go.Proofs.Ytpkbncfnkgofmaa
open Go.RowKit
def eqTo (v x : Int) : Bool := v == x
set_option maxHeartbeats 1000000 in
theorem indexInt_any (A : Option Addr) (n c : Nat) (xs : List Int) (v : Int) (w : World) (S : Nat → Prop) (hr : RInts w S A n xs) (hn : n ≤ maxLen) :
    Calls Try.prog 56 #[.slice A n c, .int .i64 v] w fun e w' => e = .returned (.int .i64 (idxOf (eqTo v) xs)) ∧ ∃ q, w' = w.drewN q := by
  unfold maxLen at hn
  have Hlen := Lib.hid hr.len
  have Hr := Lib.hid hr
  clear hr
  go_enter Try.func56, Try.ntmps56
  go_wp2_with fail
  go_loopg [8] n (fun g i wr => ∃ (k d : Nat), Hid (k + g = n) ∧ i = .int .i64 k ∧ wr = w.drewN d ∧ Hid ((xs.take k).any (eqTo v) = false))
  case atStart => exact ⟨0, 0, Nat.zero_add _, rfl, rfl, rfl⟩
  case round =>
    obtain ⟨k, d, Hk, rfl, rfl, Hany⟩ := hrel
    by_cases hk : k < n
    · obtain ⟨b, o, rfl, hb, hc⟩ := Hr.out.at_ hk
      have hlc : k < xs.length := by rw [Hlen.out]; exact hk
      generalize hx : xs.getD k 0 = x at hc
      have Hx := Lib.hid hx; clear hx
      have Hlc := Lib.hid hlc; clear hlc
      by_cases hv : v = x
      · have Hpx : Hid (eqTo v x = true) := by unfold eqTo Hid; simpa using hv
        have hv' : (v == x) = true := by simpa using hv
        clear hv
        go_wp2_with fail
        go_ret
        exact ⟨ret_int (idxOf_hit Hlc.out Hx.out Hpx.out Hany.out).symm, _, rfl⟩
      · have Hpx : Hid (eqTo v x = false) := by unfold eqTo Hid; simpa using hv
        have hv' : (v == x) = false := by simpa using hv
        clear hv
        go_wp2_with fail
        go_roundg (gk - 1)
        case measure => have := Hk.out; omega
        case rel => exact ⟨k + 1, d, by have := Hk.out; show _ = _; omega, by go_num, rfl, take_any_succ Hlc.out Hx.out Hpx.out Hany.out⟩
    · go_wp2_with fail
      go_ret
      have hk' : k = n := by have := Hk.out; omega
      subst hk'
      refine ⟨ret_int ?_, _, rfl⟩
      rw [idxOf_none]
      have := Hany.out
      rwa [List.take_of_length_le (by rw [Hlen.out]; exact Nat.le_refl _)] at this
set_option maxHeartbeats 1000000 in
theorem indexVal_any (A : Option Addr) (n c : Nat) (xs : List Int) (v : Int) (w : World) (S : Nat → Prop) (hr : RInts w S A n xs) (hn : n ≤ maxLen) :
    Calls Try.prog 65 #[.slice A n c, .int .i64 v] w fun e w' => e = .returned (.int .i64 (idxOf (eqTo v) xs)) ∧ ∃ q, w' = w.drewN q := by
  unfold maxLen at hn
  have Hlen := Lib.hid hr.len
  have Hr := Lib.hid hr
  clear hr
  go_enter Try.func65, Try.ntmps65
  go_wp2_with fail
  go_loopg [8] n (fun g i wr => ∃ (k d : Nat), Hid (k + g = n) ∧ i = .int .i64 k ∧ wr = w.drewN d ∧ Hid ((xs.take k).any (eqTo v) = false))
  case atStart => exact ⟨0, 0, Nat.zero_add _, rfl, rfl, rfl⟩
  case round =>
    obtain ⟨k, d, Hk, rfl, rfl, Hany⟩ := hrel
    by_cases hk : k < n
    · obtain ⟨b, o, rfl, hb, hc⟩ := Hr.out.at_ hk
      have hlc : k < xs.length := by rw [Hlen.out]; exact hk
      generalize hx : xs.getD k 0 = x at hc
      have Hx := Lib.hid hx; clear hx
      have Hlc := Lib.hid hlc; clear hlc
      by_cases hv : v = x
      · have Hpx : Hid (eqTo v x = true) := by unfold eqTo Hid; simpa using hv
        have hv' : (v == x) = true := by simpa using hv
        clear hv
        go_wp2_with fail
        go_ret
        exact ⟨ret_int (idxOf_hit Hlc.out Hx.out Hpx.out Hany.out).symm, _, rfl⟩
      · have Hpx : Hid (eqTo v x = false) := by unfold eqTo Hid; simpa using hv
        have hv' : (v == x) = false := by simpa using hv
        clear hv
        go_wp2_with fail
        go_roundg (gk - 1)
        case measure => have := Hk.out; omega
        case rel => exact ⟨k + 1, d, by have := Hk.out; show _ = _; omega, by go_num, rfl, take_any_succ Hlc.out Hx.out Hpx.out Hany.out⟩
    · go_wp2_with fail
      go_ret
      have hk' : k = n := by have := Hk.out; omega
      subst hk'
      refine ⟨ret_int ?_, _, rfl⟩
      rw [idxOf_none]
      have := Hany.out
      rwa [List.take_of_length_le (by rw [Hlen.out]; exact Nat.le_refl _)] at this
set_option maxHeartbeats 400000 in
theorem contains_any (A : Option Addr) (n c : Nat) (xs : List Int) (v : Int) (w : World) (S : Nat → Prop) (hr : RInts w S A n xs) (hn : n ≤ maxLen) :
    Calls Try.prog 37 #[.slice A n c, .int .i64 v] w fun e w' => e = .returned (.bool (xs.any (eqTo v))) ∧ ∃ q, w' = w.drewN q := by
  have Hcall := Lib.hid (indexInt_any A n c xs v w S hr hn)
  clear hr
  go_enter Try.func37, Try.ntmps37
  go_wp2_with fail
  refine Hcall.out.mono ?_
  rintro e w' ⟨rfl, q, rfl⟩
  generalize hi : idxOf (eqTo v) xs = i
  have Hi := Lib.hid hi; clear hi
  go_wp2_with fail
  go_ret
  refine ⟨ret_bool ?_, _, rfl⟩
  rw [← idxOf_any, Hi.out]
end Go.Proofs.Ytpkbncfnkgofmaa
