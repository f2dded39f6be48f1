/- The walk of CnfSays. -/
import Derived.Test.YtpkbncfnkgofmaaW19
import Derived.Test.YtpkbncfnkgofmaaW20
import Derived.Test.YtpkbncfnkgofmaaW21
import Derived.Test.YtpkbncfnkgofmaaRupSays1
namespace Go.Proofs.Ytpkbncfnkgofmaa
open Go.RowKit
theorem callFuncCs (args : Array Value) (W : World) : (callFunc 29 args).run Try.prog W = .ok (.enter 29 args) W := by kernel_rfl
set_option maxHeartbeats 1000000 in
theorem csLit_any (x : Int) (N bf : Nat) (w : World) (hc : w.cell? ⟨bf, 0, none⟩ = some (.int .i64 (N : Int))) (hN : N ≤ 400) :
    Calls Try.prog 29 #[.int .i64 x, .pointer (some ⟨bf, 0, none⟩)] w fun e w' => e = .returned (.bool (badLit (N : Int) x)) ∧ w = w' := by
  rcases Decidable.em (x = 0) with h0 | h0
  · have h1 : (x == 0) = true := by simpa using h0
    have H : Hid (badLit (N : Int) x = true) := badLit_yes (.inr (.inl h0))
    clear h0
    go_enter Try.func29, Try.ntmps29
    go_wp2_with fail
    go_ret
    exact ⟨ret_bool H.out.symm, rfl⟩
  have h1 : (x == 0) = false := by simpa using h0
  by_cases h2 : (N : Int) < x
  · have H : Hid (badLit (N : Int) x = true) := badLit_yes (by omega)
    clear h0
    go_enter Try.func29, Try.ntmps29
    go_wp2_with fail
    go_ret
    exact ⟨ret_bool H.out.symm, rfl⟩
  have h2' : decide ((N : Int) < x) = false := decide_eq_false h2
  by_cases h3 : x < -(N : Int)
  · have H : Hid (badLit (N : Int) x = true) := badLit_yes (by omega)
    clear h0 h2
    go_enter Try.func29, Try.ntmps29
    go_wp2_with fail
    go_ret
    exact ⟨ret_bool H.out.symm, rfl⟩
  have h3' : decide (x < -(N : Int)) = false := decide_eq_false h3
  have H : Hid (badLit (N : Int) x = false) := badLit_no (by omega)
  clear h0 h2 h3
  go_enter Try.func29, Try.ntmps29
  go_wp2_with fail
  go_ret
  exact ⟨ret_bool H.out.symm, rfl⟩
end Go.Proofs.Ytpkbncfnkgofmaa
