/- Walks: cnf.abs, the closure of cnf.Holds, cnf.Holds. -/
import Derived.Test.YtpkbncfnkgofmaaW10
import Derived.Test.YtpkbncfnkgofmaaW14
import Derived.Test.YtpkbncfnkgofmaaPlain2
namespace Go.Proofs.Ytpkbncfnkgofmaa
open Go.RowKit


def holdsErr (vars : Int) (cs : List (List Int)) (m : List Bool) : Int := if ckFormula vars cs ≠ 0 then ckFormula vars cs else if (m.length : Int) ≠ vars then 4 else 0
def holdsOk (vars : Int) (cs : List (List Int)) (m : List Bool) : Bool := decide (holdsErr vars cs m = 0) && Qm.holdsF m cs

set_option maxHeartbeats 400000 in
theorem abs_any (x : Int) (w : World) (h1 : -9223372036854775807 ≤ x) (h2 : x ≤ 9223372036854775807) : Calls Try.prog 49 #[.int .i64 x] w fun e w' => e = .returned (.int .i64 (x.natAbs : Int)) ∧ w = w' := by
  by_cases h : x < -x
  · have h' : (x.natAbs : Int) = -x := by omega
    have H := Lib.hid h'; clear h'
    go_enter Try.func49, Try.ntmps49
    go_wp2
    go_ret
    exact ⟨ret_int H.out.symm, rfl⟩
  · have h' : (x.natAbs : Int) = x := by omega
    have H := Lib.hid h'; clear h'
    go_enter Try.func49, Try.ntmps49
    go_wp2
    go_ret
    exact ⟨ret_int H.out.symm, rfl⟩
set_option maxHeartbeats 1000000 in
theorem holdsLit_any (x : Int) (bm : Nat) (Am : Option Addr) (nm cm : Nat) (m : List Bool) (w : World) (S : Nat → Prop) (hc : w.cell? ⟨bm, 0, none⟩ = some (.slice Am nm cm)) (hm : RBools w S Am nm m) (hx : Qm.IsLit nm x) (hn : nm ≤ 400) :
    Calls Try.prog 48 #[.int .i64 x, .pointer (some ⟨bm, 0, none⟩)] w fun e w' => e = .returned (.bool (Qm.litHolds m x)) ∧ ∃ q, w' = w.drewN q := by
  obtain ⟨h0, h1⟩ := hx
  obtain ⟨b, o, rfl, hb, hcell⟩ := hm.at_ (k := x.natAbs - 1) (by omega)
  have hlo : -400 ≤ x ∧ x ≤ 400 := by omega
  have hr : Qm.litHolds m x = (m.getD (x.natAbs - 1) false == decide (0 < x)) := rfl
  have ha : ∀ d, Calls Try.prog 49 #[.int .i64 x] (w.drewN d) fun e w' => e = .returned (.int .i64 (x.natAbs : Int)) ∧ w' = w.drewN d := fun d => (abs_any x _ (by omega) (by omega)).mono fun _ _ h => ⟨h.1, h.2.symm⟩
  generalize m.getD (x.natAbs - 1) false = v at hcell hr
  have ha1 : 1 ≤ x.natAbs := by omega
  have ha2 : x.natAbs ≤ nm := h1
  generalize x.natAbs = a at hcell ha ha1 ha2
  have Ha := Lib.hid ha; have Hr := Lib.hid hr
  clear ha hr hm h1
  have q3 : (((a : Int) - 1)).toNat = a - 1 := by omega
  have q2 : (0 : Int) ≤ (a : Int) - 1 := by omega
  have q4 : (a : Int) - 1 < nm := by omega
  have q1 : IntKind.i64.wrap ((a : Int) - 1) = (a : Int) - 1 := IntWalk.i64_in _ (by omega)
  go_enter Try.func48, Try.ntmps48
  go_wp2_with fail
  go_quiet ((go_at_call 49; exact Calls.quiet_of_same (Ha.out _)))
  clear q1 q2 q3 q4
  go_wp2_with fail
  go_ret
  exact ⟨ret_bool Hr.out.symm, _, rfl⟩
end Go.Proofs.Ytpkbncfnkgofmaa
