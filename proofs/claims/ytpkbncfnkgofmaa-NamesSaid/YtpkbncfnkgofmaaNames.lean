/-
  Names: the closed sentence: each constant has its value: the law returns true.
-/
import Derived.Test.YtpkbncfnkgofmaaRows
import Derived.Test.YtpkbncfnkgofmaaW2
import Derived.Handy
import Derived.ProofKit
import Derived.ChangeOld
import Derived.OpenShut
namespace Go.Proofs.Ytpkbncfnkgofmaa.namesDone
open Go.ChangeShapes Go.WideShapes Go.ChangeAt Go.RowKit
set_option linter.unusedVariables false

set_option maxHeartbeats 2000000 in
theorem names_any (w : World) :
    Calls Try.prog 3 #[] w fun e w' => e = .returned (.bool true) ∧ Below w.heap.size w w' := by
  go_enter Try.func3, Try.ntmps3
  go_wp2
  refine wp_loop_rounds 11 ?_
  repeat any_goals (rw [rounds_succ]; go_wp2_with fail)
  refine (equal_int _ _ 15 15 15 15 [8, 99, 9, 2, 8, 14, 20, 4, 20000, 6, 400, 4000, 60, 40000, 40000] [8, 99, 9, 2, 8, 14, 20, 4, 20000, 6, 400, 4000, 60, 40000, 40000] _ (fun k => k < w.heap.size + 9) (Whole.ints (t := 3) ?h1 (by omega) rfl) (Whole.ints (t := 3) ?h2 (by omega) rfl) (by unfold maxLen; omega) (by unfold maxLen; omega)).mono ?_
  case h1 => repeat (first | (refine Whole.new _ _ _ _ ?_; simp; done) | refine Whole.alloc ?_ _ | refine Whole.drewN ?_ _)
  case h2 => repeat (first | (refine Whole.new _ _ _ _ ?_; simp; done) | refine Whole.alloc ?_ _ | refine Whole.drewN ?_ _)
  rintro e w1 ⟨he, nq, rfl⟩
  obtain rfl : e = .returned (.bool true) := he.trans (by rw [beq_self_eq_true])
  clear he
  go_wp2_with fail
  refine (equal_int _ _ 9 9 9 9 [0, 1, 2, 3, 1, 2, 3, 4, 5] [0, 1, 2, 3, 1, 2, 3, 4, 5] _ (fun k => k < w.heap.size + 9) (Whole.ints (t := 3) ?h3 (by omega) rfl) (Whole.ints (t := 3) ?h4 (by omega) rfl) (by unfold maxLen; omega) (by unfold maxLen; omega)).mono ?_
  case h3 => repeat (first | (refine Whole.new _ _ _ _ ?_; simp; done) | refine Whole.alloc ?_ _ | refine Whole.drewN ?_ _)
  case h4 => repeat (first | (refine Whole.new _ _ _ _ ?_; simp; done) | refine Whole.alloc ?_ _ | refine Whole.drewN ?_ _)
  rintro e w1 ⟨he, nq', rfl⟩
  obtain rfl : e = .returned (.bool true) := he.trans (by rw [beq_self_eq_true])
  clear he
  go_wp2_with fail
  go_ret
  refine ⟨rfl, ?_⟩
  repeat' (first | exact Below.refl _ _ | refine below_drewN ?_ _ | refine Below.alloc ?_ ?_ _ | (simp; done) | (simp; omega))

theorem own : ownKnob Try.prog.godebug = none := by kernel_rfl

set_option maxRecDepth 100000 in
theorem lifted (os : Os) (started : os.Started) (H : Type) (enc : TypeId × Value → H) :
    ReturnsInHanded {} Try.checked os 3 .any (Rows.namesSpec.pre6 enc Try.prog Try.f3 Rows.namesRow.domain false) (Rows.namesSpec.post enc Try.prog Try.f3 false true false false) := by
  refine returnsInHanded_of_change (C := Try.checked) own started (by kernel_rfl) Try.func3
    (ChangeSpec.witness6 (enc := enc) (C := Try.checked) false ⟨#[], #[], []⟩ 8 (by kernel_rfl) (by kernel_rfl) (by kernel_rfl) (by kernel_rfl)) ?_
  intro W base args ds gs before hval0 hW hcnd _
  have hW' := hW
  obtain ⟨p, q, hA0, hV, rfl, hfz, hnd⟩ := hW
  have hA : DataW.TrodAll enc Try.prog W 0 (fun _ => true) true Try.f3.params.toList args.toList ds p := hA0
  rw [Try.params3] at hA
  obtain ⟨hargs, rfl, rfl⟩ := trodAll_nil hA
  obtain rfl : args = #[] := by cases args; simp_all
  obtain ⟨rfl, rfl⟩ := trodVars_none hV
  clear hA0 hval0
  refine (names_any W).mono fun e W' ⟨he, bel⟩ => ?_
  subst he
  exact ⟨_, rfl, _, _, _, [], _, [], hW', trodAll_mk1 (shut_bool Try.underlying4 _), trodAll_mk0, rfl, bel.frame _, fun h => by cases h⟩

theorem over : Rows.namesRow.holds Try.pinned (OpenSpec.ofChange Rows.namesSpec) :=
  OpenClaim.holds_of_wide 3 Try.f3 rfl rfl rfl rfl rfl rfl rfl ⟨rfl, rfl, rfl, rfl, rfl⟩ rfl rfl rfl rfl rfl (by kernel_rfl) Try.func3 (by kernel_rfl)
    (of_decide_eq_true (by kernel_rfl)) (by unfold Func.isWrapper; first | (rw [if_pos (by decide +kernel)]; kernel_rfl) | (rw [if_neg (by decide +kernel)]; exact ⟨rfl, rfl⟩))
    (fun os started H enc _ => lifted os started H enc)

theorem proved : Rows.NamesSaid := over
#print axioms proved
end Go.Proofs.Ytpkbncfnkgofmaa.namesDone
