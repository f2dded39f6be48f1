/-
  P5.2 (CnfMore): with more clauses, and with more that is assumed, no less follows, if it does not fail; what failed still fails: the law returns true whatever its arguments, which read as they did.
-/
import Derived.Test.YtpkbncfnkgofmaaRows
import Derived.Test.YtpkbncfnkgofmaaCnfMore1
import Derived.Test.YtpkbncfnkgofmaaOpen
import Derived.OpenShut
import Derived.ShutString
import Derived.Below
import Derived.Test.YtpkbncfnkgofmaaSized
namespace Go.Proofs.Ytpkbncfnkgofmaa.cnfMoreDone
open Go.ChangeShapes Go.WideShapes Go.ChangeAt Go.RowKit Go.Joins
set_option linter.unusedVariables false

theorem own : ownKnob Try.prog.godebug = none := by kernel_rfl
theorem laidOut : laidOutB Try.prog = true := by kernel_rfl

set_option maxRecDepth 100000 in
theorem lifted (os : Os) (started : os.Started) (H : Type) (enc : TypeId × Value → H) :
    ReturnsInHanded {} Try.checked os 10 .any (Rows.cnfMoreSpec.pre6 enc Try.prog Try.f10 Rows.cnfMoreRow.domain false) (Rows.cnfMoreSpec.post enc Try.prog Try.f10 false true false false) := by
  refine returnsInHanded_of_change_sized (C := Try.checked) own started (by kernel_rfl) Try.func10
    (ChangeSpec.witness6 (enc := enc) (C := Try.checked) false ⟨#[], #[.agg #[.int .i64 0, .slice none 0 0], .slice none 0 0, .slice none 0 0, .int .i64 0], []⟩ 8 (by kernel_rfl) (by kernel_rfl) (by kernel_rfl) (by kernel_rfl)) ?_
  intro W base args ds gs before hval0 hW hcnd hsz0 _
  have hval : ∀ (j : Nat) t v, Try.f10.params[j]? = some t → args[j]? = some v → Value.okWide Try.prog W .any base t v := hval0
  have hW' := hW
  obtain ⟨p, q, hA0, hV, rfl, hfz, hnd⟩ := hW
  have hA : DataW.TrodAll enc Try.prog W 0 (fun _ => true) true Try.f10.params.toList args.toList ds p := hA0
  rw [Try.params10] at hA hval
  have hsz : (DataW.weightsEach Try.prog (Try.f10.params.toList ++ Rows.cnfMoreSpec.plain.varTypes Try.prog) (ds ++ gs)).all (· ≤ reachBytes) = true := hsz0
  rw [Try.params10] at hsz
  obtain ⟨v0, vs0, d0, ds0, p0, q0, hargs, rfl, rfl, h0, r0⟩ := trodAll_cons hA
  obtain ⟨v1, vs1, d1, ds1, p1, q1, rfl, rfl, rfl, h1, r1⟩ := trodAll_cons r0
  obtain ⟨v2, vs2, d2, ds2, p2, q2, rfl, rfl, rfl, h2, r2⟩ := trodAll_cons r1
  obtain ⟨v3, vs3, d3, ds3, p3, q3, rfl, rfl, rfl, h3, r3⟩ := trodAll_cons r2
  obtain ⟨rfl, rfl, rfl⟩ := trodAll_nil r3
  obtain rfl : args = #[v0, v1, v2, v3] := by cases args; simp_all
  obtain ⟨rfl, rfl⟩ := trodVars_none hV
  have k0 := h0
  have lt0 : ∀ x ∈ p0, x.block < W.heap.size := by obtain ⟨m, hm⟩ := k0; exact DataW.trod_lt m _ _ _ hm
  have k1 := h1
  have lt1 : ∀ x ∈ p1, x.block < W.heap.size := by obtain ⟨m, hm⟩ := k1; exact DataW.trod_lt m _ _ _ hm
  have k2 := h2
  have lt2 : ∀ x ∈ p2, x.block < W.heap.size := by obtain ⟨m, hm⟩ := k2; exact DataW.trod_lt m _ _ _ hm
  have k3 := h3
  have lt3 : ∀ x ∈ p3, x.block < W.heap.size := by obtain ⟨m, hm⟩ := k3; exact DataW.trod_lt m _ _ _ hm
  obtain ⟨fa0, fb0, y0_0, y1_0, m_0, rfl, hd0, _, hy0_0, hy1_0⟩ := open_agg2 Try.underlying29 (by kernel_rfl) (by kernel_rfl) (hval 0 29 v0 rfl rfl) h0
  obtain ⟨vars0, e0_0, _, wa0⟩ := DataW.trod_int Try.underlying3 hy0_0
  simp at e0_0
  subst e0_0
  have wv0 := i64_bd wa0
  obtain ⟨A0, n0, c0, x0, rfl, ha0, hb0, hr0, hi0⟩ := rclauses_of_trod Try.underlying27 Try.underlying37 Try.underlying3 (by kernel_rfl) (by kernel_rfl) hy1_0
  have hn0 := And.intro ha0 hb0
  obtain ⟨A1, n1, c1, x1, rfl, ha1, hb1, hr1, hi1⟩ : ∃ (A : Option Addr) (n c : Nat) (xs : List Int), v1 = .slice A n c ∧ n ≤ c ∧ c ≤ maxLen ∧ RInts W (fun k => k < W.heap.size) A n xs ∧ InI64 xs := by
    obtain ⟨a0, l0, c0, rfl⟩ := okWide_slice Try.underlying24 (hval 1 24 v1 rfl rfl)
    obtain ⟨fuel, hf⟩ := h1
    exact rints_of_trod Try.underlying24 Try.underlying3 (by kernel_rfl) (by simpa [Value.cells] using hf)
  have hn1 := And.intro ha1 hb1
  obtain ⟨A2, n2, c2, x2, rfl, ha2, hb2, hr2, hi2⟩ : ∃ (A : Option Addr) (n c : Nat) (xs : List Int), v2 = .slice A n c ∧ n ≤ c ∧ c ≤ maxLen ∧ RInts W (fun k => k < W.heap.size) A n xs ∧ InI64 xs := by
    obtain ⟨a0, l0, c0, rfl⟩ := okWide_slice Try.underlying37 (hval 2 37 v2 rfl rfl)
    obtain ⟨fuel, hf⟩ := h2
    exact rints_of_trod Try.underlying37 Try.underlying3 (by kernel_rfl) (by simpa [Value.cells] using hf)
  have hn2 := And.intro ha2 hb2
  obtain ⟨z3, rfl, _, _, wb3⟩ := open_int Try.underlying3 (hval 3 3 v3 rfl rfl) h3
  have wz3 := i64_bd wb3
  have hz0 : n0 * 24 ≤ 140737488351232 := Nat.le_trans (Nat.mul_le_mul_right _ ha0) (weighs_slice Try.underlying27 hy1_0 (weighs_field Try.underlying29 (hd0 ▸ weighs_at hsz (j := 0) rfl rfl) (j := 1) rfl rfl) (by kernel_rfl))
  have hz1 : n1 * 8 ≤ 140737488351232 := by
    obtain ⟨fuel, hf⟩ := k1
    exact Nat.le_trans (Nat.mul_le_mul_right _ ha1) (weighs_slice Try.underlying24 (by simpa [Value.cells] using hf) (weighs_at hsz (j := 1) rfl rfl) (by kernel_rfl))
  have hz2 : n2 * 8 ≤ 140737488351232 := by
    obtain ⟨fuel, hf⟩ := k2
    exact Nat.le_trans (Nat.mul_le_mul_right _ ha2) (weighs_slice Try.underlying37 (by simpa [Value.cells] using hf) (weighs_at hsz (j := 2) rfl rfl) (by kernel_rfl))
  clear hA0 hval0
  refine (cnfMore_any A0 A1 A2 n0 c0 n1 c1 n2 c2 vars0 z3 x0 x1 x2 W (fun k => k < W.heap.size) (fun k hk => hk) hr0 hr1 hr2 hn0 (Nat.le_trans hn1.1 hn1.2) hn2 hz0 hz1 wv0.1 wv0.2 wz3.1 wz3.2).mono fun e W' ⟨he, bel⟩ => ?_
  subst he
  exact ⟨_, rfl, _, _, _, [], _, [], hW', trodAll_mk1 (shut_bool Try.underlying4 _), (trodAll_cons_mk (Below.trod laidOut (by kernel_rfl) (of_decide_eq_true (by kernel_rfl)) k0 bel lt0) (trodAll_cons_mk (Below.trod laidOut (by kernel_rfl) (of_decide_eq_true (by kernel_rfl)) k1 bel lt1) (trodAll_cons_mk (Below.trod laidOut (by kernel_rfl) (of_decide_eq_true (by kernel_rfl)) k2 bel lt2) (trodAll_cons_mk (Below.trod laidOut (by kernel_rfl) (of_decide_eq_true (by kernel_rfl)) k3 bel lt3) trodAll_mk0)))), rfl, bel.frame _, fun h => by cases h⟩

theorem over : Rows.cnfMoreRow.holds Try.pinned (OpenSpec.ofChange Rows.cnfMoreSpec) :=
  OpenClaim.holds_of_wide 10 Try.f10 rfl rfl rfl rfl rfl rfl rfl ⟨rfl, rfl, rfl, rfl, rfl⟩ rfl rfl rfl rfl rfl (by kernel_rfl) Try.func10 (by kernel_rfl)
    (of_decide_eq_true (by kernel_rfl)) (by unfold Func.isWrapper; first | (rw [if_pos (by decide +kernel)]; kernel_rfl) | (rw [if_neg (by decide +kernel)]; exact ⟨rfl, rfl⟩))
    (fun os started H enc _ => lifted os started H enc)

theorem proved : Rows.CnfMoreSaid := over
#print axioms proved
end Go.Proofs.Ytpkbncfnkgofmaa.cnfMoreDone
