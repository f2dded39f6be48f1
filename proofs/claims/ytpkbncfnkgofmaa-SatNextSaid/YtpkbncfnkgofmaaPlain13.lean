/- Plain: a model forbidden; the least model again. -/
import Derived.Test.YtpkbncfnkgofmaaPlain12
namespace Go.Proofs.Ytpkbncfnkgofmaa
open Go.RowKit
def noLit (m : List Bool) (j : Nat) : Int := if m.getD j false = true then -(j : Int) - 1 else (j : Int) + 1
def noTo (m : List Bool) (k : Nat) : List Int := (List.range k).map (noLit m)
theorem noTo_succ (m : List Bool) (k : Nat) : noTo m (k + 1) = noTo m k ++ [noLit m k] := by unfold noTo; rw [List.range_succ, List.map_append]; rfl
theorem noTo_len (m : List Bool) (k : Nat) : (noTo m k).length = k := by simp [noTo]
theorem noTo_cl {m : List Bool} {N : Nat} : Qm.IsCl N (noTo m N) := by
  intro x hx
  unfold noTo at hx
  obtain ⟨j, hj, rfl⟩ := List.mem_map.1 hx
  rw [List.mem_range] at hj
  unfold noLit
  split <;> exact ⟨by omega, by omega⟩
theorem noTo_holds {m m' : List Bool} {N : Nat} (h : (noTo m N).any (Qm.litHolds m') = true) : ∃ j, j < N ∧ m.getD j false ≠ m'.getD j false := by
  obtain ⟨x, hx, hh⟩ := List.any_eq_true.1 h
  unfold noTo at hx
  obtain ⟨j, hj, rfl⟩ := List.mem_map.1 hx
  rw [List.mem_range] at hj
  refine ⟨j, hj, fun e => ?_⟩
  unfold noLit at hh
  unfold Qm.litHolds at hh
  split at hh
  · rename_i h1
    have e1 : (-(j : Int) - 1).natAbs - 1 = j := by omega
    have e2 : decide (0 < -(j : Int) - 1) = false := decide_eq_false (by omega)
    rw [e1, e2, ← e, h1] at hh; cases hh
  · rename_i h1
    have e1 : ((j : Int) + 1).natAbs - 1 = j := by omega
    have e2 : decide (0 < (j : Int) + 1) = true := decide_eq_true (by omega)
    have h2 : m.getD j false = false := by simpa using h1
    rw [e1, e2, ← e, h2] at hh; cases hh
theorem first_diff {m m' : List Bool} {N : Nat} (h : ∃ j, j < N ∧ m.getD j false ≠ m'.getD j false) : ∃ k, k < N ∧ m.getD k false ≠ m'.getD k false ∧ ∀ j, j < k → m.getD j false = m'.getD j false := by
  induction N with
  | zero => obtain ⟨j, hj, _⟩ := h; omega
  | succ N ih =>
    by_cases h1 : ∃ j, j < N ∧ m.getD j false ≠ m'.getD j false
    · obtain ⟨k, hk, h2, h3⟩ := ih h1
      exact ⟨k, by omega, h2, h3⟩
    · obtain ⟨j, hj, hne⟩ := h
      have e : j = N := by
        by_cases hjN : j < N
        · exact absurd ⟨j, hjN, hne⟩ h1
        · omega
      subst e
      refine ⟨j, hj, hne, fun i hi => ?_⟩
      by_cases h4 : m.getD i false = m'.getD i false
      · exact h4
      · exact absurd ⟨i, hi, h4⟩ h1
theorem lex_eq {m m' : List Bool} (hl : m.length = m'.length) (h : Qm.LexLe m m') (h' : Qm.LexLe m' m) : m = m' := by
  by_cases hd : ∃ j, j < m.length ∧ m.getD j false ≠ m'.getD j false
  · obtain ⟨k, hk, h2, h3⟩ := first_diff hd
    have a := h k h3 h2
    have b := h' k (fun j hj => (h3 j hj).symm) h2.symm
    rw [a, b] at h2; exact absurd rfl h2
  · apply List.ext_getElem hl
    intro j h1 h2
    have : m.getD j false = m'.getD j false := by
      by_cases h4 : m.getD j false = m'.getD j false
      · exact h4
      · exact absurd ⟨j, h1, h4⟩ hd
    rw [List.getD_eq_getElem?_getD, List.getD_eq_getElem?_getD, List.getElem?_eq_getElem h1, List.getElem?_eq_getElem h2] at this
    exact this
theorem solveErr_01 {vars : Int} {cs : List (List Int)} {steps : Int} (hck : ckFormula vars cs = 0) (hs : 1 ≤ steps ∧ steps ≤ 40000) : solveErr vars cs steps = 0 ∨ solveErr vars cs steps = 8 := by
  unfold solveErr
  rw [if_neg (by rw [hck]; simp), if_neg (by omega)]
  cases resOf vars.toNat cs steps.toNat <;> simp
theorem holdsF_app {m : List Bool} {a b : List (List Int)} : Qm.holdsF m (a ++ b) = (Qm.holdsF m a && Qm.holdsF m b) := by unfold Qm.holdsF; rw [List.all_append]
theorem holdsF_snoc {m : List Bool} {a : List (List Int)} {c : List Int} (h : Qm.holdsF m (a ++ [c]) = true) : Qm.holdsF m a = true ∧ c.any (Qm.litHolds m) = true := by
  rw [holdsF_app] at h
  simp only [Bool.and_eq_true] at h
  refine ⟨h.1, ?_⟩
  have := List.all_eq_true.1 h.2 c (by simp)
  exact this
theorem ck_snoc {N : Nat} {cs : List (List Int)} {c : List Int} (h : ckFormula (N : Int) cs = 0) (hl : cs.length < 4000) (hc : Qm.IsCl N c) (hc' : c.length ≤ 60) : ckFormula (N : Int) (cs ++ [c]) = 0 := by
  obtain ⟨N', e, hN, _, hcs⟩ := ckFormula_ok h
  obtain rfl := Int.ofNat.inj e
  unfold ckFormula
  rw [if_neg (by omega), if_neg (by simp; omega)]
  refine ckClauses_zero fun d hd => ?_
  rcases List.mem_append.1 hd with hd | hd
  · exact ckClause_of (hcs d hd).1 (hcs d hd).2
  · simp at hd; subst hd; exact ckClause_of hc hc'
/-- with its model forbidden: a greater one, or none -/
theorem next_model {N : Nat} {vars : Int} {cs : List (List Int)} {M M' : List Bool} (hl : M.length = N) (h : ∀ m' : List Bool, m'.length = N → Qm.holdsF m' cs = true → Qm.LexLe M m') (hl' : M'.length = N) (hh : Qm.holdsF M' (cs ++ [noTo M N]) = true) :
    ∃ k, k < N ∧ (∀ j, j < k → M.getD j false = M'.getD j false) ∧ M.getD k false = false ∧ M'.getD k false = true := by
  obtain ⟨h1, h2⟩ := holdsF_snoc hh
  obtain ⟨k, hk, h3, h4⟩ := first_diff (noTo_holds h2)
  have h5 := h M' hl' h1 k h4 h3
  refine ⟨k, hk, h4, h5, ?_⟩
  rw [h5] at h3
  cases hb : M'.getD k false
  · rw [hb] at h3; exact absurd rfl h3
  · rfl
end Go.Proofs.Ytpkbncfnkgofmaa
