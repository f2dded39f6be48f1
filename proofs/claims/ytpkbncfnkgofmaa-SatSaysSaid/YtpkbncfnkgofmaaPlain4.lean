/-
  Plain: literals out of values; what follows.
-/
import Derived.Test.YtpkbncfnkgofmaaPlain2
namespace Qm
def litsTo (v : List Int) : Nat → List Int
  | 0 => []
  | k + 1 => litsTo v k ++ if v.getD (k + 1) 0 = 0 then [] else [((k + 1 : Nat) : Int) * v.getD (k + 1) 0]
theorem litsTo_succ (v : List Int) (k : Nat) : litsTo v (k + 1) = litsTo v k ++ if v.getD (k + 1) 0 = 0 then [] else [((k + 1 : Nat) : Int) * v.getD (k + 1) 0] := rfl
theorem litsTo_zero {v : List Int} {k : Nat} (h : v.getD (k + 1) 0 = 0) : litsTo v (k + 1) = litsTo v k := by rw [litsTo_succ, if_pos h, List.append_nil]
theorem litsTo_one {v : List Int} {k : Nat} (h : v.getD (k + 1) 0 = 1) : litsTo v (k + 1) = litsTo v k ++ [(k : Int) + 1] := by rw [litsTo_succ, h, if_neg (by decide)]; congr 2; omega
theorem litsTo_neg {v : List Int} {k : Nat} (h : v.getD (k + 1) 0 = -1) : litsTo v (k + 1) = litsTo v k ++ [-((k : Int) + 1)] := by rw [litsTo_succ, h, if_neg (by decide)]; congr 2; omega
theorem litsTo_len (v : List Int) (k : Nat) : (litsTo v k).length ≤ k := by
  induction k with
  | zero => exact Nat.le_refl _
  | succ k ih => unfold litsTo; rw [List.length_append]; split <;> simp <;> omega
def followsV (N : Nat) (cs : List (List Int)) (as : List Int) : Option (List Int) := match assume as (zeroVals N) with | none => none | some v => spread cs v
theorem spreadN_fine {N : Nat} {cs : List (List Int)} (hc : ∀ c ∈ cs, IsCl N c) : ∀ (k : Nat) {v v' : List Int}, Fine N v → spreadN cs k v = some v' → Fine N v' := by
  intro k
  induction k with
  | zero => intro v v' hf h; simp [spreadN] at h; subst h; exact hf
  | succ k ih =>
    intro v v' hf h
    simp only [spreadN] at h
    cases hp : pass cs v with
    | none => rw [hp] at h; cases h
    | some x =>
      obtain ⟨v1, b⟩ := x
      rw [hp] at h
      have hf1 := (pass_ok hc hf hp).1
      cases b with
      | true => exact ih hf1 h
      | false => simp at h; subst h; exact hf1
theorem spread_fine {N : Nat} {cs : List (List Int)} (hc : ∀ c ∈ cs, IsCl N c) {v v' : List Int} (hf : Fine N v) (h : spread cs v = some v') : Fine N v' := spreadN_fine hc _ hf h
end Qm
