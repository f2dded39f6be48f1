/-
  Plain: what a proof shows holds in each model, up to the first bad clause.
-/
import Derived.Test.YtpkbncfnkgofmaaPlain2
import Derived.Test.YtpkbncfnkgofmaaW10
namespace Go.Proofs.Ytpkbncfnkgofmaa
open Go.RowKit
theorem holdsF_append {m : List Bool} {a b : List (List Int)} : Qm.holdsF m (a ++ b) = (Qm.holdsF m a && Qm.holdsF m b) := by unfold Qm.holdsF; rw [List.all_append]
theorem holdsF_take {m : List Bool} {a : List (List Int)} {j k : Nat} (h : Qm.holdsF m (a.take k) = true) (hj : j ≤ k) : Qm.holdsF m (a.take j) = true := by
  rw [show a.take j = (a.take k).take j from by rw [List.take_take, Nat.min_eq_left hj]]
  unfold Qm.holdsF at h ⊢
  rw [List.all_eq_true] at h ⊢
  exact fun c hc => h c (List.mem_of_mem_take hc)
theorem badFrom_sound {N : Nat} {m : List Bool} {cs pf : List (List Int)} (hc : ∀ c ∈ cs, Qm.IsCl N c) (hp : ∀ c ∈ pf, Qm.IsCl N c) (hh : Qm.holdsF m cs = true) : ∀ (g k : Nat), k + g = pf.length → Qm.holdsF m (pf.take k) = true →
    (badFrom N cs pf k g = -1 ∧ Qm.holdsF m pf = true) ∨ (∃ r : Nat, badFrom N cs pf k g = r ∧ r < pf.length ∧ Qm.holdsF m (pf.take r) = true) := by
  intro g
  induction g with
  | zero =>
    intro k hk h
    rw [Nat.add_zero] at hk
    rw [hk, List.take_length] at h
    exact .inl ⟨rfl, h⟩
  | succ g ih =>
    intro k hk h
    have hlt : k < pf.length := by omega
    unfold badFrom
    cases hs : Qm.rupStep N (cs ++ pf.take k) (pf.getD k []) with
    | false => exact .inr ⟨k, by simp, hlt, h⟩
    | true =>
      rw [if_pos rfl]
      refine ih (k + 1) (by omega) ?_
      have hin := getD_mem (l := pf) (k := k) (d := []) hlt
      have hx := Qm.rupStep_sound (m := m) (fun c hcc => by
        rcases List.mem_append.1 hcc with h1 | h1
        · exact hc c h1
        · exact hp c (List.mem_of_mem_take h1)) (hp _ hin) (by rw [holdsF_append, hh, h]; rfl) hs
      rw [List.take_succ_eq_append_getElem hlt, holdsF_append, h]
      rw [List.getD_eq_getElem?_getD, List.getElem?_eq_getElem hlt, Option.getD_some] at hx
      simp [Qm.holdsF]; exact List.any_eq_true.1 hx
/-- up to the first bad one -/
theorem bad_sound {N : Nat} {m : List Bool} {cs pf : List (List Int)} {j : Nat} (hc : ∀ c ∈ cs, Qm.IsCl N c) (hp : ∀ c ∈ pf, Qm.IsCl N c) (hh : Qm.holdsF m cs = true)
    (hj : j ≤ if badOf N cs pf < 0 then pf.length else (badOf N cs pf).toNat) : Qm.holdsF m (pf.take j) = true := by
  have h0 : Qm.holdsF m (pf.take 0) = true := rfl
  rcases badFrom_sound hc hp hh pf.length 0 (by omega) h0 with ⟨e, h⟩ | ⟨r, e, hr, h⟩
  · have e' : badOf N cs pf = -1 := e
    exact holdsF_take (k := pf.length) (by rw [List.take_length]; exact h) (by rw [e'] at hj; simpa using hj)
  · have e' : badOf N cs pf = r := e
    refine holdsF_take h ?_
    rw [e', if_neg (by omega)] at hj; omega
/-- a formula that has a model is not refuted -/
theorem refOk_sound {N : Nat} {m : List Bool} {cs pf : List (List Int)} (hc : ∀ c ∈ cs, Qm.IsCl N c) (hp : ∀ c ∈ pf, Qm.IsCl N c) (hh : Qm.holdsF m cs = true) (hE : badErr (N : Int) cs pf = 0) : refOk (N : Int) cs pf = false := by
  cases h : refOk (N : Int) cs pf with
  | false => rfl
  | true =>
    unfold refOk at h
    simp only [Bool.and_eq_true, decide_eq_true_eq] at h
    obtain ⟨⟨⟨_, h1⟩, h2⟩, h3⟩ := h
    have hk : badK (N : Int) cs pf = badOf N cs pf := by unfold badK; rw [if_neg (by rw [hE]; simp)]; simp
    rw [hk] at h1
    have hall := bad_sound (j := pf.length) hc hp hh (by rw [if_pos h1]; exact Nat.le_refl _)
    rw [List.take_length] at hall
    have := List.all_eq_true.1 hall _ (getD_mem (l := pf) (k := pf.length - 1) (d := []) (by omega))
    rw [List.length_eq_zero_iff] at h3
    rw [h3] at this
    simp at this
theorem ckClauses_take {N : Nat} {pf : List (List Int)} {j : Nat} (h : ckProof pf (N : Int) = 0) (hN : N ≤ 400) (hj : j ≤ 4000) : ckFormula (N : Int) (pf.take j) = 0 := by
  have hk : ckClauses pf (N : Int) = 0 := by
    unfold ckProof at h
    split at h
    · omega
    · split at h
      · omega
      · exact h
  unfold ckFormula
  rw [if_neg (by omega), if_neg (by rw [List.length_take]; omega)]
  exact ckClauses_good (k := (pf.take j).length) (fun c hc => ck_lits hk c (List.mem_of_mem_take (List.mem_of_mem_take hc))) rfl
end Go.Proofs.Ytpkbncfnkgofmaa
