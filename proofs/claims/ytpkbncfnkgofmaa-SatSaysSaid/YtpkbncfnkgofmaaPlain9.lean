/- Plain: what RupMore says of badErr, badK, refOk. -/
import Derived.Test.YtpkbncfnkgofmaaW10
import Derived.Test.YtpkbncfnkgofmaaPlain8
namespace Go.Proofs.Ytpkbncfnkgofmaa
open Go.RowKit
theorem badFrom_neg {N : Nat} {cs pf : List (List Int)} : ∀ (g k : Nat), k + g = pf.length → (badFrom N cs pf k g < 0 ↔ ∀ j, k ≤ j → j < pf.length → Qm.rupStep N (cs ++ pf.take j) (pf.getD j []) = true) := by
  intro g
  induction g with
  | zero => intro k hk; exact ⟨fun _ j h1 h2 => by omega, fun _ => by unfold badFrom; omega⟩
  | succ g ih =>
    intro k hk
    unfold badFrom
    by_cases h : Qm.rupStep N (cs ++ pf.take k) (pf.getD k []) = true
    · rw [if_pos h, ih (k + 1) (by omega)]
      constructor
      · intro h2 j h3 h4
        by_cases e : j = k
        · rw [e]; exact h
        · exact h2 j (by omega) h4
      · intro h2 j h3 h4; exact h2 j (by omega) h4
    · rw [if_neg h]
      constructor
      · intro h2; omega
      · intro h2; exact absurd (h2 k (Nat.le_refl _) (by omega)) h
theorem badOf_neg {N : Nat} {cs pf : List (List Int)} : badOf N cs pf < 0 ↔ Qm.Steps N cs pf := by
  unfold badOf
  rw [badFrom_neg pf.length 0 (by omega)]
  exact ⟨fun h k hk => h k (Nat.zero_le _) hk, fun h k _ hk => h k hk⟩
theorem badFrom_one {N : Nat} {cs pf : List (List Int)} : ∀ (g k : Nat), badFrom N cs pf k g < 0 → badFrom N cs pf k g = -1 := by
  intro g
  induction g with
  | zero => intro k _; rfl
  | succ g ih =>
    intro k h
    unfold badFrom at h ⊢
    split
    · rename_i h1; rw [if_pos h1] at h; exact ih _ h
    · rename_i h1; rw [if_neg h1] at h; omega
theorem refOk_parts {N : Nat} {cs pf : List (List Int)} (hE : badErr (N : Int) cs pf = 0) : refOk (N : Int) cs pf = true ↔ Qm.Steps N cs pf ∧ 0 < pf.length ∧ (pf.getD (pf.length - 1) []).length = 0 := by
  have hk : badK (N : Int) cs pf = badOf N cs pf := by unfold badK; rw [if_neg (by rw [hE]; simp)]; simp
  unfold refOk
  rw [hk, hE]
  simp only [Bool.and_eq_true, decide_eq_true_eq, badOf_neg]
  exact ⟨fun h => ⟨h.1.1.2, h.1.2, h.2⟩, fun h => ⟨⟨⟨trivial, h.1⟩, h.2.1⟩, h.2.2⟩⟩
theorem badErr_ok {vars : Int} {cs pf : List (List Int)} (hE : badErr vars cs pf = 0) : ∃ N : Nat, vars = N ∧ N ≤ 400 ∧ cs.length ≤ 4000 ∧ pf.length ≤ 40000 ∧ (∀ c ∈ cs, Qm.IsCl N c ∧ c.length ≤ 60) ∧ (∀ c ∈ pf, Qm.IsCl N c ∧ c.length ≤ 60) ∧ ckFormula vars cs = 0 ∧ ckProof pf vars = 0 := by
  have hf : ckFormula vars cs = 0 := by
    unfold badErr at hE
    split at hE
    · exact hE
    · rename_i h; simpa using h
  have hp : ckProof pf vars = 0 := by unfold badErr at hE; rwa [if_neg (by rw [hf]; simp)] at hE
  obtain ⟨N, rfl, hN, hl, hc⟩ := ckFormula_ok hf
  obtain ⟨hpl, hps⟩ := ckProof_ok hp
  exact ⟨N, rfl, hN, hl, hpl, hc, hps, hf, hp⟩
theorem ckClauses_zero {cs : List (List Int)} {vars : Int} (h : ∀ c ∈ cs, ckClause c vars = 0) : ckClauses cs vars = 0 :=
  ckClauses_good (k := cs.length) (fun c hc => h c (List.mem_of_mem_take hc)) rfl
theorem ckF_each {vars : Int} {cs : List (List Int)} (h : ckFormula vars cs = 0) : ckClauses cs vars = 0 := by
  unfold ckFormula at h
  split at h
  · omega
  · split at h
    · omega
    · exact h
theorem ckP_each {vars : Int} {cs : List (List Int)} (h : ckProof cs vars = 0) : ckClauses cs vars = 0 := by
  unfold ckProof at h
  split at h
  · omega
  · split at h
    · omega
    · exact h
theorem rupMore_more {vars : Int} {cs pf : List (List Int)} {c : List Int} (hE : badErr vars cs pf = 0) (hH : badErr vars (cs ++ [c]) pf = 0) (h : refOk vars cs pf = true) : refOk vars (cs ++ [c]) pf = true := by
  obtain ⟨N, rfl, _, _, _, hc, hp, _⟩ := badErr_ok hE
  obtain ⟨_, he, _, _, _, hc', _⟩ := badErr_ok hH
  obtain rfl := Int.ofNat.inj he
  rw [refOk_parts hE] at h
  rw [refOk_parts hH]
  exact ⟨h.1.mono (fun d hd => (hc' d hd).1) (fun d hd => (hp d hd).1) (fun d hd => List.mem_append_left _ hd), h.2⟩
theorem rupMore_self {vars : Int} {cs : List (List Int)} (hf : ckFormula vars cs = 0) : badErr vars cs cs = 0 ∧ badK vars cs cs = -1 := by
  obtain ⟨N, rfl, hN, hl, hc⟩ := ckFormula_ok hf
  have hE : badErr (N : Int) cs cs = 0 := by
    unfold badErr
    rw [if_neg (by rw [hf]; simp)]
    unfold ckProof
    rw [if_neg (by omega), if_neg (by omega)]
    exact ckF_each hf
  refine ⟨hE, ?_⟩
  unfold badK
  rw [if_neg (by rw [hE]; simp)]
  exact badFrom_one _ _ (badOf_neg.2 (Qm.Steps.self fun d hd => (hc d hd).1))
theorem rupMore_long {vars : Int} {cs pf : List (List Int)} (hE : badErr vars cs pf = 0) : badErr vars cs (cs ++ pf) = 2 ∨ (badErr vars cs (cs ++ pf) = 0 ∧ (refOk vars cs pf = true → refOk vars cs (cs ++ pf) = true)) := by
  obtain ⟨N, rfl, hN, hl, hpl, hc, hp, hf, hpf⟩ := badErr_ok hE
  by_cases hb : 40000 < (cs ++ pf).length
  · left
    unfold badErr
    rw [if_neg (by rw [hf]; simp)]
    unfold ckProof
    rw [if_neg (by omega), if_pos hb]
  · right
    have hE2 : badErr (N : Int) cs (cs ++ pf) = 0 := by
      unfold badErr
      rw [if_neg (by rw [hf]; simp)]
      unfold ckProof
      rw [if_neg (by omega), if_neg hb]
      refine ckClauses_zero fun c hcc => ?_
      rcases List.mem_append.1 hcc with hcc | hcc
      · exact ck_lits (ckF_each hf) c hcc
      · exact ck_lits (ckP_each hpf) c hcc
    refine ⟨hE2, fun h => ?_⟩
    rw [refOk_parts hE] at h
    rw [refOk_parts hE2]
    refine ⟨h.1.long (fun d hd => (hc d hd).1) (fun d hd => (hp d hd).1), by rw [List.length_append]; omega, ?_⟩
    have e : (cs ++ pf).getD ((cs ++ pf).length - 1) [] = pf.getD (pf.length - 1) [] := by
      rw [List.getD_eq_getElem?_getD, List.getD_eq_getElem?_getD, List.length_append, List.getElem?_append_right (by omega)]
      congr 2; omega
    rw [e]; exact h.2.2
end Go.Proofs.Ytpkbncfnkgofmaa
