/-
  Plain: a clause follows at once just where no closed world has it fail; so more clauses do no harm.
-/
import Derived.Test.YtpkbncfnkgofmaaPlain6
namespace Qm
theorem rupStep_iff {N : Nat} {cs : List (List Int)} {c : List Int} (hc : ∀ d ∈ cs, IsCl N d) (hl : IsCl N c) : rupStep N cs c = true ↔ ¬ ∃ w, Fine N w ∧ Closed cs w ∧ ∀ x ∈ c, vof w x = -1 := by
  have hneg : ∀ n ∈ c.map Neg.neg, IsLit N n := by
    intro n hn
    obtain ⟨x, hx, rfl⟩ := List.mem_map.1 hn
    exact (hl x hx).neg
  constructor
  · rintro h ⟨w, hw, hcl, hf⟩
    obtain ⟨v1, e1, hf1, h1⟩ := assume_le (ls := c.map Neg.neg) (fun n hn => ⟨hneg n hn, by
      obtain ⟨x, hx, rfl⟩ := List.mem_map.1 hn
      rw [vof_neg w x (hl x hx).1, hf x hx]; rfl⟩) (zeroVals_fine N) (le_zero N w)
    obtain ⟨v2, e2, _⟩ := spread_le hw hc hcl hf1 h1
    have e1' : assume (c.map Neg.neg) (zeroVals N) = some v1 := e1
    unfold rupStep at h
    rw [e1'] at h
    simp only [e2] at h
    cases h
  · intro h
    cases hs : rupStep N cs c with
    | true => rfl
    | false =>
      exfalso; apply h
      unfold rupStep at hs
      cases ha : assume (c.map Neg.neg) (zeroVals N) with
      | none => rw [ha] at hs; cases hs
      | some v1 =>
        rw [ha] at hs
        have ha' : (c.map Neg.neg).foldl assume1 (some (zeroVals N)) = some v1 := ha
        obtain ⟨hf1, _, hk⟩ := assume_known hneg (zeroVals_fine N) ha'
        cases hsp : spread cs v1 with
        | none => simp [hsp] at hs
        | some v2 =>
          obtain ⟨h1, h2, h3⟩ := spread_closed hc hf1 hsp
          refine ⟨v2, h3, h1, fun x hx => ?_⟩
          have h4 := h2 (-x) (hl x hx).neg (hk (-x) (List.mem_map.2 ⟨x, hx, rfl⟩))
          rw [vof_neg v2 x (hl x hx).1] at h4; omega
theorem rupStep_mono {N : Nat} {cs cs' : List (List Int)} {c : List Int} (hc : ∀ d ∈ cs', IsCl N d) (hl : IsCl N c) (hs : ∀ d ∈ cs, d ∈ cs') (h : rupStep N cs c = true) : rupStep N cs' c = true := by
  rw [rupStep_iff (fun d hd => hc d (hs d hd)) hl] at h
  rw [rupStep_iff hc hl]
  rintro ⟨w, hw, hcl, hf⟩
  exact h ⟨w, hw, fun d hd => hcl d (hs d hd), hf⟩
theorem scan_all_fail {N : Nat} {w c : List Int} (hw : Fine N w) (hf : ∀ x ∈ c, vof w x = -1) : (scan w c).2 = 0 := by
  rcases scan_cases w c with ⟨_, x, hx, h1⟩ | ⟨e1, _⟩ | ⟨_, hm, hz, _⟩ | ⟨_, _, x, hx, _, _, _, hx0, _⟩
  · have := hf x hx; omega
  · exact e1
  · have := hf _ hm; omega
  · have := hf x hx; omega
theorem rupStep_mem {N : Nat} {cs : List (List Int)} {c : List Int} (hc : ∀ d ∈ cs, IsCl N d) (h : c ∈ cs) : rupStep N cs c = true := by
  rw [rupStep_iff hc (hc c h)]
  rintro ⟨w, hw, hcl, hf⟩
  exact (hcl c h).1 (scan_all_fail hw hf)
def Steps (N : Nat) (cs pf : List (List Int)) : Prop := ∀ k, k < pf.length → rupStep N (cs ++ pf.take k) (pf.getD k []) = true
theorem getD_in {pf : List (List Int)} {k : Nat} (h : k < pf.length) : pf.getD k [] ∈ pf := by
  rw [List.getD_eq_getElem?_getD, List.getElem?_eq_getElem h]; exact List.getElem_mem _
theorem Steps.mono {N : Nat} {cs cs' pf : List (List Int)} (hc : ∀ d ∈ cs', IsCl N d) (hp : ∀ d ∈ pf, IsCl N d) (hs : ∀ d ∈ cs, d ∈ cs') (h : Steps N cs pf) : Steps N cs' pf := by
  intro k hk
  refine rupStep_mono (fun d hd => ?_) (hp _ (getD_in hk)) (fun d hd => ?_) (h k hk)
  · rcases List.mem_append.1 hd with hd | hd
    · exact hc d hd
    · exact hp d (List.mem_of_mem_take hd)
  · rcases List.mem_append.1 hd with hd | hd
    · exact List.mem_append_left _ (hs d hd)
    · exact List.mem_append_right _ hd
theorem Steps.self {N : Nat} {cs : List (List Int)} (hc : ∀ d ∈ cs, IsCl N d) : Steps N cs cs := by
  intro k hk
  refine rupStep_mem (fun d hd => ?_) (List.mem_append_left _ (getD_in hk))
  rcases List.mem_append.1 hd with hd | hd
  · exact hc d hd
  · exact hc d (List.mem_of_mem_take hd)
theorem Steps.long {N : Nat} {cs pf : List (List Int)} (hc : ∀ d ∈ cs, IsCl N d) (hp : ∀ d ∈ pf, IsCl N d) (h : Steps N cs pf) : Steps N cs (cs ++ pf) := by
  intro k hk
  have hall : ∀ d ∈ cs ++ (cs ++ pf).take k, IsCl N d := fun d hd => by
    rcases List.mem_append.1 hd with hd | hd
    · exact hc d hd
    · rcases List.mem_append.1 (List.mem_of_mem_take hd) with hd | hd
      · exact hc d hd
      · exact hp d hd
  by_cases hlt : k < cs.length
  · have e : (cs ++ pf).getD k [] = cs.getD k [] := by
      rw [List.getD_eq_getElem?_getD, List.getD_eq_getElem?_getD, List.getElem?_append_left hlt]
    rw [e]
    exact rupStep_mem hall (List.mem_append_left _ (getD_in hlt))
  · have hj : k - cs.length < pf.length := by rw [List.length_append] at hk; omega
    have e : (cs ++ pf).getD k [] = pf.getD (k - cs.length) [] := by
      rw [List.getD_eq_getElem?_getD, List.getD_eq_getElem?_getD, List.getElem?_append_right (by omega)]
    rw [e]
    refine rupStep_mono hall (hp _ (getD_in hj)) (fun d hd => ?_) (h _ hj)
    rcases List.mem_append.1 hd with hd | hd
    · exact List.mem_append_left _ hd
    · refine List.mem_append_right _ ?_
      rw [List.take_append]
      exact List.mem_append_right _ hd
end Qm
