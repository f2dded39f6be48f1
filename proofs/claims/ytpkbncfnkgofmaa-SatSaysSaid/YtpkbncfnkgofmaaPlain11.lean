/- Plain: the literals of what follows, by place: which variable is open, what model they make. -/
import Derived.Test.YtpkbncfnkgofmaaPlain10
namespace Qm
theorem litsTo_app (v : List Int) : ∀ (k d : Nat), ∃ r, litsTo v (k + d) = litsTo v k ++ r := by
  intro k d
  induction d with
  | zero => exact ⟨[], by simp⟩
  | succ d ih =>
    obtain ⟨r, h⟩ := ih
    exact ⟨r ++ _, by rw [← Nat.add_assoc, litsTo_succ, h, List.append_assoc]⟩
theorem litsTo_full {N : Nat} {v : List Int} : ∀ (i : Nat), i ≤ N → (∀ j, j < i → v.getD (j + 1) 0 ≠ 0) → (litsTo v i).length = i ∧ ∀ j, j < i → (litsTo v i).getD j 0 = ((j : Int) + 1) * v.getD (j + 1) 0 := by
  intro i
  induction i with
  | zero => intro _ _; exact ⟨rfl, fun j hj => by omega⟩
  | succ i ih =>
    intro hi h
    obtain ⟨h1, h2⟩ := ih (by omega) (fun j hj => h j (by omega))
    have hne := h i (by omega)
    rw [litsTo_succ, if_neg hne]
    refine ⟨by simp [h1], fun j hj => ?_⟩
    by_cases hji : j < i
    · rw [List.getD_eq_getElem?_getD, List.getElem?_append_left (by omega), ← List.getD_eq_getElem?_getD]; exact h2 j hji
    · have e : j = i := by omega
      subst e
      rw [List.getD_eq_getElem?_getD, List.getElem?_append_right (by omega), h1]
      simp
/-- the literals of what follows, where variable i + 1 is the first that is open -/
theorem litsTo_open {N : Nat} {v : List Int} (hf : Fine N v) {i : Nat} (h : idx0 v = some i) : (litsTo v N).length ≠ N ∧ i ≤ (litsTo v N).length ∧ (∀ j, j < i → (litsTo v N).getD j 0 = (j : Int) + 1 ∨ (litsTo v N).getD j 0 = -((j : Int) + 1)) ∧ (i < (litsTo v N).length → (litsTo v N).getD i 0 ≠ (i : Int) + 1 ∧ (litsTo v N).getD i 0 ≠ -((i : Int) + 1)) := by
  obtain ⟨h1, h2, h3⟩ := idx0_some hf h
  obtain ⟨a, b⟩ := litsTo_full (N := N) i (by omega) h3
  obtain ⟨r, hr⟩ := litsTo_app v i (N - i)
  have e : i + (N - i) = N := by omega
  rw [e] at hr
  have hlt : (litsTo v N).length < N := by
    have key : ∀ k, i < k → k ≤ N → (litsTo v k).length < k := by
      intro k
      induction k with
      | zero => intro h0; omega
      | succ k ih =>
        intro h0 hk
        by_cases hik : i = k
        · subst hik
          rw [litsTo_zero h2, a]; omega
        · have := ih (by omega) (by omega)
          rw [litsTo_succ, List.length_append]
          split <;> simp <;> omega
    exact key N h1 (Nat.le_refl _)
  refine ⟨by omega, by rw [hr, List.length_append, a]; omega, fun j hj => ?_, fun hl => ?_⟩
  · have hj0 := b j hj
    have e2 : (litsTo v N).getD j 0 = (litsTo v i).getD j 0 := by
      rw [hr, List.getD_eq_getElem?_getD, List.getElem?_append_left (by omega), ← List.getD_eq_getElem?_getD]
    rw [e2, hj0]
    have hrg := vof_range hf ((j : Int) + 1)
    rw [vof_pos] at hrg
    rcases hrg with c | c | c
    · exact absurd c (h3 j hj)
    · rw [c]; left; omega
    · rw [c]; right; omega
  · have hm := litsTo_mem hf (Nat.le_refl N)
    have hin : (litsTo v N).getD i 0 ∈ litsTo v N := by rw [List.getD_eq_getElem?_getD, List.getElem?_eq_getElem hl]; exact List.getElem_mem _
    have h0 := ((hm _).1 hin).2
    have hp : vof v ((i : Int) + 1) = 0 := by rw [vof_pos]; exact h2
    exact ⟨fun e3 => by rw [e3, hp] at h0; omega, fun e3 => by rw [e3, vof_neg v _ (by omega), hp] at h0; omega⟩
theorem litsTo_total {N : Nat} {v : List Int} (hf : Fine N v) (h : idx0 v = none) : (litsTo v N).length = N ∧ (litsTo v N).map (fun n => decide (0 < n)) = boolsOf v := by
  have h0 := idx0_none hf h
  obtain ⟨a, b⟩ := litsTo_full N (Nat.le_refl N) h0
  refine ⟨a, ?_⟩
  apply List.ext_getElem (by rw [List.length_map, a, boolsOf_len hf])
  intro j h1 h2
  rw [List.length_map, a] at h1
  have e1 := b j h1
  have e2 := boolsOf_at hf h1
  rw [List.getD_eq_getElem?_getD, List.getElem?_eq_getElem (by omega)] at e1 e2
  simp only [Option.getD_some] at e1 e2
  rw [List.getElem_map, e1, e2]
  have hrg := vof_range hf ((j : Int) + 1)
  rw [vof_pos] at hrg
  rcases hrg with c | c | c
  · exact absurd c (h0 j h1)
  · rw [c]; rw [decide_eq_decide]; omega
  · rw [c]; rw [decide_eq_decide]; omega
/-- how many are open, of what is assumed alone -/
def Meas (N : Nat) (tk : List Int) (g : Nat) : Prop := ∃ u, assume tk (zeroVals N) = some u ∧ zeros u < g
theorem Meas.start (N : Nat) : Meas N [] (N + 1) := ⟨zeroVals N, rfl, by rw [zeros_zeroVals]; omega⟩
theorem Meas.zero {N : Nat} {tk : List Int} (h : Meas N tk 0) : False := by obtain ⟨u, _, h⟩ := h; omega
theorem Meas.next {N : Nat} {cs : List (List Int)} {tk v' : List Int} {g : Nat} (hc : ∀ c ∈ cs, IsCl N c) (ht : ∀ n ∈ tk, IsLit N n) (h : Meas N tk (g + 1)) (hv : followsV N cs tk = some v') {n : Int} (hn : IsLit N n) (h0 : vof v' n = 0) : Meas N (tk ++ [n]) g := by
  obtain ⟨u, hu, hz⟩ := h
  unfold followsV at hv
  rw [hu] at hv
  have hu' : tk.foldl assume1 (some (zeroVals N)) = some u := hu
  obtain ⟨hf, _, _⟩ := assume_known ht (zeroVals_fine N) hu'
  obtain ⟨_, hle, _⟩ := spread_closed hc hf hv
  have hun : vof u n = 0 := by
    rcases vof_range hf n with a | a | a
    · exact a
    · have := hle n hn a; omega
    · have := hle.fails hn a; omega
  refine ⟨vset u n, ?_, by have := zeros_vset hf hn hun; omega⟩
  unfold assume
  rw [List.foldl_append, hu', List.foldl_cons, List.foldl_nil]
  simp only [assume1]
  rw [if_neg (by omega)]
theorem searchR_len {N : Nat} {cs : List (List Int)} : ∀ (g st : Nat) (pf : List (List Int)) (tk : List Int) {st' : Nat} {pf' : List (List Int)}, searchR N cs g st pf tk = .no st' pf' → pf'.length + st' ≤ pf.length + st ∧ st' ≤ st := by
  intro g
  induction g with
  | zero => intro st pf tk st' pf' h; cases h
  | succ g ih =>
    intro st pf tk st' pf' h
    unfold searchR at h
    split at h
    · cases h
    · rename_i hst
      have hst0 : 0 < st := by omega
      cases hs : followsV N cs tk with
      | none => rw [hs] at h; injection h with h1 h2; subst h1 h2; simp; omega
      | some v' =>
        rw [hs] at h
        simp only at h
        cases hi : idx0 v' with
        | none => rw [hi] at h; cases h
        | some i =>
          rw [hi] at h
          simp only at h
          cases hr1 : searchR N cs g (st - 1) pf (tk ++ [-((i : Int) + 1)]) with
          | out => rw [hr1] at h; cases h
          | found m => rw [hr1] at h; cases h
          | no st1 pf1 =>
            rw [hr1] at h
            simp only at h
            cases hr2 : searchR N cs g st1 pf1 (tk ++ [(i : Int) + 1]) with
            | out => rw [hr2] at h; cases h
            | found m => rw [hr2] at h; cases h
            | no st2 pf2 =>
              rw [hr2] at h
              injection h with h1 h2
              have a := ih _ _ _ hr1
              have b := ih _ _ _ hr2
              subst h1 h2; simp; omega
end Qm
