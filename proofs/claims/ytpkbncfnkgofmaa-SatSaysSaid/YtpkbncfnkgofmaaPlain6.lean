/-
  Plain: what follows: its literals, that it holds, that it has what is assumed, that it follows again, that more gives no less.
-/
import Derived.Test.YtpkbncfnkgofmaaPlain4
import Derived.Test.YtpkbncfnkgofmaaPlain5
namespace Qm
theorem litsTo_mem {N : Nat} {v : List Int} (hf : Fine N v) : ∀ {k : Nat}, k ≤ N → ∀ n, n ∈ litsTo v k ↔ IsLit k n ∧ vof v n = 1 := by
  intro k
  induction k with
  | zero => intro _ n; exact ⟨fun h => by simp [litsTo] at h, fun h => by have := h.1.1; have := h.1.2; omega⟩
  | succ k ih =>
    intro hk n
    have ihn := ih (by omega) n
    have hl : ((k + 1 : Nat) : Int).natAbs = k + 1 := by omega
    have hr := hf.2 (v.getD (k + 1) 0) (by
      rw [List.getD_eq_getElem?_getD, List.getElem?_eq_getElem (by have := hf.1; omega)]; exact List.getElem_mem _)
    rw [litsTo_succ, List.mem_append, ihn]
    have hvp : vof v ((k : Int) + 1) = v.getD (k + 1) 0 := by unfold vof; rw [if_neg (by omega)]; congr 1
    have hvn : vof v (-((k : Int) + 1)) = -v.getD (k + 1) 0 := by rw [vof_neg v _ (by omega), hvp]
    constructor
    · rintro (⟨h1, h2⟩ | h)
      · exact ⟨⟨h1.1, by have := h1.2; omega⟩, h2⟩
      · rcases hr with e | e | e
        · rw [if_pos e] at h; simp at h
        · rw [if_neg (by omega), e, List.mem_singleton] at h
          have hn : n = (k : Int) + 1 := by omega
          subst hn
          exact ⟨⟨by omega, by omega⟩, by rw [hvp, e]⟩
        · rw [if_neg (by omega), e, List.mem_singleton] at h
          have hn : n = -((k : Int) + 1) := by omega
          subst hn
          exact ⟨⟨by omega, by omega⟩, by rw [hvn, e]; rfl⟩
    · rintro ⟨h1, h2⟩
      by_cases hle : n.natAbs ≤ k
      · exact .inl ⟨⟨h1.1, hle⟩, h2⟩
      · right
        have h3 := h1.2
        by_cases hp : 0 < n
        · have hn : n = (k : Int) + 1 := by omega
          subst hn
          rw [hvp] at h2
          rw [if_neg (by omega), h2, List.mem_singleton]; omega
        · have hn : n = -((k : Int) + 1) := by omega
          subst hn
          rw [hvn] at h2
          have : v.getD (k + 1) 0 = -1 := by omega
          rw [if_neg (by omega), this, List.mem_singleton]; omega

/-! the first place stays empty -/
theorem vset_zero {N : Nat} {v : List Int} {n : Int} (hn : IsLit N n) (h : v.getD 0 0 = 0) : (vset v n).getD 0 0 = 0 := by
  have := hn.1
  have h0 : n.natAbs ≠ 0 := by omega
  unfold vset
  simp only [List.getD_eq_getElem?_getD] at h ⊢
  split <;> (rw [List.getElem?_set_ne (by omega)]; exact h)
theorem assume_zero {N : Nat} {ls : List Int} (hl : ∀ n ∈ ls, IsLit N n) : ∀ {v v' : List Int}, v.getD 0 0 = 0 → ls.foldl assume1 (some v) = some v' → v'.getD 0 0 = 0 := by
  induction ls with
  | nil => intro v v' h0 h; simp at h; subst h; exact h0
  | cons n ls ih =>
    intro v v' h0 h
    rw [List.foldl_cons] at h
    by_cases hv : vof v n = -1
    · have : assume1 (some v) n = none := by simp only [assume1]; rw [if_pos hv]
      rw [this, assume1_none] at h; cases h
    · have : assume1 (some v) n = some (vset v n) := by simp only [assume1]; rw [if_neg hv]
      rw [this] at h
      exact ih (fun k hk => hl k (by simp [hk])) (vset_zero (hl n (by simp)) h0) h
theorem passOne_zero {N : Nat} {v v' c : List Int} {b b' : Bool} (hc : IsCl N c) (h0 : v.getD 0 0 = 0) (h : passOne (some (v, b)) c = some (v', b')) : v'.getD 0 0 = 0 := by
  simp only [passOne] at h
  split at h
  · cases h
  · split at h
    · rename_i h1
      injection h with h; injection h with ha _
      subst ha
      exact vset_zero (hc _ (scan_unit_mem h1)) h0
    · injection h with h; injection h with ha _
      subst ha; exact h0
theorem pass_zero {N : Nat} {cs : List (List Int)} (hc : ∀ c ∈ cs, IsCl N c) : ∀ {v v' : List Int} {b b' : Bool}, v.getD 0 0 = 0 → cs.foldl passOne (some (v, b)) = some (v', b') → v'.getD 0 0 = 0 := by
  induction cs with
  | nil => intro v v' b b' h0 h; simp at h; rw [← h.1]; exact h0
  | cons c cs ih =>
    intro v v' b b' h0 h
    rw [List.foldl_cons] at h
    cases hp : passOne (some (v, b)) c with
    | none => rw [hp, passOne_none] at h; cases h
    | some x =>
      obtain ⟨v1, b1⟩ := x
      rw [hp] at h
      exact ih (fun d hd => hc d (by simp [hd])) (passOne_zero (hc c (by simp)) h0 hp) h
theorem spreadN_zero {N : Nat} {cs : List (List Int)} (hc : ∀ c ∈ cs, IsCl N c) : ∀ (k : Nat) {v v' : List Int}, v.getD 0 0 = 0 → spreadN cs k v = some v' → v'.getD 0 0 = 0 := by
  intro k
  induction k with
  | zero => intro v v' h0 h; simp [spreadN] at h; subst h; exact h0
  | succ k ih =>
    intro v v' h0 h
    simp only [spreadN] at h
    cases hp : pass cs v with
    | none => rw [hp] at h; cases h
    | some x =>
      obtain ⟨v1, b⟩ := x
      rw [hp] at h
      have h1 := pass_zero hc h0 hp
      cases b with
      | true => exact ih h1 h
      | false => simp at h; subst h; exact h1
theorem zeroVals_zero (N : Nat) : (zeroVals N).getD 0 0 = 0 := by
  rw [List.getD_eq_getElem?_getD, zeroVals, List.getElem?_replicate]; split <;> rfl
/-! what follows -/
theorem fol_parts {N : Nat} {cs : List (List Int)} {as v : List Int} (hc : ∀ c ∈ cs, IsCl N c) (hl : ∀ n ∈ as, IsLit N n) (h : followsV N cs as = some v) :
    Closed cs v ∧ Fine N v ∧ v.getD 0 0 = 0 ∧ ∀ n ∈ as, vof v n = 1 := by
  unfold followsV at h
  cases ha : assume as (zeroVals N) with
  | none => rw [ha] at h; cases h
  | some v1 =>
    rw [ha] at h
    have ha' : as.foldl assume1 (some (zeroVals N)) = some v1 := ha
    obtain ⟨hf1, _, hk⟩ := assume_known hl (zeroVals_fine N) ha'
    obtain ⟨h1, h2, h3⟩ := spread_closed hc hf1 h
    exact ⟨h1, h3, spreadN_zero hc _ (assume_zero hl (zeroVals_zero N) ha') h, fun n hn => h2 n (hl n hn) (hk n hn)⟩
theorem fol_below {N : Nat} {cs : List (List Int)} {as w : List Int} (hc : ∀ c ∈ cs, IsCl N c) (hw : Fine N w) (hcl : Closed cs w) (hl : ∀ n ∈ as, IsLit N n ∧ vof w n = 1) : ∃ v, followsV N cs as = some v ∧ Le N v w := by
  obtain ⟨v1, e1, hf1, h1⟩ := assume_le hl (zeroVals_fine N) (le_zero N w)
  obtain ⟨v2, e2, h2⟩ := spread_le hw hc hcl hf1 h1
  have e1' : assume as (zeroVals N) = some v1 := e1
  exact ⟨v2, by unfold followsV; rw [e1']; exact e2, h2⟩
theorem fol_sound {N : Nat} {m : List Bool} {cs : List (List Int)} {as : List Int} (hc : ∀ c ∈ cs, IsCl N c) (hh : holdsF m cs = true) (hl : ∀ n ∈ as, IsLit N n ∧ litHolds m n = true) :
    ∃ v, followsV N cs as = some v ∧ ∀ n ∈ litsTo v N, litHolds m n = true := by
  obtain ⟨v1, e1, hf1, h1⟩ := assume_sound hl (zeroVals_fine N) (Agrees.zero N m)
  obtain ⟨v2, e2, hf2, h2⟩ := spread_sound hc hh hf1 h1
  have e1' : assume as (zeroVals N) = some v1 := e1
  refine ⟨v2, by unfold followsV; rw [e1']; exact e2, fun n hn => ?_⟩
  obtain ⟨ha, hb⟩ := (litsTo_mem hf2 (Nat.le_refl _) n).1 hn
  exact h2 n ha hb
theorem fol_has {N : Nat} {cs : List (List Int)} {as v : List Int} (hc : ∀ c ∈ cs, IsCl N c) (hl : ∀ n ∈ as, IsLit N n) (h : followsV N cs as = some v) : ∀ n ∈ as, n ∈ litsTo v N := by
  obtain ⟨_, hf, _, hk⟩ := fol_parts hc hl h
  exact fun n hn => (litsTo_mem hf (Nat.le_refl _) n).2 ⟨hl n hn, hk n hn⟩
theorem fol_again {N : Nat} {cs : List (List Int)} {as v : List Int} (hc : ∀ c ∈ cs, IsCl N c) (hl : ∀ n ∈ as, IsLit N n) (h : followsV N cs as = some v) : followsV N cs (litsTo v N) = some v := by
  obtain ⟨hcl, hf, h0, _⟩ := fol_parts hc hl h
  have hm := litsTo_mem hf (Nat.le_refl N)
  obtain ⟨v1, e1, hf1, h1⟩ := assume_le (ls := litsTo v N) (fun n hn => (hm n).1 hn) (zeroVals_fine N) (le_zero N v)
  obtain ⟨_, _, hk⟩ := assume_known (ls := litsTo v N) (fun n hn => ((hm n).1 hn).1) (zeroVals_fine N) e1
  have h2 : Le N v v1 := fun n hn hv => hk n ((hm n).2 ⟨hn, hv⟩)
  have h3 := assume_zero (ls := litsTo v N) (fun n hn => ((hm n).1 hn).1) (zeroVals_zero N) e1
  obtain rfl : v1 = v := eq_of_le hf1 hf h1 h2 (by rw [h3, h0])
  have e1' : assume (litsTo v1 N) (zeroVals N) = some v1 := e1
  unfold followsV
  rw [e1']
  exact spread_of_closed hcl
theorem fol_more {N : Nat} {cs : List (List Int)} {c as v : List Int} {n : Int} (hc : ∀ d ∈ cs ++ [c], IsCl N d) (hl : ∀ k ∈ as ++ [n], IsLit N k) (h : followsV N (cs ++ [c]) (as ++ [n]) = some v) :
    ∃ u, followsV N cs as = some u ∧ ∀ k ∈ litsTo u N, k ∈ litsTo v N := by
  obtain ⟨hcl, hf, _, hk⟩ := fol_parts hc hl h
  have hc1 : ∀ d ∈ cs, IsCl N d := fun d hd => hc d (by simp [hd])
  have hl1 : ∀ k ∈ as, IsLit N k := fun k hk => hl k (by simp [hk])
  obtain ⟨u, e, hu⟩ := fol_below (as := as) hc1 hf (fun d hd => hcl d (by simp [hd])) (fun k hk' => ⟨hl1 k hk', hk k (by simp [hk'])⟩)
  obtain ⟨_, hfu, _, _⟩ := fol_parts hc1 hl1 e
  refine ⟨u, e, fun k hk => ?_⟩
  obtain ⟨ha, hb⟩ := (litsTo_mem hfu (Nat.le_refl _) k).1 hk
  exact (litsTo_mem hf (Nat.le_refl _) k).2 ⟨ha, hu k ha hb⟩
end Qm
