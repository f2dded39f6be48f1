/-
  Plain: what spreads is sound: it holds in each model; a clause that follows at once holds.
-/
import Derived.Test.YtpkbncfnkgofmaaPlain
namespace Qm
def litHolds (m : List Bool) (n : Int) : Bool := m.getD (n.natAbs - 1) false == decide (0 < n)
def holdsF (m : List Bool) (cs : List (List Int)) : Bool := cs.all fun c => c.any (litHolds m)
theorem litHolds_neg (m : List Bool) {n : Int} (h : n ≠ 0) : litHolds m (-n) = !litHolds m n := by
  unfold litHolds
  rw [Int.natAbs_neg]
  have : decide (0 < -n) = !decide (0 < n) := by
    rw [Bool.eq_iff_iff]; simp; omega
  rw [this]
  cases m.getD (n.natAbs - 1) false <;> cases decide (0 < n) <;> rfl
def Agrees (N : Nat) (m : List Bool) (v : List Int) : Prop := ∀ n, IsLit N n → vof v n = 1 → litHolds m n = true
theorem Agrees.fails {N : Nat} {m : List Bool} {v : List Int} (h : Agrees N m v) {n : Int} (hn : IsLit N n) (hv : vof v n = -1) : litHolds m n = false := by
  have h1 : vof v (-n) = 1 := by rw [vof_neg v n hn.1, hv]; rfl
  have h2 := h (-n) ⟨by have := hn.1; omega, by rw [Int.natAbs_neg]; exact hn.2⟩ h1
  rw [litHolds_neg m hn.1] at h2; simpa using h2
theorem Agrees.zero (N : Nat) (m : List Bool) : Agrees N m (zeroVals N) := by
  intro n _ h
  have hz : ∀ k, (zeroVals N).getD k 0 = 0 := by
    intro k; rw [List.getD_eq_getElem?_getD, zeroVals, List.getElem?_replicate]; split <;> rfl
  unfold vof at h
  rw [hz, hz] at h
  split at h <;> omega
theorem Agrees.set {N : Nat} {m : List Bool} {v : List Int} (hf : Fine N v) (h : Agrees N m v) {n : Int} (hn : IsLit N n) (hm : litHolds m n = true) : Agrees N m (vset v n) := by
  intro k hk h1
  rw [vof_vset hf hn k hk.1] at h1
  split at h1
  · rename_i e; rw [e]; exact hm
  · split at h1
    · omega
    · exact h k hk h1
theorem scan_sound {N : Nat} {m : List Bool} {v c : List Int} (hf : Fine N v) (h : Agrees N m v) (hc : IsCl N c) (hh : c.any (litHolds m) = true) :
    (scan v c).2 ≠ 0 ∧ ((scan v c).2 = 1 → litHolds m (scan v c).1 = true) := by
  obtain ⟨x, hx, hxm⟩ := List.any_eq_true.1 hh
  rcases scan_cases v c with ⟨e, _⟩ | ⟨e, h2⟩ | ⟨e, h2, h3, h4⟩ | ⟨e, _⟩
  · exact ⟨by omega, by omega⟩
  · have := h2 x hx
    have hv : vof v x = -1 := by rcases vof_range hf x with a | a | a <;> omega
    rw [h.fails (hc x hx) hv] at hxm; cases hxm
  · refine ⟨by omega, fun _ => ?_⟩
    have := h4 x hx
    rcases vof_range hf x with a | a | a
    · rw [← this.2 a]; exact hxm
    · exact absurd a this.1
    · rw [h.fails (hc x hx) a] at hxm; cases hxm
  · exact ⟨by omega, by omega⟩
theorem passOne_sound {N : Nat} {m : List Bool} {v c : List Int} {b : Bool} (hf : Fine N v) (h : Agrees N m v) (hc : IsCl N c) (hh : c.any (litHolds m) = true) :
    ∃ v' b', passOne (some (v, b)) c = some (v', b') ∧ Fine N v' ∧ Agrees N m v' := by
  obtain ⟨h0, h1⟩ := scan_sound hf h hc hh
  by_cases e : (scan v c).2 = 1
  · exact ⟨_, _, passOne_unit e, vset_fine hf _, h.set hf (hc _ (scan_unit_mem e)) (h1 e)⟩
  · exact ⟨_, _, passOne_other h0 e, hf, h⟩
theorem pass_sound {N : Nat} {m : List Bool} {cs : List (List Int)} (hc : ∀ c ∈ cs, IsCl N c) (hh : holdsF m cs = true) : ∀ {v : List Int} {b : Bool}, Fine N v → Agrees N m v →
    ∃ v' b', cs.foldl passOne (some (v, b)) = some (v', b') ∧ Fine N v' ∧ Agrees N m v' := by
  induction cs with
  | nil => intro v b hf h; exact ⟨v, b, rfl, hf, h⟩
  | cons c cs ih =>
    intro v b hf h
    have hh' := List.all_eq_true.1 hh
    obtain ⟨v1, b1, e1, hf1, h1⟩ := passOne_sound (b := b) hf h (hc c (by simp)) (hh' c (by simp))
    rw [List.foldl_cons, e1]
    exact ih (fun d hd => hc d (by simp [hd])) (List.all_eq_true.2 fun d hd => hh' d (by simp [hd])) hf1 h1
theorem spreadN_sound {N : Nat} {m : List Bool} {cs : List (List Int)} (hc : ∀ c ∈ cs, IsCl N c) (hh : holdsF m cs = true) : ∀ (k : Nat) {v : List Int}, Fine N v → Agrees N m v →
    ∃ v', spreadN cs k v = some v' ∧ Fine N v' ∧ Agrees N m v' := by
  intro k
  induction k with
  | zero => intro v hf h; exact ⟨v, rfl, hf, h⟩
  | succ k ih =>
    intro v hf h
    obtain ⟨v1, b1, e1, hf1, h1⟩ := pass_sound hc hh (b := false) hf h
    have e1' : pass cs v = some (v1, b1) := e1
    simp only [spreadN, e1']
    cases b1 with
    | true => exact ih hf1 h1
    | false => exact ⟨v1, rfl, hf1, h1⟩
/-- WHAT SPREADS HOLDS in each model in which all clauses do, and what is known -/
theorem spread_sound {N : Nat} {m : List Bool} {cs : List (List Int)} (hc : ∀ c ∈ cs, IsCl N c) (hh : holdsF m cs = true) {v : List Int} (hf : Fine N v) (h : Agrees N m v) : ∃ v', spread cs v = some v' ∧ Fine N v' ∧ Agrees N m v' :=
  spreadN_sound hc hh _ hf h
theorem assume_sound {N : Nat} {m : List Bool} {ls : List Int} (hl : ∀ n ∈ ls, IsLit N n ∧ litHolds m n = true) : ∀ {v : List Int}, Fine N v → Agrees N m v → ∃ v', ls.foldl assume1 (some v) = some v' ∧ Fine N v' ∧ Agrees N m v' := by
  induction ls with
  | nil => intro v hf h; exact ⟨v, rfl, hf, h⟩
  | cons n ls ih =>
    intro v hf h
    obtain ⟨hn, hm⟩ := hl n (by simp)
    have hv : vof v n ≠ -1 := by intro e; rw [h.fails hn e] at hm; cases hm
    rw [List.foldl_cons]
    have : assume1 (some v) n = some (vset v n) := by simp only [assume1]; rw [if_neg hv]
    rw [this]
    exact ih (fun k hk => hl k (by simp [hk])) (vset_fine hf _) (h.set hf hn hm)
/-- A CLAUSE THAT FOLLOWS AT ONCE HOLDS in each model of those ahead of it -/
theorem rupStep_sound {N : Nat} {m : List Bool} {cs : List (List Int)} {c : List Int} (hc : ∀ c ∈ cs, IsCl N c) (hcl : IsCl N c) (hh : holdsF m cs = true) (hs : rupStep N cs c = true) : c.any (litHolds m) = true := by
  cases hn : c.any (litHolds m) with
  | true => rfl
  | false =>
    have hl : ∀ n ∈ c.map Neg.neg, IsLit N n ∧ litHolds m n = true := by
      intro n hn'
      obtain ⟨x, hx, rfl⟩ := List.mem_map.1 hn'
      have hx' := hcl x hx
      refine ⟨⟨by have := hx'.1; omega, by rw [Int.natAbs_neg]; exact hx'.2⟩, ?_⟩
      rw [litHolds_neg m hx'.1]
      have := List.any_eq_false.1 hn x hx
      simpa using this
    obtain ⟨v1, e1, hf1, h1⟩ := assume_sound hl (zeroVals_fine N) (Agrees.zero N m)
    obtain ⟨v2, e2, _, _⟩ := spread_sound hc hh hf1 h1
    have e1' : assume (c.map Neg.neg) (zeroVals N) = some v1 := e1
    unfold rupStep at hs
    rw [e1'] at hs
    simp only [e2] at hs
    cases hs
end Qm
