/-
  Plain: what spreads is the least that is closed: more clauses and more that is known give no less.
-/
import Derived.Test.YtpkbncfnkgofmaaPlain4
namespace Qm
def Le (N : Nat) (v w : List Int) : Prop := ∀ n, IsLit N n → vof v n = 1 → vof w n = 1
def Closed (cs : List (List Int)) (w : List Int) : Prop := ∀ c ∈ cs, (scan w c).2 ≠ 0 ∧ (scan w c).2 ≠ 1
theorem IsLit.neg {N : Nat} {n : Int} (h : IsLit N n) : IsLit N (-n) := ⟨by have := h.1; omega, by rw [Int.natAbs_neg]; exact h.2⟩
theorem Le.refl (N : Nat) (v : List Int) : Le N v v := fun _ _ h => h
theorem Le.trans {N : Nat} {a b c : List Int} (h : Le N a b) (k : Le N b c) : Le N a c := fun n hn h1 => k n hn (h n hn h1)
theorem Le.fails {N : Nat} {v w : List Int} (h : Le N v w) {n : Int} (hn : IsLit N n) (hv : vof v n = -1) : vof w n = -1 := by
  have h1 : vof v (-n) = 1 := by rw [vof_neg v n hn.1, hv]; rfl
  have h2 := h (-n) hn.neg h1
  rw [vof_neg w n hn.1] at h2; omega
theorem Le.set {N : Nat} {v w : List Int} (hf : Fine N v) (h : Le N v w) {n : Int} (hn : IsLit N n) (hw : vof w n = 1) : Le N (vset v n) w := by
  intro k hk h1
  rw [vof_vset hf hn k hk.1] at h1
  split at h1
  · rename_i e; rw [e]; exact hw
  · split at h1
    · omega
    · exact h k hk h1
theorem le_vset {N : Nat} {v : List Int} (hf : Fine N v) {n : Int} (hn : IsLit N n) (h : vof v n ≠ -1) : Le N v (vset v n) := by
  intro k hk h1
  rw [vof_vset hf hn k hk.1]
  split
  · rfl
  · split
    · rename_i e; rw [e, vof_neg v n hn.1] at h1; omega
    · exact h1
theorem le_zero (N : Nat) (w : List Int) : Le N (zeroVals N) w := by
  intro n _ h
  have hz : ∀ k, (zeroVals N).getD k 0 = 0 := by
    intro k; rw [List.getD_eq_getElem?_getD, zeroVals, List.getElem?_replicate]; split <;> rfl
  unfold vof at h
  rw [hz, hz] at h
  split at h <;> omega
/-- a scan of what is less -/
theorem scan_le {N : Nat} {v w c : List Int} (hv : Fine N v) (hw : Fine N w) (h : Le N v w) (hc : IsCl N c) (hcl : (scan w c).2 ≠ 0 ∧ (scan w c).2 ≠ 1) :
    (scan v c).2 ≠ 0 ∧ ((scan v c).2 = 1 → vof w (scan v c).1 = 1) := by
  rcases scan_cases v c with ⟨e, _⟩ | ⟨e, h2⟩ | ⟨e, h2, h3, h4⟩ | ⟨e, _⟩
  · exact ⟨by omega, by omega⟩
  · exfalso
    have hall : ∀ x ∈ c, vof w x = -1 := fun x hx => h.fails (hc x hx) (by have := h2 x hx; rcases vof_range hv x with a | a | a <;> omega)
    rcases scan_cases w c with ⟨_, x, hx, h1⟩ | ⟨e1, _⟩ | ⟨_, hm, hz, _⟩ | ⟨_, _, x, hx, _, _, _, hx0, _⟩
    · have := hall x hx; omega
    · exact hcl.1 e1
    · have := hall _ hm; omega
    · have := hall x hx; omega
  · refine ⟨by omega, fun _ => ?_⟩
    have hoth : ∀ x ∈ c, x ≠ (scan v c).1 → vof w x = -1 := fun x hx hne => h.fails (hc x hx) (by
      have := h4 x hx
      rcases vof_range hv x with a | a | a
      · exact absurd (this.2 a) hne
      · exact absurd a this.1
      · exact a)
    rcases vof_range hw (scan v c).1 with a | a | a
    · exfalso
      rcases scan_cases w c with ⟨_, x, hx, h1⟩ | ⟨e1, _⟩ | ⟨e1, _⟩ | ⟨_, _, x, hx, y, hy, hxy, hx0, hy0⟩
      · by_cases hxe : x = (scan v c).1
        · rw [hxe] at h1; omega
        · have := hoth x hx hxe; omega
      · exact hcl.1 e1
      · exact hcl.2 e1
      · by_cases hxe : x = (scan v c).1
        · have := hoth y hy (fun e => hxy (hxe.trans e.symm)); omega
        · have := hoth x hx hxe; omega
    · exact a
    · exfalso
      have hall : ∀ x ∈ c, vof w x = -1 := fun x hx => by
        by_cases hxe : x = (scan v c).1
        · rw [hxe]; exact a
        · exact hoth x hx hxe
      rcases scan_cases w c with ⟨_, x, hx, h1⟩ | ⟨e1, _⟩ | ⟨_, hm, hz, _⟩ | ⟨_, _, x, hx, _, _, _, hx0, _⟩
      · have := hall x hx; omega
      · exact hcl.1 e1
      · have := hall _ hm; omega
      · have := hall x hx; omega
  · exact ⟨by omega, by omega⟩
theorem passOne_le {N : Nat} {v w c : List Int} {b : Bool} (hv : Fine N v) (hw : Fine N w) (h : Le N v w) (hc : IsCl N c) (hcl : (scan w c).2 ≠ 0 ∧ (scan w c).2 ≠ 1) :
    ∃ v' b', passOne (some (v, b)) c = some (v', b') ∧ Fine N v' ∧ Le N v' w := by
  obtain ⟨h0, h1⟩ := scan_le hv hw h hc hcl
  by_cases e : (scan v c).2 = 1
  · exact ⟨_, _, passOne_unit e, vset_fine hv _, h.set hv (hc _ (scan_unit_mem e)) (h1 e)⟩
  · exact ⟨_, _, passOne_other h0 e, hv, h⟩
theorem pass_le {N : Nat} {w : List Int} {cs : List (List Int)} (hw : Fine N w) (hc : ∀ c ∈ cs, IsCl N c) (hcl : Closed cs w) : ∀ {v : List Int} {b : Bool}, Fine N v → Le N v w →
    ∃ v' b', cs.foldl passOne (some (v, b)) = some (v', b') ∧ Fine N v' ∧ Le N v' w := by
  induction cs with
  | nil => intro v b hf h; exact ⟨v, b, rfl, hf, h⟩
  | cons c cs ih =>
    intro v b hf h
    obtain ⟨v1, b1, e1, hf1, h1⟩ := passOne_le (b := b) hf hw h (hc c (by simp)) (hcl c (by simp))
    rw [List.foldl_cons, e1]
    exact ih (fun d hd => hc d (by simp [hd])) (fun d hd => hcl d (by simp [hd])) hf1 h1
theorem spreadN_le {N : Nat} {w : List Int} {cs : List (List Int)} (hw : Fine N w) (hc : ∀ c ∈ cs, IsCl N c) (hcl : Closed cs w) : ∀ (k : Nat) {v : List Int}, Fine N v → Le N v w →
    ∃ v', spreadN cs k v = some v' ∧ Le N v' w := by
  intro k
  induction k with
  | zero => intro v hf h; exact ⟨v, rfl, h⟩
  | succ k ih =>
    intro v hf h
    obtain ⟨v1, b1, e1, hf1, h1⟩ := pass_le hw hc hcl (b := false) hf h
    have e1' : pass cs v = some (v1, b1) := e1
    simp only [spreadN, e1']
    cases b1 with
    | true => exact ih hf1 h1
    | false => exact ⟨v1, rfl, h1⟩
/-- WHAT SPREADS STAYS BELOW whatever is closed -/
theorem spread_le {N : Nat} {w : List Int} {cs : List (List Int)} (hw : Fine N w) (hc : ∀ c ∈ cs, IsCl N c) (hcl : Closed cs w) {v : List Int} (hf : Fine N v) (h : Le N v w) : ∃ v', spread cs v = some v' ∧ Le N v' w :=
  spreadN_le hw hc hcl _ hf h

/-! what spreads is closed -/
theorem pass_true {cs : List (List Int)} {v v' : List Int} {b : Bool} (h : cs.foldl passOne (some (v, true)) = some (v', b)) : b = true := by
  induction cs generalizing v with
  | nil => simp at h; first | exact h.2.symm | exact h.2 | (obtain ⟨_, hb⟩ := h; exact hb ▸ rfl)
  | cons c cs ih =>
    rw [List.foldl_cons] at h
    cases hp : passOne (some (v, true)) c with
    | none => rw [hp, passOne_none] at h; cases h
    | some x =>
      obtain ⟨v1, b1⟩ := x
      have : b1 = true := by
        simp only [passOne] at hp
        split at hp
        · cases hp
        · split at hp
          · injection hp with hp; injection hp with _ hp; exact hp.symm
          · injection hp with hp; injection hp with _ hp; exact hp.symm
      subst this
      rw [hp] at h
      exact ih h
theorem pass_false {cs : List (List Int)} {v v' : List Int} (h : cs.foldl passOne (some (v, false)) = some (v', false)) : v' = v ∧ Closed cs v := by
  induction cs with
  | nil => simp at h; exact ⟨h.symm, fun c hc => by simp at hc⟩
  | cons c cs ih =>
    rw [List.foldl_cons] at h
    by_cases h0 : (scan v c).2 = 0
    · rw [passOne_fails h0, passOne_none] at h; cases h
    · by_cases h1 : (scan v c).2 = 1
      · rw [passOne_unit h1] at h
        have := pass_true h; cases this
      · rw [passOne_other h0 h1] at h
        obtain ⟨e, hcl⟩ := ih h
        refine ⟨e, fun d hd => ?_⟩
        rcases List.mem_cons.1 hd with rfl | hd
        · exact ⟨h0, h1⟩
        · exact hcl d hd
theorem passOne_grows {N : Nat} {v v' c : List Int} {b b' : Bool} (hv : Fine N v) (hc : IsCl N c) (h : passOne (some (v, b)) c = some (v', b')) : Le N v v' := by
  simp only [passOne] at h
  split at h
  · cases h
  · split at h
    · rename_i h0 h1
      injection h with h; injection h with ha _
      subst ha
      refine le_vset hv (hc _ (scan_unit_mem h1)) ?_
      rcases scan_cases v c with ⟨e, _⟩ | ⟨e, _⟩ | ⟨_, _, hz, _⟩ | ⟨e, _⟩ <;> omega
    · injection h with h; injection h with ha _
      subst ha; exact Le.refl N _
theorem pass_grows {N : Nat} {cs : List (List Int)} (hc : ∀ c ∈ cs, IsCl N c) : ∀ {v v' : List Int} {b b' : Bool}, Fine N v → cs.foldl passOne (some (v, b)) = some (v', b') → Le N v v' := by
  induction cs with
  | nil => intro v v' b b' _ h; simp at h; rw [h.1]; exact Le.refl N _
  | cons c cs ih =>
    intro v v' b b' hf h
    rw [List.foldl_cons] at h
    cases hp : passOne (some (v, b)) c with
    | none => rw [hp, passOne_none] at h; cases h
    | some x =>
      obtain ⟨v1, b1⟩ := x
      rw [hp] at h
      exact (passOne_grows hf (hc c (by simp)) hp).trans (ih (fun d hd => hc d (by simp [hd])) (passOne_ok hf (hc c (by simp)) hp).1 h)
theorem spreadN_closed {N : Nat} {cs : List (List Int)} (hc : ∀ c ∈ cs, IsCl N c) : ∀ (k : Nat) {v v' : List Int}, Fine N v → zeros v < k → spreadN cs k v = some v' → Closed cs v' ∧ Le N v v' := by
  intro k
  induction k with
  | zero => intro v v' _ hk; omega
  | succ k ih =>
    intro v v' hf hk h
    simp only [spreadN] at h
    cases hp : pass cs v with
    | none => rw [hp] at h; cases h
    | some x =>
      obtain ⟨v1, b⟩ := x
      rw [hp] at h
      have hok := pass_ok hc hf hp
      have hgr := pass_grows hc hf hp
      cases b with
      | true =>
        rcases hok.2 with ⟨_, h1⟩ | ⟨h1, _⟩
        · cases h1
        · obtain ⟨h2, h3⟩ := ih hok.1 (by omega) h
          exact ⟨h2, hgr.trans h3⟩
      | false =>
        simp at h; subst h
        obtain ⟨e, hcl⟩ := pass_false hp
        subst e
        exact ⟨hcl, Le.refl N _⟩
/-- WHAT SPREADS IS CLOSED, and no less -/
theorem spread_closed {N : Nat} {cs : List (List Int)} (hc : ∀ c ∈ cs, IsCl N c) {v v' : List Int} (hf : Fine N v) (h : spread cs v = some v') : Closed cs v' ∧ Le N v v' ∧ Fine N v' :=
  let ⟨a, b⟩ := spreadN_closed hc _ hf (Nat.lt_succ_self _) h
  ⟨a, b, spread_fine hc hf h⟩
theorem pass_of_closed {cs : List (List Int)} {v : List Int} (h : Closed cs v) : pass cs v = some (v, false) := by
  unfold pass
  induction cs with
  | nil => rfl
  | cons c cs ih =>
    rw [List.foldl_cons, passOne_other (h c (by simp)).1 (h c (by simp)).2]
    exact ih (fun d hd => h d (by simp [hd]))
theorem spread_of_closed {cs : List (List Int)} {v : List Int} (h : Closed cs v) : spread cs v = some v := by
  unfold spread
  simp only [spreadN, pass_of_closed h]
  rfl
/-- one of two known worlds that are each below the other -/
theorem eq_of_le {N : Nat} {v w : List Int} (hv : Fine N v) (hw : Fine N w) (h : Le N v w) (k : Le N w v) (h0 : v.getD 0 0 = w.getD 0 0) : v = w := by
  apply List.ext_getElem (by rw [hv.1, hw.1])
  intro i h1 h2
  by_cases hi : i = 0
  · subst hi
    simpa [List.getD_eq_getElem?_getD, List.getElem?_eq_getElem h1, List.getElem?_eq_getElem h2] using h0
  · have hl : IsLit N (i : Int) := ⟨by omega, by have := hv.1; omega⟩
    have e1 : vof v i = v[i] := by unfold vof; rw [if_neg (by omega)]; simp [List.getD_eq_getElem?_getD, List.getElem?_eq_getElem h1]
    have e2 : vof w i = w[i] := by unfold vof; rw [if_neg (by omega)]; simp [List.getD_eq_getElem?_getD, List.getElem?_eq_getElem h2]
    rw [← e1, ← e2]
    rcases vof_range hv i with a | a | a
    · rcases vof_range hw i with b | b | b
      · omega
      · have := k i hl b; omega
      · have := k.fails hl b; omega
    · rw [a, h i hl a]
    · rw [a, h.fails hl a]
/-- assumed literals are known -/
theorem assume_known {N : Nat} {ls : List Int} (hl : ∀ n ∈ ls, IsLit N n) : ∀ {v v' : List Int}, Fine N v → ls.foldl assume1 (some v) = some v' → Fine N v' ∧ Le N v v' ∧ ∀ n ∈ ls, vof v' n = 1 := by
  induction ls with
  | nil => intro v v' hf h; simp at h; subst h; exact ⟨hf, Le.refl N _, fun n hn => by simp at hn⟩
  | cons n ls ih =>
    intro v v' hf h
    rw [List.foldl_cons] at h
    have hn := hl n (by simp)
    by_cases hv : vof v n = -1
    · have : assume1 (some v) n = none := by simp only [assume1]; rw [if_pos hv]
      rw [this, assume1_none] at h; cases h
    · have : assume1 (some v) n = some (vset v n) := by simp only [assume1]; rw [if_neg hv]
      rw [this] at h
      obtain ⟨h1, h2, h3⟩ := ih (fun k hk => hl k (by simp [hk])) (vset_fine hf _) h
      refine ⟨h1, (le_vset hf hn hv).trans h2, fun k hk => ?_⟩
      rcases List.mem_cons.1 hk with rfl | hk
      · exact h2 k hn (by rw [vof_vset hf hn k hn.1, if_pos rfl])
      · exact h3 k hk
/-- what holds in a known world can be assumed, and stays below it -/
theorem assume_le {N : Nat} {w : List Int} {ls : List Int} (hl : ∀ n ∈ ls, IsLit N n ∧ vof w n = 1) : ∀ {v : List Int}, Fine N v → Le N v w → ∃ v', ls.foldl assume1 (some v) = some v' ∧ Fine N v' ∧ Le N v' w := by
  induction ls with
  | nil => intro v hf h; exact ⟨v, rfl, hf, h⟩
  | cons n ls ih =>
    intro v hf h
    obtain ⟨hn, hm⟩ := hl n (by simp)
    have hv : vof v n ≠ -1 := by intro e; have := h.fails hn e; omega
    rw [List.foldl_cons]
    have : assume1 (some v) n = some (vset v n) := by simp only [assume1]; rw [if_neg hv]
    rw [this]
    exact ih (fun k hk => hl k (by simp [hk])) (vset_fine hf _) (h.set hf hn hm)
end Qm
