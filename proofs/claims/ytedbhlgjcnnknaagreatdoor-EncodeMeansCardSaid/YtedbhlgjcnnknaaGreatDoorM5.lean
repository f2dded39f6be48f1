/- Parts of the proof: walks and plain laws, side by side. -/
import Derived.Test.YtedbhlgjcnnknaaGreatDoorM4
import Init.Data.List
set_option linter.unusedVariables false
set_option linter.unusedSimpArgs false
set_option linter.unusedSectionVars false
/-
 Plain: a clause follows at once just where no closed world has it fail; so more clauses do no harm.
-/
namespace Qm
theorem rupStep_iff {N : Nat} {cs : List (List Int)} {c : List Int} (hc : ∀ d ∈ cs, IsCl N d) (hl : IsCl N c) : rupStep N cs c = true ↔ ¬ ∃ w, Fine N w ∧ Closed cs w ∧ ∀ x ∈ c, vof w x = -1 := by
 have hneg : ∀ n ∈ c.map Neg.neg, IsLit N n := by
  intro n hn
  obtain ⟨x, hx, rfl⟩ := List.mem_map.1 hn
  exact (hl x hx).neg
 constructor
 ·rintro h ⟨w, hw, hcl, hf⟩
  obtain ⟨v1, e1, hf1, h1⟩ := assume_le (ls := c.map Neg.neg) (fun n hn => ⟨hneg n hn, by
   obtain ⟨x, hx, rfl⟩ := List.mem_map.1 hn
   rw [vof_neg w x (hl x hx).1, hf x hx]; rfl⟩) (zeroVals_fine N) (le_zero N w)
  obtain ⟨v2, e2, _⟩ := spread_le hw hc hcl hf1 h1
  have e1' : assume (c.map Neg.neg) (zeroVals N) = some v1 := e1
  unfold rupStep at h
  rw [e1'] at h
  simp only [e2] at h
  cases h
 ·intro h
  cases hs : rupStep N cs c with
  | true => rfl
  | false =>
   exfalso; apply h
   unfold rupStep at hs
   cases ha : assume (c.map Neg.neg) (zeroVals N) with
   | none => rw [ha] at hs; cases hs
   | some v1 =>
    rw [ha] at hs
    have ha' : (c.map Neg.neg).foldl assume1 (some (zeroVals N)) = some v1 := ha
    obtain ⟨hf1, _, hk⟩ := assume_known hneg (zeroVals_fine N) ha'
    cases hsp : spread cs v1 with
    | none => simp [hsp] at hs
    | some v2 =>
     obtain ⟨h1, h2, h3⟩ := spread_closed hc hf1 hsp
     refine ⟨v2, h3, h1, fun x hx => ?_⟩
     have h4 := h2 (-x) (hl x hx).neg (hk (-x) (List.mem_map.2 ⟨x, hx, rfl⟩))
     rw [vof_neg v2 x (hl x hx).1] at h4; omega
theorem rupStep_mono {N : Nat} {cs cs' : List (List Int)} {c : List Int} (hc : ∀ d ∈ cs', IsCl N d) (hl : IsCl N c) (hs : ∀ d ∈ cs, d ∈ cs') (h : rupStep N cs c = true) : rupStep N cs' c = true := by
 rw [rupStep_iff (fun d hd => hc d (hs d hd)) hl] at h
 rw [rupStep_iff hc hl]
 rintro ⟨w, hw, hcl, hf⟩
 exact h ⟨w, hw, fun d hd => hcl d (hs d hd), hf⟩
def Steps (N : Nat) (cs pf : List (List Int)) : Prop := ∀ k, k < pf.length → rupStep N (cs ++ pf.take k) (pf.getD k []) = true
theorem getD_in {pf : List (List Int)} {k : Nat} (h : k < pf.length) : pf.getD k [] ∈ pf := by
 rw [List.getD_eq_getElem?_getD, List.getElem?_eq_getElem h]; exact List.getElem_mem _
theorem Steps.mono {N : Nat} {cs cs' pf : List (List Int)} (hc : ∀ d ∈ cs', IsCl N d) (hp : ∀ d ∈ pf, IsCl N d) (hs : ∀ d ∈ cs, d ∈ cs') (h : Steps N cs pf) : Steps N cs' pf := by
 intro k hk
 refine rupStep_mono (fun d hd => ?_) (hp _ (getD_in hk)) (fun d hd => ?_) (h k hk)
 ·rcases List.mem_append.1 hd with hd | hd
  ·exact hc d hd
  ·exact hp d (List.mem_of_mem_take hd)
 ·rcases List.mem_append.1 hd with hd | hd
  ·exact List.mem_append_left _ (hs d hd)
  ·exact List.mem_append_right _ hd
end Qm

/-
 Plain: the search: a model, the least; or a proof; or too few steps. Two ways to spread come to the same.
-/
namespace Qm
inductive Res where
 | out : Res
 | found : List Bool → Res
 | no : Nat → List (List Int) → Res
def idx0 (v : List Int) : Option Nat := (v.drop 1).findIdx? (fun x => 0 == x)
def boolsOf (v : List Int) : List Bool := (v.drop 1).map (fun n => decide (0 < n))
def search (cs : List (List Int)) : Nat → Nat → List (List Int) → List Int → List Int → Res
 | 0, _, _, _, _ => .out
 | g + 1, st, pf, tk, v =>
  if st = 0 ∨ 60 < tk.length then .out
  else match spread cs v with
   | none => .no (st - 1) (pf ++ [tk.map Neg.neg])
   | some v' => match idx0 v' with
    | none => .found (boolsOf v')
    | some i => match search cs g (st - 1) pf (tk ++ [-((i : Int) + 1)]) (vset v' (-((i : Int) + 1))) with
     | .out => .out
     | .found m => .found m
     | .no st1 pf1 => match search cs g st1 pf1 (tk ++ [(i : Int) + 1]) (vset v' ((i : Int) + 1)) with
      | .out => .out
      | .found m => .found m
      | .no st2 pf2 => .no st2 (pf2 ++ [tk.map Neg.neg])
theorem idx0_some {N : Nat} {v : List Int} (hf : Fine N v) {i : Nat} (h : idx0 v = some i) : i < N ∧ v.getD (i + 1) 0 = 0 ∧ ∀ j, j < i → v.getD (j + 1) 0 ≠ 0 := by
 unfold idx0 at h
 rw [List.findIdx?_eq_some_iff_getElem] at h
 obtain ⟨hl, h0, hb⟩ := h
 have hlen := hf.1
 rw [List.length_drop] at hl
 refine ⟨by omega, ?_, fun j hj => ?_⟩
 ·rw [List.getD_eq_getElem?_getD, List.getElem?_eq_getElem (by omega)]
  have : 0 = v[i + 1]'(by omega) := by simpa using h0
  exact this.symm
 ·rw [List.getD_eq_getElem?_getD, List.getElem?_eq_getElem (by omega)]
  have := hb j hj
  intro e
  apply this
  simp only [List.getElem_drop, beq_iff_eq]
  simp only [Nat.add_comm j 1] at e
  exact e.symm
theorem idx0_none {N : Nat} {v : List Int} (hf : Fine N v) (h : idx0 v = none) : ∀ j, j < N → v.getD (j + 1) 0 ≠ 0 := by
 unfold idx0 at h
 rw [List.findIdx?_eq_none_iff] at h
 intro j hj e
 have hlen := hf.1
 rw [List.getD_eq_getElem?_getD, List.getElem?_eq_getElem (by omega)] at e
 have hm : v[j + 1]'(by omega) ∈ v.drop 1 := by
  rw [List.mem_iff_getElem]
  exact ⟨j, by rw [List.length_drop]; omega, by simp only [List.getElem_drop, Nat.add_comm 1 j]⟩
 have := h _ hm
 simp only [Option.getD_some] at e
 rw [e] at this
 simp at this
theorem vof_pos (v : List Int) (j : Nat) : vof v ((j : Int) + 1) = v.getD (j + 1) 0 := by unfold vof; rw [if_neg (by omega)]; congr 1
/-! confluence -/
/-! what is found -/
def LexLe (m m' : List Bool) : Prop := ∀ k, (∀ j, j < k → m.getD j false = m'.getD j false) → m.getD k false ≠ m'.getD k false → m.getD k false = false
theorem boolsOf_len {N : Nat} {v : List Int} (hf : Fine N v) : (boolsOf v).length = N := by unfold boolsOf; rw [List.length_map, List.length_drop, hf.1]; omega
theorem boolsOf_at {N : Nat} {v : List Int} (hf : Fine N v) {j : Nat} (hj : j < N) : (boolsOf v).getD j false = decide (0 < v.getD (j + 1) 0) := by
 have hlen := hf.1
 unfold boolsOf
 rw [List.getD_eq_getElem?_getD, List.getD_eq_getElem?_getD, List.getElem?_map, List.getElem?_drop, List.getElem?_eq_getElem (by omega), List.getElem?_eq_getElem (by omega)]
 simp only [Option.map_some, Option.getD_some, Nat.add_comm 1 j]
theorem boolsOf_lit {N : Nat} {v : List Int} (hf : Fine N v) (ht : ∀ j, j < N → v.getD (j + 1) 0 ≠ 0) {n : Int} (hn : IsLit N n) (h : vof v n = 1) : litHolds (boolsOf v) n = true := by
 obtain ⟨h0, h1⟩ := hn
 obtain ⟨j, hj⟩ : ∃ j : Nat, n.natAbs = j + 1 := ⟨n.natAbs - 1, by omega⟩
 have hjN : j < N := by omega
 unfold litHolds
 have e1 : n.natAbs - 1 = j := by omega
 rw [e1, boolsOf_at hf hjN]
 have hp := vof_pos v j
 by_cases hn0 : 0 < n
 ·have e : n = (j : Int) + 1 := by omega
  rw [e, hp] at h
  rw [h, e]
  have : decide (0 < (j : Int) + 1) = true := decide_eq_true (by omega)
  rw [this]; rfl
 ·have e : n = -((j : Int) + 1) := by omega
  have hneg := vof_neg v ((j : Int) + 1) (by omega)
  rw [e, hneg, hp] at h
  have h' : v.getD (j + 1) 0 = -1 := by omega
  rw [h', e]
  have : decide (0 < -((j : Int) + 1)) = false := decide_eq_false (by omega)
  rw [this]; rfl
theorem total_holds {N : Nat} {cs : List (List Int)} (hc : ∀ c ∈ cs, IsCl N c) {v : List Int} (hf : Fine N v) (hcl : Closed cs v) (ht : ∀ j, j < N → v.getD (j + 1) 0 ≠ 0) : holdsF (boolsOf v) cs = true := by
 unfold holdsF
 rw [List.all_eq_true]
 intro c hcc
 have hz : ∀ x ∈ c, vof v x ≠ 0 := by
  intro x hx e
  obtain ⟨h0, h1⟩ := hc c hcc x hx
  obtain ⟨j, hj⟩ : ∃ j : Nat, x.natAbs = j + 1 := ⟨x.natAbs - 1, by omega⟩
  have := ht j (by omega)
  have hp := vof_pos v j
  by_cases hn0 : 0 < x
  ·have e' : x = (j : Int) + 1 := by omega
   rw [e', hp] at e; exact this e
  ·have e' : x = -((j : Int) + 1) := by omega
   rw [e', vof_neg v _ (by omega), hp] at e; omega
 rcases scan_cases v c with ⟨_, x, hx, h1⟩ | ⟨e, _⟩ | ⟨e, _⟩ | ⟨_, _, x, hx, _, _, _, hx0, _⟩
 ·exact List.any_eq_true.2 ⟨x, hx, boolsOf_lit hf ht (hc c hcc x hx) h1⟩
 ·exact absurd e (hcl c hcc).1
 ·exact absurd e (hcl c hcc).2
 ·exact absurd hx0 (hz x hx)
/-! what is proved -/
end Qm

/- Plain: formulas built of gates over some choices: choices settle all; a gate's literal holds just if all of some literals do. No program in sight. -/
namespace Qm

def gate (v : Int) (l : List Int) : List (List Int) := l.map (fun n => [-v, n]) ++ [v :: l.map Neg.neg]
theorem holdsF_iff {m : List Bool} {cs : List (List Int)} : holdsF m cs = true ↔ ∀ c ∈ cs, c.any (litHolds m) = true := by
 unfold holdsF; rw [List.all_eq_true]
theorem gate_means {m : List Bool} {v : Int} {l : List Int} (hv : v ≠ 0) (hl : ∀ n ∈ l, n ≠ 0) : holdsF m (gate v l) = true ↔ litHolds m v = l.all (litHolds m) := by
 rw [holdsF_iff]
 unfold gate
 constructor
 ·intro h
  rw [Bool.eq_iff_iff, List.all_eq_true]
  constructor
  ·intro hv1 n hn
   have := h [-v, n] (List.mem_append_left _ (List.mem_map.2 ⟨n, hn, rfl⟩))
   simp only [List.any_cons, List.any_nil, Bool.or_false, litHolds_neg m hv, hv1, Bool.not_true, Bool.false_or] at this
   exact this
  ·intro ha
   have := h (v :: l.map Neg.neg) (List.mem_append_right _ (List.mem_singleton.2 rfl))
   rw [List.any_cons, Bool.or_eq_true] at this
   rcases this with h1 | h1
   ·exact h1
   ·obtain ⟨x, hx, hx1⟩ := List.any_eq_true.1 h1
    obtain ⟨n, hn, rfl⟩ := List.mem_map.1 hx
    rw [litHolds_neg m (hl n hn), ha n hn] at hx1
    cases hx1
 ·intro h c hc
  rcases List.mem_append.1 hc with hc | hc
  ·obtain ⟨n, hn, rfl⟩ := List.mem_map.1 hc
   simp only [List.any_cons, List.any_nil, Bool.or_false, litHolds_neg m hv]
   cases hvv : litHolds m v
   ·rfl
   ·rw [hvv] at h
    rw [List.all_eq_true.1 h.symm n hn]; rfl
  ·rw [List.mem_singleton.1 hc, List.any_cons]
   cases hvv : litHolds m v
   ·rw [hvv] at h
    rw [Bool.false_or, List.any_eq_true]
    obtain ⟨n, hn, hn1⟩ := List.all_eq_false.1 h.symm
    exact ⟨-n, List.mem_map.2 ⟨n, hn, rfl⟩, by rw [litHolds_neg m (hl n hn)]; simpa using hn1⟩
   ·rfl

inductive Built (M : Nat) : Nat → List (List Int) → List (List Int) → List (List Int) → Prop
 | nil : Built M M [] [] []
 | gate {v : Nat} {cs gs hs : List (List Int)} {l : List Int} : Built M v cs gs hs → (∀ n ∈ l, IsLit v n) → Built M (v + 1) (cs ++ gate ((v : Int) + 1) l) (gs ++ gate ((v : Int) + 1) l) hs
 | hard {v : Nat} {cs gs hs : List (List Int)} {c : List Int} : Built M v cs gs hs → IsCl v c → Built M v (cs ++ [c]) gs (hs ++ [c])
theorem IsLit.up {N N' : Nat} {n : Int} (h : IsLit N n) (hN : N ≤ N') : IsLit N' n := ⟨h.1, by have := h.2; omega⟩
section
variable {M v : Nat} {cs gs hs : List (List Int)}
theorem Built.le (h : Built M v cs gs hs) : M ≤ v := by
 induction h with
 | nil => exact Nat.le_refl _
 | gate _ _ ih => omega
 | hard _ _ ih => exact ih
theorem gate_cl {v : Nat} {l : List Int} (hl : ∀ n ∈ l, IsLit v n) : ∀ c ∈ gate ((v : Int) + 1) l, IsCl (v + 1) c := by
 intro c hc n hn
 have hv : IsLit (v + 1) ((v : Int) + 1) := ⟨by omega, by omega⟩
 rcases List.mem_append.1 hc with hc | hc
 ·obtain ⟨x, hx, rfl⟩ := List.mem_map.1 hc
  rcases List.mem_cons.1 hn with rfl | hn
  ·exact hv.neg
  ·rw [List.mem_singleton.1 hn]; exact (hl x hx).up (by omega)
 ·rw [List.mem_singleton.1 hc] at hn
  rcases List.mem_cons.1 hn with rfl | hn
  ·exact hv
  ·obtain ⟨x, hx, rfl⟩ := List.mem_map.1 hn
   exact ((hl x hx).neg).up (by omega)
theorem Built.cl (h : Built M v cs gs hs) : ∀ c ∈ cs, IsCl v c := by
 induction h with
 | nil => intro c hc; cases hc
 | gate _ hl ih =>
  intro c hc
  rcases List.mem_append.1 hc with hc | hc
  ·exact fun n hn => (ih c hc n hn).up (by omega)
  ·exact gate_cl hl c hc
 | hard _ hcl ih =>
  intro c hc
  rcases List.mem_append.1 hc with hc | hc
  ·exact ih c hc
  ·rw [List.mem_singleton.1 hc]; exact hcl
theorem Built.mem (h : Built M v cs gs hs) : ∀ c, c ∈ cs ↔ c ∈ gs ∨ c ∈ hs := by
 induction h with
 | nil => intro c; simp
 | gate _ _ ih => intro c; rw [List.mem_append, List.mem_append, ih c]; exact ⟨fun h => h.elim (fun h => h.elim (fun h => .inl (.inl h)) .inr) (fun h => .inl (.inr h)), fun h => h.elim (fun h => h.elim (fun h => .inl (.inl h)) .inr) (fun h => .inl (.inr h))⟩
 | hard _ _ ih => intro c; rw [List.mem_append, List.mem_append, ih c]; exact ⟨fun h => h.elim (fun h => h.elim .inl (fun h => .inr (.inl h))) (fun h => .inr (.inr h)), fun h => h.elim (fun h => .inl (.inl h)) (fun h => h.elim (fun h => .inl (.inr h)) .inr)⟩
theorem Built.holds (h : Built M v cs gs hs) {m : List Bool} : holdsF m cs = true ↔ holdsF m gs = true ∧ holdsF m hs = true := by
 rw [holdsF_iff, holdsF_iff, holdsF_iff]
 constructor
 ·intro g; exact ⟨fun c hc => g c ((h.mem c).2 (.inl hc)), fun c hc => g c ((h.mem c).2 (.inr hc))⟩
 ·rintro ⟨g1, g2⟩ c hc
  rcases (h.mem c).1 hc with hc | hc
  ·exact g1 c hc
  ·exact g2 c hc
theorem litHolds_take {m m' : List Bool} {k : Nat} (he : ∀ j, j < k → m.getD j false = m'.getD j false) {n : Int} (hn : IsLit k n) : litHolds m n = litHolds m' n := by
 unfold litHolds
 rw [he _ (by have := hn.1; have := hn.2; omega)]
theorem holdsF_take_eq {m m' : List Bool} {k : Nat} (he : ∀ j, j < k → m.getD j false = m'.getD j false) {cs : List (List Int)} (hc : ∀ c ∈ cs, IsCl k c) : holdsF m cs = holdsF m' cs := by
 rw [Bool.eq_iff_iff, holdsF_iff, holdsF_iff]
 have key : ∀ c ∈ cs, c.any (litHolds m) = c.any (litHolds m') := by
  intro c hcc
  rw [Bool.eq_iff_iff, List.any_eq_true, List.any_eq_true]
  constructor
  ·rintro ⟨n, hn, h⟩; exact ⟨n, hn, by rw [← litHolds_take he (hc c hcc n hn)]; exact h⟩
  ·rintro ⟨n, hn, h⟩; exact ⟨n, hn, by rw [litHolds_take he (hc c hcc n hn)]; exact h⟩
 constructor
 ·intro h c hcc; rw [← key c hcc]; exact h c hcc
 ·intro h c hcc; rw [key c hcc]; exact h c hcc
theorem Built.gcl (h : Built M v cs gs hs) : ∀ c ∈ gs, IsCl v c := fun c hc => h.cl c ((h.mem c).2 (.inl hc))
theorem getD_app_left {α : Type} {d : α} {l r : List α} {j : Nat} (hj : j < l.length) : (l ++ r).getD j d = l.getD j d := by
 rw [List.getD_eq_getElem?_getD, List.getD_eq_getElem?_getD, List.getElem?_append_left hj]
theorem Built.ext (h : Built M v cs gs hs) (m0 : List Bool) (h0 : m0.length = M) : ∃ m : List Bool, m.length = v ∧ (∀ j, j < M → m.getD j false = m0.getD j false) ∧ holdsF m gs = true := by
 induction h with
 | nil => exact ⟨m0, h0, fun _ _ => rfl, rfl⟩
 | @gate v cs gs hs l hb hl ih =>
  obtain ⟨m, h1, h2, h3⟩ := ih
  have hagree : ∀ j, j < v → (m ++ [l.all (litHolds m)]).getD j false = m.getD j false := fun j hj => getD_app_left (by omega)
  refine ⟨m ++ [l.all (litHolds m)], by simp [h1], fun j hj => ?_, ?_⟩
  ·rw [hagree j (Nat.lt_of_lt_of_le hj hb.le), h2 j hj]
  ·have e1 : holdsF (m ++ [l.all (litHolds m)]) gs = true := by rw [holdsF_take_eq hagree hb.gcl]; exact h3
   have e2 : holdsF (m ++ [l.all (litHolds m)]) (Qm.gate ((v : Int) + 1) l) = true := by
    rw [gate_means (by omega) (fun n hn => (hl n hn).1)]
    have : l.all (litHolds (m ++ [l.all (litHolds m)])) = l.all (litHolds m) := by
     rw [Bool.eq_iff_iff, List.all_eq_true, List.all_eq_true]
     constructor
     ·intro g n hn; rw [← litHolds_take hagree (hl n hn)]; exact g n hn
     ·intro g n hn; rw [litHolds_take hagree (hl n hn)]; exact g n hn
    rw [this]
    generalize l.all (litHolds m) = b
    unfold litHolds
    have hi : ((v : Int) + 1).natAbs - 1 = v := by omega
    rw [hi, List.getD_eq_getElem?_getD, List.getElem?_append_right (by omega), h1, Nat.sub_self]
    have hp : (0 : Int) < (v : Int) + 1 := by omega
    rw [decide_eq_true hp]
    cases b <;> rfl
   rw [holdsF_iff] at e1 e2 ⊢
   intro c hc
   rcases List.mem_append.1 hc with hc | hc
   ·exact e1 c hc
   ·exact e2 c hc
 | hard _ _ ih => exact ih
theorem Built.one_ (h : Built M v cs gs hs) {m m' : List Bool} (he : ∀ j, j < M → m.getD j false = m'.getD j false) (h1 : holdsF m gs = true) (h2 : holdsF m' gs = true) : ∀ j, j < v → m.getD j false = m'.getD j false := by
 induction h with
 | nil => exact he
 | @gate v cs gs hs l hb hl ih =>
  have s1 := holdsF_iff.1 h1
  have s2 := holdsF_iff.1 h2
  have ih := ih (holdsF_iff.2 fun c hc => s1 c (List.mem_append_left _ hc)) (holdsF_iff.2 fun c hc => s2 c (List.mem_append_left _ hc))
  intro j hj
  by_cases e : j = v
  ·have g1 := (gate_means (m := m) (v := (v : Int) + 1) (l := l) (by omega) (fun n hn => (hl n hn).1)).1 (holdsF_iff.2 fun c hc => s1 c (List.mem_append_right _ hc))
   have g2 := (gate_means (m := m') (v := (v : Int) + 1) (l := l) (by omega) (fun n hn => (hl n hn).1)).1 (holdsF_iff.2 fun c hc => s2 c (List.mem_append_right _ hc))
   have : l.all (litHolds m) = l.all (litHolds m') := by
    rw [Bool.eq_iff_iff, List.all_eq_true, List.all_eq_true]
    constructor
    ·intro g n hn; rw [← litHolds_take ih (hl n hn)]; exact g n hn
    ·intro g n hn; rw [litHolds_take ih (hl n hn)]; exact g n hn
   rw [this, ← g2] at g1
   unfold litHolds at g1
   have hi : ((v : Int) + 1).natAbs - 1 = v := by omega
   have hp : (0 : Int) < (v : Int) + 1 := by omega
   rw [hi, decide_eq_true hp] at g1
   subst e
   cases h5 : m.getD j false <;> cases h6 : m'.getD j false <;> rw [h5, h6] at g1 <;> first | rfl | (exact absurd g1 (by decide))
  ·exact ih j (by omega)
 | hard _ _ ih => exact ih h1 h2

/-! ### spreading settles all -/
theorem scan_inv0 (w c : List Int) : ScanSays w c (scan w c) := by
 have := scan_inv w c [] (0, 0) (.inr (.inl ⟨rfl, fun x hx => by cases hx⟩))
 simpa [scan] using this
theorem Built.total {N : Nat} {w : List Int} (hw : Fine N w) (h : Built M v cs gs hs) (hv : v ≤ N) (hcl : Closed cs w) (h0 : ∀ j, j < M → w.getD (j + 1) 0 ≠ 0) : ∀ j, j < v → w.getD (j + 1) 0 ≠ 0 := by
 induction h with
 | nil => exact h0
 | @gate v cs gs hs l hb hl ih =>
  have ih := ih (by omega) (fun c hc => hcl c (List.mem_append_left _ hc))
  intro j hj
  by_cases e : j = v
  ·subst e
   have hlit : ∀ n ∈ l, vof w n = 1 ∨ vof w n = -1 := by
    intro n hn
    have hn1 := hl n hn
    have : vof w n ≠ 0 := by
     unfold vof
     by_cases hneg : n < 0
     ·rw [if_pos hneg]
      have := ih ((-n).toNat - 1) (by have := hn1.2; omega)
      have e1 : (-n).toNat - 1 + 1 = (-n).toNat := by omega
      rw [e1] at this; omega
     ·rw [if_neg hneg]
      have := ih (n.toNat - 1) (by have := hn1.1; have := hn1.2; omega)
      have e1 : n.toNat - 1 + 1 = n.toNat := by have := hn1.1; omega
      rw [e1] at this; exact this
    rcases vof_range hw n with h | h | h
    ·exact absurd h this
    ·exact .inl h
    ·exact .inr h
   intro hz
   have hvz : vof w ((j : Int) + 1) = 0 := by rw [vof_pos]; exact hz
   have hvn : vof w (-((j : Int) + 1)) = 0 := by rw [vof_neg w _ (by omega), hvz]; rfl
   by_cases ha : ∃ n ∈ l, vof w n = -1
   ·obtain ⟨n, hn, hn1⟩ := ha
    have hc := hcl [-((j : Int) + 1), n] (List.mem_append_right _ (List.mem_append_left _ (List.mem_map.2 ⟨n, hn, rfl⟩)))
    rcases scan_inv0 w [-((j : Int) + 1), n] with ⟨_, x, hx, hx1⟩ | ⟨h2, _⟩ | ⟨h2, _⟩ | ⟨_, _, x, hx, y, hy, hxy, hx0, hy0⟩
    ·rcases List.mem_cons.1 hx with rfl | hx
     ·rw [hvn] at hx1; cases hx1
     ·rw [List.mem_singleton.1 hx, hn1] at hx1; cases hx1
    ·exact hc.1 h2
    ·exact hc.2 h2
    ·have g : ∀ z ∈ [-((j : Int) + 1), n], vof w z = 0 → z = -((j : Int) + 1) := by
      intro z hz hz0
      rcases List.mem_cons.1 hz with rfl | hz
      ·rfl
      ·rw [List.mem_singleton.1 hz, hn1] at hz0; cases hz0
     exact hxy ((g x hx hx0).trans (g y hy hy0).symm)
   ·have hall : ∀ n ∈ l, vof w (-n) = -1 := by
     intro n hn
     rw [vof_neg w n (hl n hn).1]
     rcases hlit n hn with h | h
     ·rw [h]
     ·exact absurd ⟨n, hn, h⟩ ha
    have hc := hcl (((j : Int) + 1) :: l.map Neg.neg) (List.mem_append_right _ (List.mem_append_right _ (List.mem_singleton.2 rfl)))
    have g : ∀ z ∈ ((j : Int) + 1) :: l.map Neg.neg, z = (j : Int) + 1 ∨ vof w z = -1 := by
     intro z hz
     rcases List.mem_cons.1 hz with rfl | hz
     ·exact .inl rfl
     ·obtain ⟨n, hn, rfl⟩ := List.mem_map.1 hz
      exact .inr (hall n hn)
    rcases scan_inv0 w (((j : Int) + 1) :: l.map Neg.neg) with ⟨_, x, hx, hx1⟩ | ⟨h2, _⟩ | ⟨h2, _⟩ | ⟨_, _, x, hx, y, hy, hxy, hx0, hy0⟩
    ·rcases g x hx with rfl | h
     ·rw [hvz] at hx1; cases hx1
     ·rw [h] at hx1; cases hx1
    ·exact hc.1 h2
    ·exact hc.2 h2
    ·have g2 : ∀ z ∈ ((j : Int) + 1) :: l.map Neg.neg, vof w z = 0 → z = (j : Int) + 1 := by
      intro z hz hz0
      rcases g z hz with h | h
      ·exact h
      ·rw [h] at hz0; cases hz0
     exact hxy ((g2 x hx hx0).trans (g2 y hy hy0).symm)
  ·exact ih j (by omega)
 | hard _ _ ih => exact ih hv (fun c hc => hcl c (List.mem_append_left _ hc))
end
end Qm

/- Plain: which one comes to which, in one step or more; Warshall's rounds; a plan. No program in sight. -/
namespace Qm

inductive Comes (e : Nat → Nat → Bool) : Nat → Nat → Prop
 | one {i j : Nat} : e i j = true → Comes e i j
 | more {i j k : Nat} : e i j = true → Comes e j k → Comes e i k
theorem Comes.trans {e : Nat → Nat → Bool} {i j k : Nat} (h : Comes e i j) (h2 : Comes e j k) : Comes e i k := by
 induction h with
 | one h => exact .more h h2
 | more h _ ih => exact .more h (ih h2)

theorem Comes.lt {e : Nat → Nat → Bool} {n : Nat} (hn : ∀ i j, e i j = true → i < n ∧ j < n) {a b : Nat} (h : Comes e a b) : a < n ∧ b < n := by
 induction h with
 | one h => exact hn _ _ h
 | more h _ ih => exact ⟨(hn _ _ h).1, ih.2⟩
/-! ### a plan -/
structure PSt where
 done : Nat → Bool
 num : Nat → Nat
 cyc : Nat
theorem length_filter_lt {α : Type} {p q : α → Bool} (hpq : ∀ k, p k = true → q k = true) {x : α} (hx : p x = false) (hy : q x = true) : ∀ {l : List α}, x ∈ l → (l.filter p).length < (l.filter q).length
 | y :: l, hm => by
  have hle : ∀ l : List α, (l.filter p).length ≤ (l.filter q).length := by
   intro l
   induction l with
   | nil => exact Nat.le_refl _
   | cons z l ih =>
    simp only [List.filter_cons]
    cases hp : p z
    ·cases q z <;> simp <;> omega
    ·rw [hpq z hp]; simp; omega
  simp only [List.filter_cons]
  rcases List.mem_cons.1 hm with rfl | hm
  ·rw [hx, hy]
   have := hle l
   simp; omega
  ·have ih := length_filter_lt hpq hx hy hm
   cases hp : p y
   ·cases q y <;> simp <;> omega
   ·rw [hpq y hp]; simp; omega
end Qm

/- What a wish asks, as a formula: in plain words (no program in sight): the desk, gates, means, needs. -/
namespace Go.Proofs.YtedbhlgjcnnknaaGreatDoor
open Go.RowKit Qm

structure Dk where
 vars : Nat
 cls : List (List Int)
 pair : Int → Int → Int
structure Chs where
 pick : Nat → Int
 on : Nat → Nat → Int
def addD (d : Dk) (c : List Int) : Dk := { d with cls := d.cls ++ [c] }
def bothD (d : Dk) (l : List Int) : Dk × Int :=
 match l with
 | [x] => (d, x)
 | l => ({ d with vars := d.vars + 1, cls := d.cls ++ gate ((d.vars : Int) + 1) l }, (d.vars : Int) + 1)
def oneD (d : Dk) (l : List Int) : Dk × Int := ((bothD d (l.map Neg.neg)).1, -(bothD d (l.map Neg.neg)).2)
def setPair (d : Dk) (n f v : Int) : Dk := { d with pair := fun a b => if a = n ∧ b = f then v else d.pair a b }
def askD (X : Chs) (a : At) (i k : Nat) : Int := if a.on = true then X.on i k else -X.on i k
def meanStep (X : Chs) (ps : List Pk) (a : At) (but : Int) (s : Dk × List Int) (i : Nat) : Dk × List Int :=
 if (i : Int) = but ∨ (pkOf ps i).nm ≠ a.nm ∨ fitsP a (pkOf ps i).ver (pkOf ps i).slot = false then s
 else if a.fl = [] then (s.1, s.2 ++ [X.pick i])
 else match ixOf a.fl (pkOf ps i).fs with
  | none => s
  | some k =>
   if s.1.pair (X.pick i) (askD X a i k) = 0 then
    (setPair (bothD s.1 [X.pick i, askD X a i k]).1 (X.pick i) (askD X a i k) (bothD s.1 [X.pick i, askD X a i k]).2, s.2 ++ [(bothD s.1 [X.pick i, askD X a i k]).2])
   else (s.1, s.2 ++ [s.1.pair (X.pick i) (askD X a i k)])
def meansTo (X : Chs) (ps : List Pk) (a : At) (but : Int) (d : Dk) : Nat → Dk × List Int
 | 0 => (d, [])
 | j + 1 => meanStep X ps a but (meansTo X ps a but d j) j
def meansD (X : Chs) (ps : List Pk) (a : At) (but : Int) (d : Dk) : Dk × List Int := meansTo X ps a but d ps.length
def ifLit (X : Chs) (ps : List Pk) (i : Nat) (f : Qm.W) (no : Bool) : Int :=
 match ixOf f (pkOf ps i).fs with
 | none => 0
 | some j => if no = true then -X.on i j else X.on i j
mutual
def needD (X : Chs) (ps : List Pk) (i : Nat) : Nd → Dk → Dk × Int
 | .mk kd a f no ks, d =>
  if kd = 1 then oneD (meansD X ps a (-1) d).1 (meansD X ps a (-1) d).2
  else if kd = 2 then ((oneD (meansD X ps a i d).1 (meansD X ps a i d).2).1, -(oneD (meansD X ps a i d).1 (meansD X ps a i d).2).2)
  else if kd = 4 then oneD (kidsD X ps i ks d).1 (kidsD X ps i ks d).2
  else if kd = 5 then oneD (bothD (kidsD X ps i ks d).1 (kidsD X ps i ks d).2).1 [-ifLit X ps i f no, (bothD (kidsD X ps i ks d).1 (kidsD X ps i ks d).2).2]
  else bothD (kidsD X ps i ks d).1 (kidsD X ps i ks d).2
def kidsD (X : Chs) (ps : List Pk) (i : Nat) : List Nd → Dk → Dk × List Int
 | [], d => (d, [])
 | x :: r, d => ((kidsD X ps i r (needD X ps i x d).1).1, (needD X ps i x d).2 :: (kidsD X ps i r (needD X ps i x d).1).2)
end

/-! ### what is built -/
structure DkOk (M : Nat) (d : Dk) (gs hs : List (List Int)) : Prop where
 b : Built M d.vars d.cls gs hs
 p : ∀ n f, d.pair n f ≠ 0 → IsLit d.vars (d.pair n f) ∧ ∀ m, holdsF m gs = true → litHolds m (d.pair n f) = (litHolds m n && litHolds m f)
def npD (K : List (Int × Int)) (d : Dk) : Nat := (K.filter fun q => decide (d.pair q.1 q.2 ≠ 0)).length
structure Step (K : List (Int × Int)) (d : Dk) (gs : List (List Int)) (d' : Dk) (gs' : List (List Int)) (cv cc : Nat) : Prop where
 v : d.vars ≤ d'.vars
 g : ∀ c ∈ gs, c ∈ gs'
 nv : d'.vars + npD K d ≤ d.vars + npD K d' + cv
 nc : d'.cls.length + 3 * npD K d ≤ d.cls.length + 3 * npD K d' + cc
 len : (∀ c ∈ d.cls, c.length ≤ 60) → ∀ c ∈ d'.cls, c.length ≤ 60
section
variable {K : List (Int × Int)} {M : Nat} {d d' d'' : Dk} {gs gs' gs'' hs : List (List Int)} {cv cc cv' cc' : Nat}
theorem Step.refl : Step K d gs d gs 0 0 := ⟨Nat.le_refl _, fun _ h => h, Nat.le_refl _, Nat.le_refl _, fun h => h⟩
theorem Step.trans (h : Step K d gs d' gs' cv cc) (h2 : Step K d' gs' d'' gs'' cv' cc') : Step K d gs d'' gs'' (cv + cv') (cc + cc') :=
 ⟨Nat.le_trans h.v h2.v, fun c hc => h2.g c (h.g c hc), by have := h.nv; have := h2.nv; omega, by have := h.nc; have := h2.nc; omega, fun g => h2.len (h.len g)⟩
theorem Step.mono (h : Step K d gs d' gs' cv cc) (h1 : cv ≤ cv') (h2 : cc ≤ cc') : Step K d gs d' gs' cv' cc' :=
 ⟨h.v, h.g, by have := h.nv; omega, by have := h.nc; omega, h.len⟩
theorem Step.hold (h : Step K d gs d' gs' cv cc) {m : List Bool} (hm : holdsF m gs' = true) : holdsF m gs = true :=
 holdsF_iff.2 fun c hc => holdsF_iff.1 hm c (h.g c hc)
def Says (d : Dk) (gs : List (List Int)) (x : Int) (P : List Bool → Bool) : Prop := IsLit d.vars x ∧ ∀ m, holdsF m gs = true → litHolds m x = P m
theorem Says.neg {x : Int} {P : List Bool → Bool} (h : Says d gs x P) : Says d gs (-x) (fun m => !P m) := ⟨h.1.neg, fun m hm => by rw [litHolds_neg m h.1.1, h.2 m hm]⟩
theorem Says.congr {x : Int} {P Q : List Bool → Bool} (h : Says d gs x P) (e : ∀ m, P m = Q m) : Says d gs x Q := ⟨h.1, fun m hm => (h.2 m hm).trans (e m)⟩
theorem gate_len {v : Int} {l : List Int} : (gate v l).length = l.length + 1 := by unfold gate; simp
theorem gate_short {v : Int} {l : List Int} (hl : l.length ≤ 59) : ∀ c ∈ gate v l, c.length ≤ 60 := by
 intro c hc
 rcases List.mem_append.1 hc with hc | hc
 ·obtain ⟨x, _, rfl⟩ := List.mem_map.1 hc; simp
 ·rw [List.mem_singleton.1 hc]; simp; omega
theorem bothD_ok (h : DkOk M d gs hs) {l : List Int} (hl : ∀ n ∈ l, IsLit d.vars n) (h59 : l.length ≤ 59) :
  ∃ gs', DkOk M (bothD d l).1 gs' hs ∧ Step K d gs (bothD d l).1 gs' 1 (l.length + 1) ∧ (bothD d l).1.pair = d.pair ∧ Says (bothD d l).1 gs' (bothD d l).2 fun m => l.all (litHolds m) := by
 have key : ∀ d2 x, d2 = ({ d with vars := d.vars + 1, cls := d.cls ++ gate ((d.vars : Int) + 1) l } : Dk) → x = (d.vars : Int) + 1 →
   ∃ gs', DkOk M d2 gs' hs ∧ Step K d gs d2 gs' 1 (l.length + 1) ∧ d2.pair = d.pair ∧ Says d2 gs' x fun m => l.all (litHolds m) := by
  rintro d2 x rfl rfl
  have hg : ∀ c ∈ gs, c ∈ gs ++ gate ((d.vars : Int) + 1) l := fun c hc => List.mem_append_left _ hc
  refine ⟨gs ++ gate ((d.vars : Int) + 1) l, ⟨.gate h.b hl, fun n f hp => ?_⟩, ⟨Nat.le_succ _, hg, ?_, ?_, fun g c hc => ?_⟩, rfl, ⟨⟨by omega, by show _ ≤ d.vars + 1; omega⟩, fun m hm => ?_⟩⟩
  ·obtain ⟨p1, p2⟩ := h.p n f hp
   exact ⟨p1.up (Nat.le_succ _), fun m hm => p2 m (holdsF_iff.2 fun c hc => holdsF_iff.1 hm c (hg c hc))⟩
  ·show d.vars + 1 + npD K d ≤ d.vars + npD K d + 1; omega
  ·show (d.cls ++ gate ((d.vars : Int) + 1) l).length + 3 * npD K d ≤ d.cls.length + 3 * npD K d + (l.length + 1)
   rw [List.length_append, gate_len]; omega
  ·rcases List.mem_append.1 hc with hc | hc
   ·exact g c hc
   ·exact gate_short h59 c hc
  ·exact (gate_means (by omega) fun n hn => (hl n hn).1).1 (holdsF_iff.2 fun c hc => holdsF_iff.1 hm c (List.mem_append_right _ hc))
 match l, hl, h59, key with
 | [x], hl, _, _ => exact ⟨gs, h, Step.refl.mono (Nat.zero_le _) (Nat.zero_le _), rfl, hl x (List.mem_singleton.2 rfl), fun m _ => by simp [bothD]⟩
 | [], _, _, key => exact key _ _ rfl rfl
 | x :: y :: r, _, _, key => exact key _ _ rfl rfl
theorem oneD_ok (h : DkOk M d gs hs) {l : List Int} (hl : ∀ n ∈ l, IsLit d.vars n) (h59 : l.length ≤ 59) :
  ∃ gs', DkOk M (oneD d l).1 gs' hs ∧ Step K d gs (oneD d l).1 gs' 1 (l.length + 1) ∧ (oneD d l).1.pair = d.pair ∧ Says (oneD d l).1 gs' (oneD d l).2 fun m => l.any (litHolds m) := by
 obtain ⟨gs', h1, h2, h3, h4⟩ := bothD_ok (K := K) h (l := l.map Neg.neg) (fun n hn => by obtain ⟨x, hx, rfl⟩ := List.mem_map.1 hn; exact (hl x hx).neg) (by simpa using h59)
 refine ⟨gs', h1, by rw [List.length_map] at h2; exact h2, h3, h4.neg.congr fun m => ?_⟩
 rw [List.all_map]
 have : ∀ l : List Int, (∀ n ∈ l, IsLit d.vars n) → (!l.all (litHolds m ∘ Neg.neg)) = l.any (litHolds m) := by
  intro l hl
  induction l with
  | nil => rfl
  | cons x r ih =>
   rw [List.all_cons, List.any_cons, Bool.not_and, ih fun n hn => hl n (List.mem_cons_of_mem _ hn)]
   show (!litHolds m (-x) || _) = _
   rw [litHolds_neg m (hl x (List.mem_cons_self ..)).1, Bool.not_not]
 exact this l hl
end

/-! ### what an atom means -/
structure ChsOk (ps : List Pk) (M : Nat) (X : Chs) (K : List (Int × Int)) : Prop where
 pick : ∀ i, i < ps.length → IsLit M (X.pick i)
 on : ∀ i, i < ps.length → ∀ k, k < (pkOf ps i).fs.length → IsLit M (X.on i k)
 keys : ∀ i, i < ps.length → ∀ k, k < (pkOf ps i).fs.length → (X.pick i, X.on i k) ∈ K ∧ (X.pick i, -X.on i k) ∈ K
def asksB (X : Chs) (ps : List Pk) (a : At) (but : Int) (m : List Bool) (i : Nat) : Bool :=
 if (i : Int) = but ∨ (pkOf ps i).nm ≠ a.nm ∨ fitsP a (pkOf ps i).ver (pkOf ps i).slot = false then false
 else if a.fl = [] then litHolds m (X.pick i)
 else match ixOf a.fl (pkOf ps i).fs with
  | none => false
  | some k => litHolds m (X.pick i) && (litHolds m (X.on i k) == a.on)
theorem npD_set {K : List (Int × Int)} {d : Dk} {n f v : Int} (hk : (n, f) ∈ K) (h0 : d.pair n f = 0) (hv : v ≠ 0) : npD K d + 1 ≤ npD K (setPair d n f v) := by
 unfold npD
 refine length_filter_lt (x := (n, f)) (fun q hq => ?_) (decide_eq_false (by simp [h0])) (decide_eq_true ?_) hk
 ·have hq := of_decide_eq_true hq
  refine decide_eq_true ?_
  show (if q.1 = n ∧ q.2 = f then v else d.pair q.1 q.2) ≠ 0
  split
  ·exact hv
  ·exact hq
 ·show (if n = n ∧ f = f then v else d.pair n f) ≠ 0
  rw [if_pos ⟨rfl, rfl⟩]; exact hv
section
variable {ps : List Pk} {K : List (Int × Int)} {M : Nat} {X : Chs} {d : Dk} {gs hs : List (List Int)}
theorem askD_lit (hX : ChsOk ps M X K) {a : At} {i k : Nat} (hi : i < ps.length) (hk : k < (pkOf ps i).fs.length) : IsLit M (askD X a i k) ∧ (X.pick i, askD X a i k) ∈ K ∧ ∀ m, litHolds m (askD X a i k) = (litHolds m (X.on i k) == a.on) := by
 unfold askD
 have h1 := hX.on i hi k hk
 have h2 := hX.keys i hi k hk
 cases a.on
 ·rw [if_neg (by simp)]
  exact ⟨h1.neg, h2.2, fun m => by rw [litHolds_neg m h1.1]; cases litHolds m (X.on i k) <;> rfl⟩
 ·rw [if_pos rfl]
  exact ⟨h1, h2.1, fun m => by cases litHolds m (X.on i k) <;> rfl⟩
theorem meansTo_ok (hX : ChsOk ps M X K) (h : DkOk M d gs hs) (a : At) (but : Int) : ∀ j, j ≤ ps.length →
  ∃ gs', DkOk M (meansTo X ps a but d j).1 gs' hs ∧ Step K d gs (meansTo X ps a but d j).1 gs' 0 0 ∧ (∀ n ∈ (meansTo X ps a but d j).2, IsLit (meansTo X ps a but d j).1.vars n) ∧ (meansTo X ps a but d j).2.length ≤ j ∧
   ∀ m, holdsF m gs' = true → (meansTo X ps a but d j).2.any (litHolds m) = (List.range j).any (asksB X ps a but m)
 | 0, _ => ⟨gs, h, Step.refl, fun n hn => (by cases hn), Nat.le_refl _, fun _ _ => rfl⟩
 | j + 1, hj => by
  obtain ⟨gs1, h1, h2, h3, h4, h5⟩ := meansTo_ok hX h a but j (by omega)
  have hM := h1.b.le
  have hrange : ∀ m, (List.range (j + 1)).any (asksB X ps a but m) = ((List.range j).any (asksB X ps a but m) || asksB X ps a but m j) := fun m => by
   rw [List.range_succ, List.any_append]; simp
  rw [meansTo]
  generalize meansTo X ps a but d j = s at h1 h2 h3 h4 h5 hM
  unfold meanStep
  by_cases c1 : (j : Int) = but ∨ (pkOf ps j).nm ≠ a.nm ∨ fitsP a (pkOf ps j).ver (pkOf ps j).slot = false
  ·rw [if_pos c1]
   refine ⟨gs1, h1, h2, h3, by omega, fun m hm => ?_⟩
   rw [hrange, h5 m hm]
   unfold asksB
   rw [if_pos c1, Bool.or_false]
  rw [if_neg c1]
  by_cases c2 : a.fl = []
  ·rw [if_pos c2]
   refine ⟨gs1, h1, h2, fun n hn => ?_, by rw [List.length_append]; exact Nat.succ_le_succ h4, fun m hm => ?_⟩
   ·rcases List.mem_append.1 hn with hn | hn
    ·exact h3 n hn
    ·rw [List.mem_singleton.1 hn]; exact (hX.pick j (by omega)).up hM
   ·rw [hrange, List.any_append, h5 m hm]
    unfold asksB
    rw [if_neg c1, if_pos c2]; simp
  rw [if_neg c2]
  cases hix : ixOf a.fl (pkOf ps j).fs with
  | none =>
   dsimp only
   refine ⟨gs1, h1, h2, h3, by omega, fun m hm => ?_⟩
   rw [hrange, h5 m hm]
   unfold asksB
   rw [if_neg c1, if_neg c2, hix, Bool.or_false]
  | some k =>
   obtain ⟨l1, l2, l3⟩ := askD_lit (a := a) hX (by omega) (ixOf_lt hix)
   have hpj := hX.pick j (by omega)
   have hask : ∀ m, asksB X ps a but m j = (litHolds m (X.pick j) && litHolds m (askD X a j k)) := fun m => by
    unfold asksB
    rw [if_neg c1, if_neg c2, hix, l3 m]
   dsimp only
   by_cases c3 : s.1.pair (X.pick j) (askD X a j k) = 0
   ·rw [if_pos c3]
    obtain ⟨gs2, b1, b2, b3, b4⟩ := bothD_ok (K := K) h1 (l := [X.pick j, askD X a j k]) (fun n hn => by
     simp only [List.mem_cons, List.not_mem_nil, or_false] at hn
     rcases hn with rfl | rfl
     ·exact hpj.up hM
     ·exact l1.up hM) (by simp)
    have hv0 := b4.1.1
    have hnp : npD K (bothD s.1 [X.pick j, askD X a j k]).1 = npD K s.1 := by unfold npD; rw [b3]
    have hnp2 := npD_set (d := (bothD s.1 [X.pick j, askD X a j k]).1) (v := (bothD s.1 [X.pick j, askD X a j k]).2) l2 (by rw [b3]; exact c3) hv0
    have hmean : ∀ m, holdsF m gs2 = true → litHolds m (bothD s.1 [X.pick j, askD X a j k]).2 = (litHolds m (X.pick j) && litHolds m (askD X a j k)) := fun m hm => by
     rw [b4.2 m hm]; simp
    generalize bothD s.1 [X.pick j, askD X a j k] = r at b1 b2 b3 b4 hnp hnp2 hmean hv0
    refine ⟨gs2, ⟨b1.b, fun n f hp => ?_⟩, ?_, fun n hn => ?_, by rw [List.length_append]; exact Nat.succ_le_succ h4, fun m hm => ?_⟩
    ·by_cases e : n = X.pick j ∧ f = askD X a j k
     ·have : (setPair r.1 (X.pick j) (askD X a j k) r.2).pair n f = r.2 := by show (if _ then _ else _) = _; rw [if_pos e]
      rw [this]
      obtain ⟨rfl, rfl⟩ := e
      exact ⟨b4.1, hmean⟩
     ·have : (setPair r.1 (X.pick j) (askD X a j k) r.2).pair n f = r.1.pair n f := by show (if _ then _ else _) = _; rw [if_neg e]
      rw [this] at hp ⊢
      exact b1.p n f hp
    ·have hb2v := b2.nv; have hb2c := b2.nc; have h2v := h2.nv; have h2c := h2.nc
     simp only [List.length_cons, List.length_nil] at hb2c
     exact ⟨Nat.le_trans h2.v b2.v, fun c hc => b2.g c (h2.g c hc), by show r.1.vars + npD K d ≤ d.vars + npD K (setPair r.1 (X.pick j) (askD X a j k) r.2) + 0; omega, by show r.1.cls.length + 3 * npD K d ≤ d.cls.length + 3 * npD K (setPair r.1 (X.pick j) (askD X a j k) r.2) + 0; omega, fun g => b2.len (h2.len g)⟩
    ·rcases List.mem_append.1 hn with hn | hn
     ·exact (h3 n hn).up b2.v
     ·rw [List.mem_singleton.1 hn]; exact b4.1
    ·rw [hrange, List.any_append, h5 m (b2.hold hm), hask m]
     congr 1
     simp only [List.any_cons, List.any_nil, Bool.or_false]
     exact hmean m hm
   ·rw [if_neg c3]
    obtain ⟨p1, p2⟩ := h1.p _ _ c3
    refine ⟨gs1, h1, h2, fun n hn => ?_, by rw [List.length_append]; exact Nat.succ_le_succ h4, fun m hm => ?_⟩
    ·rcases List.mem_append.1 hn with hn | hn
     ·exact h3 n hn
     ·rw [List.mem_singleton.1 hn]; exact p1
    ·rw [hrange, List.any_append, h5 m hm, hask m, ← p2 m hm]
     simp
end
end Go.Proofs.YtedbhlgjcnnknaaGreatDoor

/- What a need is as a literal: it holds just where the need does. No program in sight. -/
namespace Go.Proofs.YtedbhlgjcnnknaaGreatDoor
open Go.RowKit Qm

mutual
def holdsM (X : Chs) (ps : List Pk) (m : List Bool) (i : Nat) : Nd → Bool
 | .mk kd a f no ks =>
  if kd = 1 then (List.range ps.length).any (asksB X ps a (-1) m)
  else if kd = 2 then !(List.range ps.length).any (asksB X ps a i m)
  else if kd = 4 then someM X ps m i ks
  else if kd = 5 then !litHolds m (ifLit X ps i f no) || allM X ps m i ks
  else allM X ps m i ks
def someM (X : Chs) (ps : List Pk) (m : List Bool) (i : Nat) : List Nd → Bool
 | [] => false
 | x :: r => holdsM X ps m i x || someM X ps m i r
def allM (X : Chs) (ps : List Pk) (m : List Bool) (i : Nat) : List Nd → Bool
 | [] => true
 | x :: r => holdsM X ps m i x && allM X ps m i r
end
theorem flagsN_sub : ∀ {ks : List Nd} {x : Nd}, x ∈ ks → ∀ g ∈ flagsN x, g ∈ flagsL ks
 | y :: r, x, hx, g, hg => by
  simp only [flagsL, List.mem_append]
  rcases List.mem_cons.1 hx with rfl | hx
  ·exact .inl hg
  ·exact .inr (flagsN_sub hx g hg)
theorem nodes_pos (x : Nd) : 1 ≤ x.nodes := by cases x; simp only [Nd.nodes]; omega
theorem kids_nodes : ∀ {ks : List Nd}, ks.length ≤ nodesL ks
 | [] => Nat.le_refl _
 | x :: r => by
  have := kids_nodes (ks := r)
  have : 1 ≤ x.nodes := by cases x; simp only [Nd.nodes]; omega
  simp only [List.length_cons, nodesL]; omega
section
variable {ps : List Pk} {K : List (Int × Int)} {M : Nat} {X : Chs} {i : Nat}
theorem ifLit_lit (hX : ChsOk ps M X K) (hi : i < ps.length) {f : Qm.W} {no : Bool} (hf : f ∈ (pkOf ps i).fs) : IsLit M (ifLit X ps i f no) := by
 unfold ifLit
 cases h : ixOf f (pkOf ps i).fs with
 | none => exact absurd hf (ixOf_none.1 h)
 | some j =>
  have := hX.on i hi j (ixOf_lt h)
  dsimp only
  split
  ·exact this.neg
  ·exact this
theorem kidsD_ok {hs : List (List Int)} : ∀ (ks : List Nd), (∀ x ∈ ks, ∀ (d : Dk) (gs : List (List Int)), DkOk M d gs hs →
   ∃ gs', DkOk M (needD X ps i x d).1 gs' hs ∧ Step K d gs (needD X ps i x d).1 gs' (2 * x.nodes) (15 * x.nodes - 1) ∧ Says (needD X ps i x d).1 gs' (needD X ps i x d).2 fun m => holdsM X ps m i x) →
  ∀ (d : Dk) (gs : List (List Int)), DkOk M d gs hs →
  ∃ gs', DkOk M (kidsD X ps i ks d).1 gs' hs ∧ Step K d gs (kidsD X ps i ks d).1 gs' (2 * nodesL ks) (15 * nodesL ks - ks.length) ∧ (∀ n ∈ (kidsD X ps i ks d).2, IsLit (kidsD X ps i ks d).1.vars n) ∧ (kidsD X ps i ks d).2.length = ks.length ∧
   ∀ m, holdsF m gs' = true → (kidsD X ps i ks d).2.any (litHolds m) = someM X ps m i ks ∧ (kidsD X ps i ks d).2.all (litHolds m) = allM X ps m i ks
 | [], _, d, gs, h => ⟨gs, h, Step.refl, fun n hn => (by cases hn), rfl, fun m _ => ⟨rfl, rfl⟩⟩
 | x :: r, ih, d, gs, h => by
  obtain ⟨g1, a1, a2, a3⟩ := ih x (List.mem_cons_self ..) d gs h
  obtain ⟨g2, b1, b2, b3, b4, b5⟩ := kidsD_ok r (fun y hy => ih y (List.mem_cons_of_mem _ hy)) _ g1 a1
  rw [kidsD]
  dsimp only
  have hk1 := kids_nodes (ks := r)
  have hk2 := nodes_pos x
  refine ⟨g2, b1, (a2.trans b2).mono (by simp only [nodesL]; omega) (by simp only [nodesL, List.length_cons]; omega), fun n hn => ?_, by simp [b4], fun m hm => ?_⟩
  ·rcases List.mem_cons.1 hn with rfl | hn
   ·exact a3.1.up b2.v
   ·exact b3 n hn
  ·rw [List.any_cons, List.all_cons, someM, allM, (b5 m hm).1, (b5 m hm).2, a3.2 m (b2.hold hm)]
   exact ⟨rfl, rfl⟩
theorem needD_ok (hX : ChsOk ps M X K) (hi : i < ps.length) (h8 : ps.length ≤ 8) {hs : List (List Int)} : ∀ (y : Nd), y.nodes ≤ 20 → (∀ f ∈ flagsN y, f ∈ (pkOf ps i).fs) → ∀ (d : Dk) (gs : List (List Int)), DkOk M d gs hs →
  ∃ gs', DkOk M (needD X ps i y d).1 gs' hs ∧ Step K d gs (needD X ps i y d).1 gs' (2 * y.nodes) (15 * y.nodes - 1) ∧ Says (needD X ps i y d).1 gs' (needD X ps i y d).2 fun m => holdsM X ps m i y := by
 refine Nd.ind fun kd a f no ks ih => ?_
 intro hn hfl d gs h
 have hkn := kids_nodes (ks := ks)
 simp only [Nd.nodes] at hn ⊢
 have ihk := fun x (hx : x ∈ ks) (d : Dk) (gs : List (List Int)) (h : DkOk M d gs hs) => ih x hx (by
  have : ∀ {l : List Nd} {x : Nd}, x ∈ l → x.nodes ≤ nodesL l := by
   intro l
   induction l with
   | nil => intro x hx; cases hx
   | cons y r ihl =>
    intro x hx
    simp only [nodesL]
    rcases List.mem_cons.1 hx with rfl | hx
    ·omega
    ·have := ihl hx; omega
  have := this hx; omega) (fun g hg => hfl g (by unfold flagsN; exact List.mem_append_right _ (flagsN_sub hx g hg))) d gs h
 rw [needD]
 by_cases k1 : kd = 1
 ·obtain ⟨g1, a1, a2, a3, a4, a5⟩ := meansTo_ok (K := K) hX h a (-1) ps.length (Nat.le_refl _)
  obtain ⟨g2, b1, b2, _, b4⟩ := oneD_ok (K := K) a1 a3 (by omega)
  rw [if_pos k1]
  refine ⟨g2, b1, (a2.trans b2).mono (by omega) (by omega), b4.1, fun m hm => ?_⟩
  rw [show (oneD (meansD X ps a (-1) d).1 (meansD X ps a (-1) d).2) = (oneD (meansTo X ps a (-1) d ps.length).1 (meansTo X ps a (-1) d ps.length).2) from rfl, b4.2 m hm]
  dsimp only
  rw [a5 m (b2.hold hm)]
  unfold holdsM; rw [if_pos k1]
 rw [if_neg k1]
 by_cases k2 : kd = 2
 ·obtain ⟨g1, a1, a2, a3, a4, a5⟩ := meansTo_ok (K := K) hX h a (i : Int) ps.length (Nat.le_refl _)
  obtain ⟨g2, b1, b2, _, b4⟩ := oneD_ok (K := K) a1 a3 (by omega)
  rw [if_pos k2]
  refine ⟨g2, b1, (a2.trans b2).mono (by omega) (by omega), b4.neg.1, fun m hm => ?_⟩
  show litHolds m (-(oneD (meansTo X ps a i d ps.length).1 (meansTo X ps a i d ps.length).2).2) = _
  rw [b4.neg.2 m hm]
  dsimp only
  rw [a5 m (b2.hold hm)]
  unfold holdsM; rw [if_neg k1, if_pos k2]
 rw [if_neg k2]
 obtain ⟨g1, a1, a2, a3, a4, a5⟩ := kidsD_ok ks ihk d gs h
 by_cases k4 : kd = 4
 ·obtain ⟨g2, b1, b2, _, b4⟩ := oneD_ok (K := K) a1 a3 (by omega)
  rw [if_pos k4]
  refine ⟨g2, b1, (a2.trans b2).mono (by omega) (by omega), b4.1, fun m hm => ?_⟩
  rw [b4.2 m hm]
  dsimp only
  rw [(a5 m (b2.hold hm)).1]
  unfold holdsM; rw [if_neg k1, if_neg k2, if_pos k4]
 rw [if_neg k4]
 obtain ⟨g2, b1, b2, _, b4⟩ := bothD_ok (K := K) a1 a3 (by omega)
 by_cases k5 : kd = 5
 ·have hil := ifLit_lit (no := no) hX hi (hfl f (by unfold flagsN; rw [if_pos k5]; simp))
  have hM := b1.b.le
  obtain ⟨g3, c1, c2, _, c4⟩ := oneD_ok (K := K) b1 (l := [-ifLit X ps i f no, (bothD (kidsD X ps i ks d).1 (kidsD X ps i ks d).2).2]) (fun n hn => by
   simp only [List.mem_cons, List.not_mem_nil, or_false] at hn
   rcases hn with rfl | rfl
   ·exact hil.neg.up hM
   ·exact b4.1) (by simp)
  rw [if_pos k5]
  refine ⟨g3, c1, ((a2.trans b2).trans c2).mono (by omega) (by simp only [List.length_cons, List.length_nil]; omega), c4.1, fun m hm => ?_⟩
  rw [c4.2 m hm]
  simp only [List.any_cons, List.any_nil, Bool.or_false]
  rw [litHolds_neg m hil.1, b4.2 m (c2.hold hm)]
  dsimp only
  rw [(a5 m (b2.hold (c2.hold hm))).2]
  conv => rhs; unfold holdsM
  rw [if_neg k1, if_neg k2, if_neg k4, if_pos k5]
 ·rw [if_neg k5]
  refine ⟨g2, b1, (a2.trans b2).mono (by omega) (by omega), b4.1, fun m hm => ?_⟩
  rw [b4.2 m hm]
  dsimp only
  rw [(a5 m (b2.hold hm)).2]
  conv => rhs; unfold holdsM
  rw [if_neg k1, if_neg k2, if_neg k4, if_neg k5]
end
end Go.Proofs.YtedbhlgjcnnknaaGreatDoor
