/- Walks: the checks of a formula and of a proof, the program's and the document's. -/
import Derived.Test.YtpkbncfnkgofmaaW1
import Derived.Deep.LoopGhost
namespace Go.Proofs.Ytpkbncfnkgofmaa
open Go.RowKit
def ckClauses (cs : List (List Int)) (vars : Int) : Int := match cs.find? (fun c => ckClause c vars != 0) with | some c => ckClause c vars | none => 0
def ckFormula (vars : Int) (cs : List (List Int)) : Int := if vars < 0 ∨ 400 < vars then 3 else if 4000 < cs.length then 2 else ckClauses cs vars
def ckProof (cs : List (List Int)) (vars : Int) : Int := if vars < 0 ∨ 400 < vars then 3 else if 40000 < cs.length then 2 else ckClauses cs vars
def NoneBad (cs : List (List Int)) (vars : Int) (k : Nat) : Prop := ∀ c ∈ cs.take k, ckClause c vars = 0
theorem ckClauses_bad {cs : List (List Int)} {vars : Int} {k : Nat} {c : List Int} (h : NoneBad cs vars k) (hk : k < cs.length) (hc : cs.getD k [] = c) (hb : (ckClause c vars != 0) = true) : ckClauses cs vars = ckClause c vars := by
  have e : cs = cs.take k ++ c :: cs.drop (k+1) := by
    rw [List.getD_eq_getElem?_getD, List.getElem?_eq_getElem hk, Option.getD_some] at hc
    rw [← hc, List.getElem_cons_drop, List.take_append_drop]
  unfold ckClauses
  rw [e, List.find?_append]
  have : (cs.take k).find? (fun c => ckClause c vars != 0) = none := by
    rw [List.find?_eq_none]; intro x hx; rw [h x hx]; simp
  rw [this, Option.none_or]; simp only [List.find?_cons, hb]
theorem NoneBad.next {cs : List (List Int)} {vars : Int} {k : Nat} {c : List Int} (h : NoneBad cs vars k) (hk : k < cs.length) (hc : cs.getD k [] = c) (hb : (ckClause c vars != 0) = false) : NoneBad cs vars (k+1) := by
  intro x hx
  rw [List.take_succ_eq_append_getElem hk] at hx
  rcases List.mem_append.1 hx with hx | hx
  · exact h x hx
  · rw [List.getD_eq_getElem?_getD, List.getElem?_eq_getElem hk, Option.getD_some] at hc
    simp at hx; subst hx; rw [hc]; simpa using hb
theorem ckClauses_good {cs : List (List Int)} {vars : Int} {k : Nat} (h : NoneBad cs vars k) (hk : k = cs.length) : ckClauses cs vars = 0 := by
  unfold ckClauses
  have : cs.find? (fun c => ckClause c vars != 0) = none := by
    rw [List.find?_eq_none]; intro x hx; rw [h x (by rw [hk, List.take_length]; exact hx)]; simp
  rw [this]

set_option maxHeartbeats 1000000 in
theorem checkFormula_any (A : Option Addr) (n cap : Nat) (cs : List (List Int)) (vars : Int) (w : World) (S : Nat → Prop) (hr : RClauses w S A n cs) (hS : ∀ k, S k → k < w.heap.size) (hn : n ≤ maxLen) (hv : -9223372036854775808 ≤ vars) (hv' : vars ≤ 9223372036854775807) :
    Calls Try.prog 24 #[.agg #[.int .i64 vars, .slice A n cap]] w fun e w' => e = .returned (.int .i64 (ckFormula vars cs)) ∧ Below w.heap.size w w' := by
  unfold maxLen at hn
  have Hlen := Lib.hid hr.len
  have Hr := Lib.hid hr; clear hr
  have Hw : Hid (∀ o, Below w.heap.size w (w.alloc o)) := fun o => (Below.refl _ _).alloc (Nat.le_refl _) o
  by_cases h0 : vars < 0
  · go_enter Try.func24, Try.ntmps24
    go_wp2_with fail
    go_ret
    exact ⟨ret_int (by unfold ckFormula; rw [if_pos (.inl h0)]), Hw.out _⟩
  have h0' : decide (vars < 0) = false := by simpa using h0
  by_cases h4 : 400 < vars
  · go_enter Try.func24, Try.ntmps24
    go_wp2_with fail
    go_ret
    exact ⟨ret_int (by unfold ckFormula; rw [if_pos (.inr h4)]), Hw.out _⟩
  have h4' : decide (400 < vars) = false := by simpa using h4
  have H3 : Hid (¬ (vars < 0 ∨ 400 < vars)) := by show ¬ _; omega
  by_cases hm : 4000 < n
  · have hm' : decide ((4000 : Int) < (n : Int)) = true := by simp; omega
    go_enter Try.func24, Try.ntmps24
    go_wp2_with fail
    go_ret
    exact ⟨ret_int (by unfold ckFormula; rw [if_neg H3.out, if_pos (by rw [Hlen.out]; exact hm)]), Hw.out _⟩
  have hm' : decide ((4000 : Int) < (n : Int)) = false := by simp; omega
  have H5 : Hid (ckFormula vars cs = ckClauses cs vars) := by show _ = _; unfold ckFormula; rw [if_neg H3.out, if_neg (by rw [Hlen.out]; exact hm)]
  go_enter Try.func24, Try.ntmps24
  go_wp2_with fail
  go_loopg [21] n (fun g i wr => ∃ k : Nat, Hid (k + g = n) ∧ i = .int .i64 k ∧ NoneBad cs vars k ∧ Hid (w.alloc (.cells #[.int .i64 vars, .slice A n cap] 29) = wr))
  case atStart => exact ⟨0, Nat.zero_add _, rfl, fun c hc => by simp at hc, rfl⟩
  case round =>
    obtain ⟨k, Hk, rfl, hbad, Hwr⟩ := hrel
    obtain rfl := Hwr.out
    clear Hwr
    have Hbad := Lib.hid hbad; clear hbad
    by_cases hk : k < n
    · obtain ⟨b, o, A', n', c', rfl, hb, hcell, hc, hnc, hcm⟩ := (Hr.out.below (Hw.out (.cells #[.int .i64 vars, .slice A n cap] 29)) hS).at_ hk
      unfold maxLen at hcm
      have hcall := checkClause_any A' n' c' _ vars _ _ hc (by unfold maxLen; omega) hv hv'
      generalize hcc : cs.getD k [] = c at hcall
      have Hcc := Lib.hid hcc; clear hcc hc
      generalize hx : ckClause c vars = x at hcall
      have Hx := Lib.hid hx; clear hx
      have Hcall := Lib.hid hcall; clear hcall
      by_cases hx0 : (x != 0) = true
      · go_wp2_with fail
        refine Hcall.out.mono ?_
        rintro e w' ⟨rfl, rfl⟩
        go_wp2_with fail
        go_ret
        exact ⟨ret_int (by rw [H5.out, ckClauses_bad Hbad.out (by rw [Hlen.out]; exact hk) Hcc.out (by rw [Hx.out]; exact hx0), Hx.out]), Hw.out _⟩
      · have hx1 : (x != 0) = false := by simpa using hx0
        clear hx0
        go_wp2_with fail
        refine Hcall.out.mono ?_
        rintro e w' ⟨rfl, rfl⟩
        go_wp2_with fail
        go_roundg (gk - 1)
        case measure => have := Hk.out; omega
        case rel => exact ⟨k + 1, by have := Hk.out; show _ = _; omega, by go_num, Hbad.out.next (by rw [Hlen.out]; exact hk) Hcc.out (by rw [Hx.out]; exact hx1), rfl⟩
    · go_wp2_with fail
      go_ret
      exact ⟨ret_int (by rw [H5.out, ckClauses_good Hbad.out (by rw [Hlen.out]; have := Hk.out; omega)]), Hw.out _⟩
set_option maxHeartbeats 1000000 in
theorem rcheckFormula_any (A : Option Addr) (n cap : Nat) (cs : List (List Int)) (vars : Int) (w : World) (S : Nat → Prop) (hr : RClauses w S A n cs) (hS : ∀ k, S k → k < w.heap.size) (hn : n ≤ maxLen) (hv : -9223372036854775808 ≤ vars) (hv' : vars ≤ 9223372036854775807) :
    Calls Try.prog 16 #[.agg #[.int .i64 vars, .slice A n cap]] w fun e w' => e = .returned (.int .i64 (ckFormula vars cs)) ∧ Below w.heap.size w w' := by
  unfold maxLen at hn
  have Hlen := Lib.hid hr.len
  have Hr := Lib.hid hr; clear hr
  have Hw : Hid (∀ o, Below w.heap.size w (w.alloc o)) := fun o => (Below.refl _ _).alloc (Nat.le_refl _) o
  by_cases h0 : vars < 0
  · go_enter Try.func16, Try.ntmps16
    go_wp2_with fail
    go_ret
    exact ⟨ret_int (by unfold ckFormula; rw [if_pos (.inl h0)]), Hw.out _⟩
  have h0' : decide (vars < 0) = false := by simpa using h0
  by_cases h4 : 400 < vars
  · go_enter Try.func16, Try.ntmps16
    go_wp2_with fail
    go_ret
    exact ⟨ret_int (by unfold ckFormula; rw [if_pos (.inr h4)]), Hw.out _⟩
  have h4' : decide (400 < vars) = false := by simpa using h4
  have H3 : Hid (¬ (vars < 0 ∨ 400 < vars)) := by show ¬ _; omega
  by_cases hm : 4000 < n
  · have hm' : decide ((4000 : Int) < (n : Int)) = true := by simp; omega
    go_enter Try.func16, Try.ntmps16
    go_wp2_with fail
    go_ret
    exact ⟨ret_int (by unfold ckFormula; rw [if_neg H3.out, if_pos (by rw [Hlen.out]; exact hm)]), Hw.out _⟩
  have hm' : decide ((4000 : Int) < (n : Int)) = false := by simp; omega
  have H5 : Hid (ckFormula vars cs = ckClauses cs vars) := by show _ = _; unfold ckFormula; rw [if_neg H3.out, if_neg (by rw [Hlen.out]; exact hm)]
  go_enter Try.func16, Try.ntmps16
  go_wp2_with fail
  go_loopg [21] n (fun g i wr => ∃ k : Nat, Hid (k + g = n) ∧ i = .int .i64 k ∧ NoneBad cs vars k ∧ Hid (w.alloc (.cells #[.int .i64 vars, .slice A n cap] 29) = wr))
  case atStart => exact ⟨0, Nat.zero_add _, rfl, fun c hc => by simp at hc, rfl⟩
  case round =>
    obtain ⟨k, Hk, rfl, hbad, Hwr⟩ := hrel
    obtain rfl := Hwr.out
    clear Hwr
    have Hbad := Lib.hid hbad; clear hbad
    by_cases hk : k < n
    · obtain ⟨b, o, A', n', c', rfl, hb, hcell, hc, hnc, hcm⟩ := (Hr.out.below (Hw.out (.cells #[.int .i64 vars, .slice A n cap] 29)) hS).at_ hk
      unfold maxLen at hcm
      have hcall := rcheckClause_any A' n' c' _ vars _ _ hc (by unfold maxLen; omega) hv hv'
      generalize hcc : cs.getD k [] = c at hcall
      have Hcc := Lib.hid hcc; clear hcc hc
      generalize hx : ckClause c vars = x at hcall
      have Hx := Lib.hid hx; clear hx
      have Hcall := Lib.hid hcall; clear hcall
      by_cases hx0 : (x != 0) = true
      · go_wp2_with fail
        refine Hcall.out.mono ?_
        rintro e w' ⟨rfl, rfl⟩
        go_wp2_with fail
        go_ret
        exact ⟨ret_int (by rw [H5.out, ckClauses_bad Hbad.out (by rw [Hlen.out]; exact hk) Hcc.out (by rw [Hx.out]; exact hx0), Hx.out]), Hw.out _⟩
      · have hx1 : (x != 0) = false := by simpa using hx0
        clear hx0
        go_wp2_with fail
        refine Hcall.out.mono ?_
        rintro e w' ⟨rfl, rfl⟩
        go_wp2_with fail
        go_roundg (gk - 1)
        case measure => have := Hk.out; omega
        case rel => exact ⟨k + 1, by have := Hk.out; show _ = _; omega, by go_num, Hbad.out.next (by rw [Hlen.out]; exact hk) Hcc.out (by rw [Hx.out]; exact hx1), rfl⟩
    · go_wp2_with fail
      go_ret
      exact ⟨ret_int (by rw [H5.out, ckClauses_good Hbad.out (by rw [Hlen.out]; have := Hk.out; omega)]), Hw.out _⟩
end Go.Proofs.Ytpkbncfnkgofmaa
