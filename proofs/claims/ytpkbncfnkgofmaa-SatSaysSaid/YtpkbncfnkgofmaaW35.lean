/- Walks: slices.Equal over clauses' ints, over bools; slices.EqualFunc over clauses; the document's SameClauses. -/
import Derived.Test.YtpkbncfnkgofmaaW2
import Derived.Test.YtpkbncfnkgofmaaW23
namespace Go.Proofs.Ytpkbncfnkgofmaa
open Go.RowKit
set_option maxHeartbeats 400000 in
theorem equal_clause (A A' : Option Addr) (n n' c c' : Nat) (xs ys : List Int) (w : World) (S : Nat → Prop) (hx : RInts w S A n xs) (hy : RInts w S A' n' ys) (hn : n ≤ maxLen) (hn' : n' ≤ maxLen) :
    Calls Try.prog 61 #[.slice A n c, .slice A' n' c'] w fun e w' => e = .returned (.bool (xs == ys)) ∧ ∃ nq, w' = w.drewN nq := by
  unfold maxLen at hn hn'
  have hl := Lib.hid hx.len
  have hl' := Lib.hid hy.len
  by_cases hne : n = n'
  · subst hne
    have h0 : ((n : Int) != (n : Int)) = false := by simp
    go_enter Try.func61, Try.ntmps61
    go_wp2
    go_loopw [13] (fun i wr => ∃ k : Nat, k ≤ n ∧ i = .int .i64 k ∧ Hid (xs.take k = ys.take k) ∧ ∃ nq, wr = w.drewN nq) (fun i _ => n - (intOf i).toNat)
    case atStart => exact ⟨0, Nat.zero_le _, rfl, by exact rfl, 0, rfl⟩
    case round =>
      obtain ⟨k, hk, rfl, Ht, nq, rfl⟩ := hrel
      by_cases hlt : k < n
      · obtain ⟨b, o, rfl, hb, hc⟩ := hx.at_ hlt
        obtain ⟨b', o', rfl, hb', hc'⟩ := hy.at_ hlt
        generalize hu : xs.getD k 0 = u at hc
        generalize hv : ys.getD k 0 = v at hc'
        have Hu := Lib.hid hu; clear hu
        have Hv := Lib.hid hv; clear hv
        by_cases huv : u = v
        · have h1 : (u != v) = false := by simpa using huv
          have Huv := Lib.hid huv; clear huv
          go_wp2
          go_quiet (fail)
          go_wp2
          go_roundw
          case rel => exact ⟨k + 1, by omega, by go_num, take_eq_succ 0 (by rw [hl.out]; exact hlt) (by rw [hl'.out]; exact hlt) Ht.out (by rw [Hu.out, Hv.out, Huv.out]), _, (by first | rfl | exact World.drewN_drewN _ _ _)⟩
          case measure => simp [intOf]; omega
        · have h1 : (u != v) = true := by simpa using huv
          go_wp2
          go_quiet (fail)
          go_wp2
          go_ret
          exact ⟨ret_bool (by symm; rw [beq_eq_false_iff_ne]; exact ne_of_getD 0 (by rw [Hu.out, Hv.out]; exact huv)), _, (by first | rfl | exact World.drewN_drewN _ _ _)⟩
      · have h1 : k = n := by omega
        subst h1
        go_wp2
        go_ret
        exact ⟨ret_bool (by symm; rw [beq_iff_eq]; exact eq_of_take_all hl.out hl'.out Ht.out), _, rfl⟩
  · have h0 : ((n : Int) != (n' : Int)) = true := by rw [bne_iff_ne]; omega
    go_enter Try.func61, Try.ntmps61
    go_wp2
    go_ret
    exact ⟨ret_bool (by symm; rw [beq_eq_false_iff_ne]; intro e; exact hne (by rw [← hl.out, ← hl'.out, e])), 0, rfl⟩
set_option maxHeartbeats 400000 in
theorem equal_bool (A A' : Option Addr) (n n' c c' : Nat) (xs ys : List Bool) (w : World) (S : Nat → Prop) (hx : RBools w S A n xs) (hy : RBools w S A' n' ys) (hn : n ≤ maxLen) (hn' : n' ≤ maxLen) :
    Calls Try.prog 41 #[.slice A n c, .slice A' n' c'] w fun e w' => e = .returned (.bool (xs == ys)) ∧ ∃ nq, w' = w.drewN nq := by
  unfold maxLen at hn hn'
  have hl := Lib.hid hx.len
  have hl' := Lib.hid hy.len
  by_cases hne : n = n'
  · subst hne
    have h0 : ((n : Int) != (n : Int)) = false := by simp
    go_enter Try.func41, Try.ntmps41
    go_wp2
    go_loopw [13] (fun i wr => ∃ k : Nat, k ≤ n ∧ i = .int .i64 k ∧ Hid (xs.take k = ys.take k) ∧ ∃ nq, wr = w.drewN nq) (fun i _ => n - (intOf i).toNat)
    case atStart => exact ⟨0, Nat.zero_le _, rfl, by exact rfl, 0, rfl⟩
    case round =>
      obtain ⟨k, hk, rfl, Ht, nq, rfl⟩ := hrel
      by_cases hlt : k < n
      · obtain ⟨b, o, rfl, hb, hc⟩ := hx.at_ hlt
        obtain ⟨b', o', rfl, hb', hc'⟩ := hy.at_ hlt
        generalize hu : xs.getD k false = u at hc
        generalize hv : ys.getD k false = v at hc'
        have Hu := Lib.hid hu; clear hu
        have Hv := Lib.hid hv; clear hv
        cases u <;> cases v
        all_goals
          first
            | (have Huv : Hid (xs.getD k false = ys.getD k false) := by rw [Hu.out, Hv.out]; exact rfl
               go_wp2
               go_quiet (fail)
               go_wp2
               go_roundw
               case rel => exact ⟨k + 1, by omega, by go_num, take_eq_succ false (by rw [hl.out]; exact hlt) (by rw [hl'.out]; exact hlt) Ht.out Huv.out, _, (by first | rfl | exact World.drewN_drewN _ _ _)⟩
               case measure => simp [intOf]; omega)
            | (have Huv : Hid (xs.getD k false ≠ ys.getD k false) := by show _ ≠ _; rw [Hu.out, Hv.out]; intro h; cases h
               go_wp2
               go_quiet (fail)
               go_wp2
               go_ret
               exact ⟨ret_bool (by symm; rw [beq_eq_false_iff_ne]; exact ne_of_getD false Huv.out), _, (by first | rfl | exact World.drewN_drewN _ _ _)⟩)
      · have h1 : k = n := by omega
        subst h1
        go_wp2
        go_ret
        exact ⟨ret_bool (by symm; rw [beq_iff_eq]; exact eq_of_take_all hl.out hl'.out Ht.out), _, rfl⟩
  · have h0 : ((n : Int) != (n' : Int)) = true := by rw [bne_iff_ne]; omega
    go_enter Try.func41, Try.ntmps41
    go_wp2
    go_ret
    exact ⟨ret_bool (by symm; rw [beq_eq_false_iff_ne]; intro e; exact hne (by rw [← hl.out, ← hl'.out, e])), 0, rfl⟩

theorem callFuncSame (args : Array Value) (W : World) : (callFunc 60 args).run Try.prog W = .ok (.enter 60 args) W := by kernel_rfl
set_option maxHeartbeats 400000 in
theorem same1_any (A A' : Option Addr) (n n' c c' : Nat) (xs ys : List Int) (w : World) (S : Nat → Prop) (hx : RInts w S A n xs) (hy : RInts w S A' n' ys) (hn : n ≤ maxLen) (hn' : n' ≤ maxLen) :
    Calls Try.prog 60 #[.slice A n c, .slice A' n' c'] w fun e w' => e = .returned (.bool (xs == ys)) ∧ ∃ nq, w' = w.drewN nq := by
  have Hcall := Lib.hid (equal_clause A A' n n' c c' xs ys w S hx hy hn hn')
  generalize hv : (xs == ys) = v at Hcall
  have Hv := Lib.hid hv
  clear hv hx hy
  go_enter Try.func60, Try.ntmps60
  go_wp2_with fail
  refine Hcall.out.mono ?_
  rintro e w' ⟨rfl, q, rfl⟩
  go_wp2_with fail
  go_ret
  exact ⟨rfl, _, rfl⟩
set_option maxHeartbeats 1000000 in
theorem equalFunc_any (A A' : Option Addr) (n n' c c' : Nat) (xs ys : List (List Int)) (w : World) (S : Nat → Prop) (hx : RClauses w S A n xs) (hy : RClauses w S A' n' ys) (hn : n ≤ maxLen) (hn' : n' ≤ maxLen) :
    Calls Try.prog 59 #[.slice A n c, .slice A' n' c', .func (.func 60) #[] #[]] w fun e w' => e = .returned (.bool (xs == ys)) ∧ ∃ nq, w' = w.drewN nq := by
  unfold maxLen at hn hn'
  have hl := Lib.hid hx.len
  have hl' := Lib.hid hy.len
  have Hx := Lib.hid hx; have Hy := Lib.hid hy
  clear hx hy
  by_cases hne : n = n'
  · subst hne
    have h0 : ((n : Int) != (n : Int)) = false := by simp
    go_enter Try.func59, Try.ntmps59
    go_wp2_with fail
    go_loopg [17] n (fun g i wr => ∃ (k d : Nat), Hid (k + g = n) ∧ i = .int .i64 k ∧ Hid (xs.take k = ys.take k) ∧ wr = w.drewN d)
    case atStart => exact ⟨0, 0, Nat.zero_add _, rfl, rfl, rfl⟩
    case round =>
      obtain ⟨k, d, Hk, rfl, Ht, rfl⟩ := hrel
      by_cases hlt : k < n
      · obtain ⟨b, o, A1, n1, c1, rfl, hb, hc, hr1, hn1, hc1⟩ := Hx.out.at_ hlt
        obtain ⟨b', o', A2, n2, c2, rfl, hb', hc', hr2, hn2, hc2⟩ := Hy.out.at_ hlt
        generalize hu : xs.getD k [] = u at hr1
        generalize hv : ys.getD k [] = v at hr2
        have Hu := Lib.hid hu; have Hv := Lib.hid hv
        have Hcall := Lib.hid (same1_any A1 A2 n1 n2 c1 c2 u v (w.drewN d) S (hr1.keep (fun _ _ => rfl)) (hr2.keep (fun _ _ => rfl)) (by omega) (by omega))
        have henter := callFuncSame
        clear hu hv hr1 hr2
        by_cases huv : u = v
        · have hq : (u == v) = true := by simpa using huv
          rw [hq] at Hcall
          have Huv := Lib.hid huv; clear huv hq
          go_wp2_with fail
          refine Hcall.out.mono ?_
          rintro e w' ⟨rfl, q, rfl⟩
          go_wp2_with fail
          go_roundg (gk - 1)
          case measure => have := Hk.out; omega
          case rel => exact ⟨k + 1, d + q, by have := Hk.out; show _ = _; omega, by go_num, take_eq_succ [] (by rw [hl.out]; exact hlt) (by rw [hl'.out]; exact hlt) Ht.out (by rw [Hu.out, Hv.out, Huv.out]), by first | rfl | exact drewN_drewN _ _ _⟩
        · have hq : (u == v) = false := by simpa using huv
          rw [hq] at Hcall
          have Huv := Lib.hid huv; clear huv hq
          go_wp2_with fail
          refine Hcall.out.mono ?_
          rintro e w' ⟨rfl, q, rfl⟩
          go_wp2_with fail
          go_ret
          exact ⟨ret_bool (by symm; rw [beq_eq_false_iff_ne]; exact ne_of_getD [] (by rw [Hu.out, Hv.out]; exact Huv.out)), d + q, by first | rfl | exact drewN_drewN _ _ _⟩
      · have h1 : k = n := by have := Hk.out; omega
        subst h1
        go_wp2_with fail
        go_ret
        exact ⟨ret_bool (by symm; rw [beq_iff_eq]; exact eq_of_take_all hl.out hl'.out Ht.out), _, rfl⟩
  · have h0 : ((n : Int) != (n' : Int)) = true := by rw [bne_iff_ne]; omega
    go_enter Try.func59, Try.ntmps59
    go_wp2_with fail
    go_ret
    exact ⟨ret_bool (by symm; rw [beq_eq_false_iff_ne]; intro e; exact hne (by rw [← hl.out, ← hl'.out, e])), 0, rfl⟩
set_option maxHeartbeats 400000 in
theorem sameClauses_any (A A' : Option Addr) (n n' c c' : Nat) (xs ys : List (List Int)) (w : World) (S : Nat → Prop) (hx : RClauses w S A n xs) (hy : RClauses w S A' n' ys) (hn : n ≤ maxLen) (hn' : n' ≤ maxLen) :
    Calls Try.prog 42 #[.slice A n c, .slice A' n' c'] w fun e w' => e = .returned (.bool (xs == ys)) ∧ ∃ nq, w' = w.drewN nq := by
  have Hcall := Lib.hid (equalFunc_any A A' n n' c c' xs ys w S hx hy hn hn')
  generalize hv : (xs == ys) = v at Hcall
  have Hv := Lib.hid hv
  clear hv hx hy
  go_enter Try.func42, Try.ntmps42
  go_wp2_with fail
  refine Hcall.out.mono ?_
  rintro e w' ⟨rfl, q, rfl⟩
  go_wp2_with fail
  go_ret
  exact ⟨rfl, _, rfl⟩
end Go.Proofs.Ytpkbncfnkgofmaa
