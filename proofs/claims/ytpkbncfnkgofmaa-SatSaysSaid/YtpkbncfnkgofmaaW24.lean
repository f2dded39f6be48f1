/- Walks: slices.Clone over []int, []api.Clause. -/
import Derived.Test.YtpkbncfnkgofmaaW18
import Derived.WalkSpells
namespace Go.Proofs.Ytpkbncfnkgofmaa
open Go.RowKit
theorem news_of_row {w : World} {S : Nat → Prop} {b o n : Nat} {vs : List Value} (h : Row w S (some ⟨b, o, none⟩) n vs) : ∀ j u, vs[j]? = some u → w.cell? ((⟨b, o, none⟩ : Addr).add j) = some u := by
  intro j u hj
  have hjn : j < n := by have := (List.getElem?_eq_some_iff.1 hj).1; rw [h.len] at this; exact this
  obtain ⟨b', o', e, _, hc⟩ := h.at_ hjn
  injection e with e; injection e with e1 e2
  subst e1 e2
  have hadd : (⟨b, o, none⟩ : Addr).add j = ⟨b, o + j, none⟩ := by unfold Addr.add; split <;> simp_all
  rw [hadd, hc, hj]
theorem Row.some_lit {w : World} {S : Nat → Prop} {A : Option Addr} {n : Nat} {vs : List Value} (h : Row w S A n vs) (hn : 0 < n) : ∃ b o, A = some ⟨b, o, none⟩ ∧ S b := by
  obtain ⟨b, o, e, hS, _⟩ := h.at_ hn
  exact ⟨b, o, e, hS⟩
theorem clause_info : (Try.prog.info? 37).map (fun i => (i.zero, i.size, i.bytes)) = some (some (.slice none 0 0), 1, 24) := by kernel_rfl
theorem int_info' : (Try.prog.info? 3).map (fun i => (i.zero, i.size, i.bytes)) = some (some (.int .i64 0), 1, 8) := by kernel_rfl
def ClonePost (w : World) (E : TypeId) (n : Nat) (vs : List Value) (e : Ending) (w' : World) : Prop :=
  ∃ (A : Option Addr) (c : Nat), e = .returned (.slice A n c) ∧ n ≤ c ∧ c ≤ maxLen ∧ w'.ownsRow w.heap.size E 1 (.slice A n c) n vs ∧ Below w.heap.size w w'
set_option maxHeartbeats 1000000 in
theorem cloneInts_any (A : Option Addr) (n c : Nat) (vs : List Value) (w : World) (S : Nat → Prop) (hr : Row w S A n vs) (hone : ∀ u ∈ vs, u.oneCell' = true) (hS : ∀ k, S k → k < w.heap.size) (hn : n * 8 ≤ 140737488355328) :
    Calls Try.prog 43 #[.slice A n c] w (ClonePost w 3 n vs) := by
  obtain ⟨i0, hi, hz0, hz1, hz2⟩ := info_parts int_info'
  have q : ∀ (w : World) (a : Option Addr) (n c n' c' : Nat), (binOp .eql 24 (.slice a n c) (.slice none n' c')).run Try.prog w = .ok (.bool a.isNone) w := fun w a n c n' c' => Lib.run_eql_slice_nil w _ _ a n c n' c' Try.underlying24
  have Hr := Lib.hid hr; have Hone := Lib.hid hone
  clear hr hone
  by_cases hA : A = none
  · subst hA
    obtain rfl : n = 0 := by
      by_cases h0 : 0 < n
      · obtain ⟨b, o, e, _⟩ := Hr.out.some_lit h0; cases e
      · omega
    obtain rfl : vs = [] := List.eq_nil_of_length_eq_zero Hr.out.len
    go_enter Try.func43, Try.ntmps43
    go_wp2_with fail
    go_ret
    exact ⟨none, 0, rfl, Nat.le_refl _, Nat.zero_le _, World.ownsRow_nil _ _ _ _, Below.refl _ _⟩
  · obtain ⟨ad, rfl⟩ : ∃ ad, A = some ad := by cases A with | none => exact absurd rfl hA | some a => exact ⟨a, rfl⟩
    clear hA
    have hb0 : Below w.heap.size w (w.alloc (.cells #[] 3)) := (Below.refl _ _).alloc (Nat.le_refl _) _
    have hnews : ∀ j u, vs[j]? = some u → (w.alloc (.cells #[] 3)).cell? (ad.add j) = some u := by
      intro j u hj
      have hjn : j < n := by have := (List.getElem?_eq_some_iff.1 hj).1; rw [Hr.out.len] at this; exact this
      obtain ⟨b, o, e, _⟩ := Hr.out.some_lit (by omega)
      injection e with e
      subst e
      exact news_of_row (Hr.out.below hb0 hS) j u hj
    have Hnews := Lib.hid hnews; clear hnews hb0
    have Hl := Lib.hid Hr.out.len
    go_enter Try.func43, Try.ntmps43
    go_wp2_with (at_builtin; refine wpList_append_own _ rfl _ _ 24 rfl w.heap.size 3 i0 (.int .i64 0) 1 8 Try.underlying24 hi hz0 hz1 hz2 rfl (by decide) _ _ _ rfl (World.ownsRow_made w #[] 0 (Nat.le_refl _) (Nat.zero_le _) rfl) ad n c vs rfl ?c1 Hnews.out Hone.out ?c3 ?c4 ?c5 ?_)
    case c1 => rw [Hl.out, Nat.mul_one]
    case c3 => unfold maxLen; omega
    case c4 => omega
    case c5 => simp
    intro v' w1 hown hgrow hnil
    go_wp2_with fail
    go_ret
    have hown' : w1.ownsRow w.heap.size 3 1 v' n vs := by simpa using hown
    obtain ⟨A', c', rfl, h1, h2, _⟩ := own_form hown'
    exact ⟨A', c', rfl, h1, h2, hown', ((Below.refl _ w).alloc (Nat.le_refl _) _).grown hgrow (by simp) (by intro k hk; simp [Value.ownBlock] at hk; omega)⟩
set_option maxHeartbeats 1000000 in
theorem cloneClauses_any (A : Option Addr) (n c : Nat) (vs : List Value) (w : World) (S : Nat → Prop) (hr : Row w S A n vs) (hone : ∀ u ∈ vs, u.oneCell' = true) (hS : ∀ k, S k → k < w.heap.size) (hn : n * 24 ≤ 140737488355328) :
    Calls Try.prog 31 #[.slice A n c] w (ClonePost w 37 n vs) := by
  obtain ⟨i0, hi, hz0, hz1, hz2⟩ := info_parts clause_info
  have q : ∀ (w : World) (a : Option Addr) (n c n' c' : Nat), (binOp .eql 27 (.slice a n c) (.slice none n' c')).run Try.prog w = .ok (.bool a.isNone) w := fun w a n c n' c' => Lib.run_eql_slice_nil w _ _ a n c n' c' Try.underlying27
  have Hr := Lib.hid hr; have Hone := Lib.hid hone
  clear hr hone
  by_cases hA : A = none
  · subst hA
    obtain rfl : n = 0 := by
      by_cases h0 : 0 < n
      · obtain ⟨b, o, e, _⟩ := Hr.out.some_lit h0; cases e
      · omega
    obtain rfl : vs = [] := List.eq_nil_of_length_eq_zero Hr.out.len
    go_enter Try.func31, Try.ntmps31
    go_wp2_with fail
    go_ret
    exact ⟨none, 0, rfl, Nat.le_refl _, Nat.zero_le _, World.ownsRow_nil _ _ _ _, Below.refl _ _⟩
  · obtain ⟨ad, rfl⟩ : ∃ ad, A = some ad := by cases A with | none => exact absurd rfl hA | some a => exact ⟨a, rfl⟩
    clear hA
    have hb0 : Below w.heap.size w (w.alloc (.cells #[] 37)) := (Below.refl _ _).alloc (Nat.le_refl _) _
    have hnews : ∀ j u, vs[j]? = some u → (w.alloc (.cells #[] 37)).cell? (ad.add j) = some u := by
      intro j u hj
      have hjn : j < n := by have := (List.getElem?_eq_some_iff.1 hj).1; rw [Hr.out.len] at this; exact this
      obtain ⟨b, o, e, _⟩ := Hr.out.some_lit (by omega)
      injection e with e
      subst e
      exact news_of_row (Hr.out.below hb0 hS) j u hj
    have Hnews := Lib.hid hnews; clear hnews hb0
    have Hl := Lib.hid Hr.out.len
    go_enter Try.func31, Try.ntmps31
    go_wp2_with (at_builtin; refine wpList_append_own _ rfl _ _ 27 rfl w.heap.size 37 i0 (.slice none 0 0) 1 24 Try.underlying27 hi hz0 hz1 hz2 rfl (by decide) _ _ _ rfl (World.ownsRow_made w #[] 0 (Nat.le_refl _) (Nat.zero_le _) rfl) ad n c vs rfl ?c1 Hnews.out Hone.out ?c3 ?c4 ?c5 ?_)
    case c1 => rw [Hl.out, Nat.mul_one]
    case c3 => unfold maxLen; omega
    case c4 => omega
    case c5 => simp
    intro v' w1 hown hgrow hnil
    go_wp2_with fail
    go_ret
    have hown' : w1.ownsRow w.heap.size 37 1 v' n vs := by simpa using hown
    obtain ⟨A', c', rfl, h1, h2, _⟩ := own_form hown'
    exact ⟨A', c', rfl, h1, h2, hown', ((Below.refl _ w).alloc (Nat.le_refl _) _).grown hgrow (by simp) (by intro k hk; simp [Value.ownBlock] at hk; omega)⟩
set_option maxHeartbeats 1000000 in
theorem cloneVals_any (A : Option Addr) (n c : Nat) (vs : List Value) (w : World) (S : Nat → Prop) (hr : Row w S A n vs) (hone : ∀ u ∈ vs, u.oneCell' = true) (hS : ∀ k, S k → k < w.heap.size) (hn : n * 8 ≤ 140737488355328) :
    Calls Try.prog 63 #[.slice A n c] w (ClonePost w 3 n vs) := by
  obtain ⟨i0, hi, hz0, hz1, hz2⟩ := info_parts int_info'
  have q : ∀ (w : World) (a : Option Addr) (n c n' c' : Nat), (binOp .eql 72 (.slice a n c) (.slice none n' c')).run Try.prog w = .ok (.bool a.isNone) w := fun w a n c n' c' => Lib.run_eql_slice_nil w _ _ a n c n' c' Try.underlying72
  have Hr := Lib.hid hr; have Hone := Lib.hid hone
  clear hr hone
  by_cases hA : A = none
  · subst hA
    obtain rfl : n = 0 := by
      by_cases h0 : 0 < n
      · obtain ⟨b, o, e, _⟩ := Hr.out.some_lit h0; cases e
      · omega
    obtain rfl : vs = [] := List.eq_nil_of_length_eq_zero Hr.out.len
    go_enter Try.func63, Try.ntmps63
    go_wp2_with fail
    go_ret
    exact ⟨none, 0, rfl, Nat.le_refl _, Nat.zero_le _, World.ownsRow_nil _ _ _ _, Below.refl _ _⟩
  · obtain ⟨ad, rfl⟩ : ∃ ad, A = some ad := by cases A with | none => exact absurd rfl hA | some a => exact ⟨a, rfl⟩
    clear hA
    have hb0 : Below w.heap.size w (w.alloc (.cells #[] 3)) := (Below.refl _ _).alloc (Nat.le_refl _) _
    have hnews : ∀ j u, vs[j]? = some u → (w.alloc (.cells #[] 3)).cell? (ad.add j) = some u := by
      intro j u hj
      have hjn : j < n := by have := (List.getElem?_eq_some_iff.1 hj).1; rw [Hr.out.len] at this; exact this
      obtain ⟨b, o, e, _⟩ := Hr.out.some_lit (by omega)
      injection e with e
      subst e
      exact news_of_row (Hr.out.below hb0 hS) j u hj
    have Hnews := Lib.hid hnews; clear hnews hb0
    have Hl := Lib.hid Hr.out.len
    go_enter Try.func63, Try.ntmps63
    go_wp2_with (at_builtin; refine wpList_append_own _ rfl _ _ 72 rfl w.heap.size 3 i0 (.int .i64 0) 1 8 Try.underlying72 hi hz0 hz1 hz2 rfl (by decide) _ _ _ rfl (World.ownsRow_made w #[] 0 (Nat.le_refl _) (Nat.zero_le _) rfl) ad n c vs rfl ?c1 Hnews.out Hone.out ?c3 ?c4 ?c5 ?_)
    case c1 => rw [Hl.out, Nat.mul_one]
    case c3 => unfold maxLen; omega
    case c4 => omega
    case c5 => simp
    intro v' w1 hown hgrow hnil
    go_wp2_with fail
    go_ret
    have hown' : w1.ownsRow w.heap.size 3 1 v' n vs := by simpa using hown
    obtain ⟨A', c', rfl, h1, h2, _⟩ := own_form hown'
    exact ⟨A', c', rfl, h1, h2, hown', ((Below.refl _ w).alloc (Nat.le_refl _) _).grown hgrow (by simp) (by intro k hk; simp [Value.ownBlock] at hk; omega)⟩
end Go.Proofs.Ytpkbncfnkgofmaa
