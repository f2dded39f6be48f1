/- Parts of the proof: walks and plain laws, side by side. -/
import Derived.Test.YtpipgffbhpnmkaaGreatDoorM3
set_option linter.unusedVariables false
set_option linter.unusedSimpArgs false
set_option linter.unusedSectionVars false
/- Lists of rows of ints by their headers: side by side. -/
namespace Go.Proofs.YtpipgffbhpnmkaaGreatDoor
open Go.RowKit
def hd (h : Option Addr × Nat × Nat) : Value := Value.slice h.1 h.2.1 h.2.2
def Heads (w : World) (S : Nat → Prop) (hs : List (Option Addr × Nat × Nat)) (cs : List (List Int)) : Prop :=
  cs.length = hs.length ∧ ∀ (j : Nat) (h : Option Addr × Nat × Nat) (c : List Int), hs[j]? = some h → cs[j]? = some c → RInts w S h.1 h.2.1 c ∧ h.2.1 ≤ h.2.2 ∧ h.2.2 ≤ maxLen
section
variable {w w' : World} {S S' : Nat → Prop} {A : Option Addr} {n : Nat} {cs ds : List (List Int)} {hs gs : List (Option Addr × Nat × Nat)}
theorem RClauses.open_ (h : RClauses w S A n cs) : ∃ hs, Row w S A n (hs.map hd) ∧ Heads w S hs cs := by
  obtain ⟨hs, hr, hl, hi⟩ := h
  exact ⟨hs, hr, by have := hr.len; simp at this; omega, hi⟩
theorem RClauses.of_ (hr : Row w S A n (hs.map hd)) (h : Heads w S hs cs) : RClauses w S A n cs := ⟨hs, hr, by have := hr.len; have := h.1; simp at *; omega, h.2⟩
theorem Heads.append (h : Heads w S hs cs) (g : Heads w S gs ds) : Heads w S (hs ++ gs) (cs ++ ds) := by
  refine ⟨by simp [h.1, g.1], fun j x c hx hc => ?_⟩
  by_cases hj : j < hs.length
  · rw [List.getElem?_append_left hj] at hx
    rw [List.getElem?_append_left (by rw [h.1]; exact hj)] at hc
    exact h.2 j x c hx hc
  · rw [List.getElem?_append_right (by omega)] at hx
    rw [List.getElem?_append_right (by rw [h.1]; omega), h.1] at hc
    exact g.2 _ x c hx hc
theorem Heads.one {A : Option Addr} {n c : Nat} {xs : List Int} (h : RInts w S A n xs) (hn : n ≤ c ∧ c ≤ maxLen) : Heads w S [(A, n, c)] [xs] := by
  refine ⟨rfl, fun j x y hx hy => ?_⟩
  match j with
  | 0 => simp at hx hy; subst hx hy; exact ⟨h, hn⟩
  | j + 1 => simp at hx
theorem Heads.nil_ : Heads w S [] [] := ⟨rfl, fun j x y hx _ => by simp at hx⟩
theorem Heads.below {B : Nat} (h : Heads w S hs cs) (hb : Below B w w') (hS : ∀ k, S k → k < B) : Heads w' S hs cs := ⟨h.1, fun j x c hx hc => ⟨(h.2 j x c hx hc).1.below hb hS, (h.2 j x c hx hc).2⟩⟩
theorem Heads.more (h : Heads w S hs cs) (hS : ∀ k, S k → S' k) : Heads w S' hs cs := ⟨h.1, fun j x c hx hc => ⟨(h.2 j x c hx hc).1.more hS, (h.2 j x c hx hc).2⟩⟩
theorem Heads.keep (h : Heads w S hs cs) (hk : ∀ p : Addr, S p.block → w'.cell? p = w.cell? p) : Heads w' S hs cs := ⟨h.1, fun j x c hx hc => ⟨(h.2 j x c hx hc).1.keep hk, (h.2 j x c hx hc).2⟩⟩
end
end Go.Proofs.YtpipgffbhpnmkaaGreatDoor
