/-
  Words for memory of these proofs: a slice that reads as a list of values, of ints, of bools, of lists of ints; a block that is known whole; what a world keeps.
-/
import Derived.WalkKit
import Derived.Below
import Derived.Laws.OwnMore
import Derived.Deep.Draws
import Derived.Lib.Hide
namespace Go.Proofs.YtnkmonmkhmcgaaaGreatDoor
open Go.RowKit

/-! a slice's header (address, length) reads as these values, all below block B -/
def Row (w : World) (S : Nat → Prop) (A : Option Addr) (n : Nat) (vs : List Value) : Prop :=
  vs.length = n ∧ (0 < n → ∃ b o, A = some ⟨b, o, none⟩ ∧ S b ∧ ∀ j, j < n → w.cell? ⟨b, o + j, none⟩ = vs[j]?)

section
variable {w w' : World} {S S' : Nat → Prop} {B n : Nat} {A : Option Addr} {vs : List Value}
theorem Row.len (h : Row w S A n vs) : vs.length = n := h.1
theorem Row.nil_ : Row w S A 0 [] := ⟨rfl, fun h => absurd h (by omega)⟩
theorem Row.at_ {k : Nat} (h : Row w S A n vs) (hk : k < n) : ∃ b o, A = some ⟨b, o, none⟩ ∧ S b ∧ w.cell? ⟨b, o + k, none⟩ = vs[k]? := by
  obtain ⟨b, o, e, hb, hc⟩ := h.2 (by omega)
  exact ⟨b, o, e, hb, hc k hk⟩
theorem Row.keep (h : Row w S A n vs) (hk : ∀ p : Addr, S p.block → w'.cell? p = w.cell? p) : Row w' S A n vs :=
  ⟨h.1, fun hn => by
    obtain ⟨b, o, e, hb, hc⟩ := h.2 hn
    exact ⟨b, o, e, hb, fun j hj => (hk _ hb).trans (hc j hj)⟩⟩
theorem Row.more (h : Row w S A n vs) (hS : ∀ k, S k → S' k) : Row w S' A n vs :=
  ⟨h.1, fun hn => by
    obtain ⟨b, o, e, hb, hc⟩ := h.2 hn
    exact ⟨b, o, e, hS _ hb, hc⟩⟩
theorem Row.below (h : Row w S A n vs) (hb : Below B w w') (hS : ∀ k, S k → k < B) : Row w' S A n vs := h.keep fun _ hp => hb.cell (hS _ hp)
theorem Row.drop (h : Row w S A n vs) {k cap : Nat} (hk : k ≤ n) (hc : n ≤ cap) : Row w S (if cap = k then A else A.map (·.add k)) (n - k) (vs.drop k) := by
  refine ⟨by rw [List.length_drop, h.1], fun hn => ?_⟩
  obtain ⟨b, o, e, hb, hcell⟩ := h.2 (by omega)
  subst e
  rw [if_neg (by omega)]
  have he : (⟨b, o, none⟩ : Addr).add k = ⟨b, o + k, none⟩ := by
    unfold Addr.add
    by_cases h0 : k = 0 <;> simp [h0]
  refine ⟨b, o + k, by rw [Option.map_some, he], hb, fun j hj => ?_⟩
  rw [List.getElem?_drop, ← hcell (k + j) (by omega), Nat.add_assoc]
theorem Row.take (h : Row w S A n vs) {k : Nat} (hk : k ≤ n) : Row w S A k (vs.take k) := by
  refine ⟨by rw [List.length_take, h.1]; omega, fun hn => ?_⟩
  obtain ⟨b, o, e, hb, hcell⟩ := h.2 (by omega)
  exact ⟨b, o, e, hb, fun j hj => by rw [hcell j (by omega), List.getElem?_take_of_lt hj]⟩

/-! ints, bools -/
def RInts (w : World) (S : Nat → Prop) (A : Option Addr) (n : Nat) (xs : List Int) : Prop := Row w S A n (xs.map (Value.int .i64))
theorem RInts.len {xs : List Int} (h : RInts w S A n xs) : xs.length = n := by have := h.1; simpa using this
theorem RInts.at_ {xs : List Int} {k : Nat} (h : RInts w S A n xs) (hk : k < n) : ∃ b o, A = some ⟨b, o, none⟩ ∧ S b ∧ w.cell? ⟨b, o + k, none⟩ = some (.int .i64 (xs.getD k 0)) := by
  obtain ⟨b, o, hA, hb, hc⟩ := Row.at_ h hk
  have hl := h.len
  refine ⟨b, o, hA, hb, ?_⟩
  rw [hc, List.getElem?_map, List.getElem?_eq_getElem (by omega), List.getD_eq_getElem?_getD, List.getElem?_eq_getElem (by omega)]; rfl
def RBools (w : World) (S : Nat → Prop) (A : Option Addr) (n : Nat) (xs : List Bool) : Prop := Row w S A n (xs.map Value.bool)
theorem RBools.len {xs : List Bool} (h : RBools w S A n xs) : xs.length = n := by have := h.1; simpa using this
theorem RBools.at_ {xs : List Bool} {k : Nat} (h : RBools w S A n xs) (hk : k < n) : ∃ b o, A = some ⟨b, o, none⟩ ∧ S b ∧ w.cell? ⟨b, o + k, none⟩ = some (.bool (xs.getD k false)) := by
  obtain ⟨b, o, hA, hb, hc⟩ := Row.at_ h hk
  have hl := h.len
  refine ⟨b, o, hA, hb, ?_⟩
  rw [hc, List.getElem?_map, List.getElem?_eq_getElem (by omega), List.getD_eq_getElem?_getD, List.getElem?_eq_getElem (by omega)]; rfl

/-! lists of ints: each cell is a slice's header -/
def RClauses (w : World) (S : Nat → Prop) (A : Option Addr) (n : Nat) (cs : List (List Int)) : Prop :=
  ∃ hs : List (Option Addr × Nat × Nat), Row w S A n (hs.map fun h => Value.slice h.1 h.2.1 h.2.2) ∧ cs.length = n ∧
    ∀ (j : Nat) (h : Option Addr × Nat × Nat) (c : List Int), hs[j]? = some h → cs[j]? = some c → RInts w S h.1 h.2.1 c ∧ h.2.1 ≤ h.2.2 ∧ h.2.2 ≤ maxLen
theorem RClauses.len {cs : List (List Int)} (h : RClauses w S A n cs) : cs.length = n := by obtain ⟨_, _, h, _⟩ := h; exact h
theorem RClauses.at_ {cs : List (List Int)} {k : Nat} (h : RClauses w S A n cs) (hk : k < n) : ∃ b o A' n' c', A = some ⟨b, o, none⟩ ∧ S b ∧ w.cell? ⟨b, o + k, none⟩ = some (.slice A' n' c') ∧
    RInts w S A' n' (cs.getD k []) ∧ n' ≤ c' ∧ c' ≤ maxLen := by
  obtain ⟨hs, hr, hl, hi⟩ := h
  obtain ⟨b, o, hA, hb, hc⟩ := hr.at_ hk
  have hsl : hs.length = n := by simpa using hr.len
  have e1 : hs[k]? = some (hs[k]'(by omega)) := List.getElem?_eq_getElem (by omega)
  have e2 : cs[k]? = some (cs[k]'(by omega)) := List.getElem?_eq_getElem (by omega)
  have e3 : cs.getD k [] = cs[k]'(by omega) := by rw [List.getD_eq_getElem?_getD, e2]; rfl
  refine ⟨b, o, (hs[k]'(by omega)).1, (hs[k]'(by omega)).2.1, (hs[k]'(by omega)).2.2, hA, hb, ?_, ?_⟩
  · rw [hc, List.getElem?_map, e1]; rfl
  · rw [e3]; exact hi k _ _ e1 e2
theorem RInts.keep {xs : List Int} (h : RInts w S A n xs) (hk : ∀ p : Addr, S p.block → w'.cell? p = w.cell? p) : RInts w' S A n xs := Row.keep h hk
theorem RInts.below {xs : List Int} (h : RInts w S A n xs) (hb : Below B w w') (hS : ∀ k, S k → k < B) : RInts w' S A n xs := Row.below h hb hS
theorem RInts.more {xs : List Int} (h : RInts w S A n xs) (hS : ∀ k, S k → S' k) : RInts w S' A n xs := Row.more h hS
theorem RInts.nil_ : RInts w S A 0 [] := Row.nil_
theorem RInts.take {xs : List Int} (h : RInts w S A n xs) {k : Nat} (hk : k ≤ n) : RInts w S A k (xs.take k) := by
  have := Row.take h hk; rwa [← List.map_take] at this
theorem RBools.below {xs : List Bool} (h : RBools w S A n xs) (hb : Below B w w') (hS : ∀ k, S k → k < B) : RBools w' S A n xs := Row.below h hb hS
theorem RBools.more {xs : List Bool} (h : RBools w S A n xs) (hS : ∀ k, S k → S' k) : RBools w S' A n xs := Row.more h hS
theorem RClauses.keep {cs : List (List Int)} (h : RClauses w S A n cs) (hk : ∀ p : Addr, S p.block → w'.cell? p = w.cell? p) : RClauses w' S A n cs := by
  obtain ⟨hs, hr, hl, hi⟩ := h
  exact ⟨hs, hr.keep hk, hl, fun j h c h1 h2 => ⟨(hi j h c h1 h2).1.keep hk, (hi j h c h1 h2).2⟩⟩
theorem RClauses.below {cs : List (List Int)} (h : RClauses w S A n cs) (hb : Below B w w') (hS : ∀ k, S k → k < B) : RClauses w' S A n cs := h.keep fun _ hp => hb.cell (hS _ hp)
theorem RClauses.more {cs : List (List Int)} (h : RClauses w S A n cs) (hS : ∀ k, S k → S' k) : RClauses w S' A n cs := by
  obtain ⟨hs, hr, hl, hi⟩ := h
  exact ⟨hs, hr.more hS, hl, fun j h c h1 h2 => ⟨(hi j h c h1 h2).1.more hS, (hi j h c h1 h2).2⟩⟩
theorem RClauses.nil_ : RClauses w S A 0 [] := ⟨[], Row.nil_, rfl, fun j h c h1 _ => by simp at h1⟩
theorem RClauses.take {cs : List (List Int)} (h : RClauses w S A n cs) {k : Nat} (hk : k ≤ n) : RClauses w S A k (cs.take k) := by
  obtain ⟨hs, hr, hl, hi⟩ := h
  refine ⟨hs.take k, by have := Row.take hr hk; rwa [← List.map_take] at this, by rw [List.length_take]; omega, fun j h c h1 h2 => ?_⟩
  rw [List.getElem?_take] at h1 h2
  split at h1
  · rename_i hjk; rw [if_pos hjk] at h2; exact hi j h c h1 h2
  · cases h1

/-! slices of lists of ints -/
def RLists (w : World) (S : Nat → Prop) (A : Option Addr) (n : Nat) (ls : List (List (List Int))) : Prop :=
  ∃ hs : List (Option Addr × Nat × Nat), Row w S A n (hs.map fun h => Value.slice h.1 h.2.1 h.2.2) ∧ ls.length = n ∧
    ∀ (j : Nat) (h : Option Addr × Nat × Nat) (c : List (List Int)), hs[j]? = some h → ls[j]? = some c → RClauses w S h.1 h.2.1 c ∧ h.2.1 ≤ h.2.2 ∧ h.2.2 ≤ maxLen
theorem RLists.len {ls : List (List (List Int))} (h : RLists w S A n ls) : ls.length = n := by obtain ⟨_, _, h, _⟩ := h; exact h
theorem RLists.at_ {ls : List (List (List Int))} {k : Nat} (h : RLists w S A n ls) (hk : k < n) : ∃ b o A' n' c', A = some ⟨b, o, none⟩ ∧ S b ∧ w.cell? ⟨b, o + k, none⟩ = some (.slice A' n' c') ∧
    RClauses w S A' n' (ls.getD k []) ∧ n' ≤ c' ∧ c' ≤ maxLen := by
  obtain ⟨hs, hr, hl, hi⟩ := h
  obtain ⟨b, o, hA, hb, hc⟩ := hr.at_ hk
  have hsl : hs.length = n := by simpa using hr.len
  have e1 : hs[k]? = some (hs[k]'(by omega)) := List.getElem?_eq_getElem (by omega)
  have e2 : ls[k]? = some (ls[k]'(by omega)) := List.getElem?_eq_getElem (by omega)
  have e3 : ls.getD k [] = ls[k]'(by omega) := by rw [List.getD_eq_getElem?_getD, e2]; rfl
  refine ⟨b, o, (hs[k]'(by omega)).1, (hs[k]'(by omega)).2.1, (hs[k]'(by omega)).2.2, hA, hb, ?_, ?_⟩
  · rw [hc, List.getElem?_map, e1]; rfl
  · rw [e3]; exact hi k _ _ e1 e2
theorem RLists.keep {ls : List (List (List Int))} (h : RLists w S A n ls) (hk : ∀ p : Addr, S p.block → w'.cell? p = w.cell? p) : RLists w' S A n ls := by
  obtain ⟨hs, hr, hl, hi⟩ := h
  exact ⟨hs, hr.keep hk, hl, fun j h c h1 h2 => ⟨(hi j h c h1 h2).1.keep hk, (hi j h c h1 h2).2⟩⟩
theorem RLists.below {ls : List (List (List Int))} (h : RLists w S A n ls) (hb : Below B w w') (hS : ∀ k, S k → k < B) : RLists w' S A n ls := h.keep fun _ hp => hb.cell (hS _ hp)

/-! a block that is known whole, nothing of it frozen -/
def Whole (w : World) (b : Nat) (t : TypeId) (vs : List Value) : Prop := w.heap[b]? = some (.cells vs.toArray t (0, 0))
variable {b : Nat} {t : TypeId}
theorem Whole.lt (h : Whole w b t vs) : b < w.heap.size := lt_of_block h
theorem Whole.cell (h : Whole w b t vs) (i : Nat) : w.cell? ⟨b, i, none⟩ = vs[i]? := by rw [cell_of_row w b i _ t (0, 0) h]; simp
theorem Whole.free (h : Whole w b t vs) (i : Nat) : w.frozen? ⟨b, i, none⟩ = false := frozen_of_row w b i _ t h
theorem Whole.new (w : World) (b : Nat) (t : TypeId) (vs : List Value) (h : b = w.heap.size) : Whole (w.alloc (.cells vs.toArray t)) b t vs := by subst h; exact heap_alloc_new w _
theorem Whole.alloc (h : Whole w b t vs) (o : Obj) : Whole (w.alloc o) b t vs := (Below.heap_alloc w o b h.lt).trans h
theorem Whole.drew (h : Whole w b t vs) : Whole w.drew b t vs := h
theorem Whole.drewN (h : Whole w b t vs) (k : Nat) : Whole (w.drewN k) b t vs := h
theorem Whole.set_ (h : Whole w b t vs) (i : Nat) (u : Value) : Whole (w.setCell ⟨b, i, none⟩ u) b t (vs.set i u) := by
  unfold Whole at h ⊢
  rw [heap_setCell_same w b i _ t u h]; simp
theorem Whole.far (h : Whole w b t vs) {p : Addr} (hp : b ≠ p.block) (u : Value) : Whole (w.setCell p u) b t vs := (heap_setCell_other w p b u hp).trans h
theorem Whole.below {B : Nat} (h : Whole w b t vs) (hb : Below B w w') (hg : b < B) : Whole w' b t vs := (hb.block b hg).trans h
theorem Whole.grown {row : Option Nat} (h : Whole w b t vs) (hg : w.grownBy w' row) (hr : some b ≠ row) : Whole w' b t vs := (hg.block b h.lt hr).trans h
theorem Whole.row (h : Whole w b t vs) {S : Nat → Prop} (hB : S b) {n : Nat} (hn : vs.length = n) : Row w S (some ⟨b, 0, none⟩) n vs :=
  ⟨hn, fun _ => ⟨b, 0, rfl, hB, fun j _ => by rw [Nat.zero_add]; exact h.cell j⟩⟩
theorem Whole.ints {xs : List Int} (h : Whole w b t (xs.map (Value.int .i64))) {S : Nat → Prop} (hB : S b) {n : Nat} (hn : xs.length = n) : RInts w S (some ⟨b, 0, none⟩) n xs :=
  Whole.row h hB (by simpa using hn)
theorem Whole.bools {xs : List Bool} (h : Whole w b t (xs.map Value.bool)) {S : Nat → Prop} (hB : S b) {n : Nat} (hn : xs.length = n) : RBools w S (some ⟨b, 0, none⟩) n xs :=
  Whole.row h hB (by simpa using hn)

/-! what a row that the call owns reads as -/
theorem row_of_own {base : Nat} {e : TypeId} {c : Nat} (h : w.ownsRow base e 1 (.slice A n c) n vs) {S : Nat → Prop} (hS : ∀ g, (.slice A n c : Value).ownBlock = some g → S g) : Row w S A n vs := by
  refine ⟨by simpa using h.1, fun hn => ?_⟩
  rcases h.2 with ⟨_, h0⟩ | ⟨g, cap, cur, hv, hb, hh, hc, hm, hs, ht⟩
  · omega
  · injection hv with h1 h2 h3
    subst h1 h3
    refine ⟨g, 0, rfl, hS g rfl, fun j hj => ?_⟩
    rw [Nat.zero_add]; exact h.cellAt j (by omega)

/-! frames -/
theorem below_drewN {B : Nat} {a w : World} (h : Below B a w) (n : Nat) : Below B a (w.drewN n) := ⟨h.os, h.tape, h.output, h.size, h.block⟩
theorem below_of_grown {B : Nat} {w w' : World} {row : Option Nat} (hg : w.grownBy w' row) (hB : B ≤ w.heap.size) (hr : ∀ k, row = some k → B ≤ k) : Below B w w' := (Below.refl B w).grown hg hB hr
theorem grown_trans {a b c : World} {row : Option Nat} (h : a.grownBy b row) (k : b.grownBy c row) : a.grownBy c row :=
  ⟨k.os.trans h.os, k.tape.trans h.tape, k.output.trans h.output, Nat.le_trans h.size k.size, fun i hi hn => (k.block i (Nat.lt_of_lt_of_le hi h.size) hn).trans (h.block i hi hn)⟩
theorem grown_set {a w : World} {g : Nat} (h : a.grownBy w (some g)) (i : Nat) (u : Value) : a.grownBy (w.setCell ⟨g, i, none⟩ u) (some g) :=
  ⟨h.os, h.tape, h.output, by simpa [World.setCell] using h.size, fun k hk hn => (heap_setCell_other w _ k u (fun e => hn (by rw [e]))).trans (h.block k hk hn)⟩
theorem grown_drewN {a w : World} {row : Option Nat} (h : a.grownBy w row) (n : Nat) : a.grownBy (w.drewN n) row := ⟨h.os, h.tape, h.output, h.size, h.block⟩
theorem grown_of_below {a w : World} (h : Below a.heap.size a w) (row : Option Nat) : a.grownBy w row := ⟨h.os, h.tape, h.output, h.size, fun i hi _ => h.block i hi⟩
end

/-! endings -/
theorem ret_int {k : IntKind} {a b : Int} (h : a = b) : Ending.returned (.int k a) = .returned (.int k b) := by rw [h]
theorem ret_bool {a b : Bool} (h : a = b) : Ending.returned (.bool a) = .returned (.bool b) := by rw [h]
theorem ret2_ii {j k : IntKind} {a b c d : Int} (h : a = b) (h' : c = d) : Ending.returned (.tuple #[.int j a, .int k c]) = .returned (.tuple #[.int j b, .int k d]) := by rw [h, h']
theorem ret2_bi {k : IntKind} {a b : Bool} {c d : Int} (h : a = b) (h' : c = d) : Ending.returned (.tuple #[.bool a, .int k c]) = .returned (.tuple #[.bool b, .int k d]) := by rw [h, h']
theorem ret2_vi {k : IntKind} {v v' : Value} {c d : Int} (h : v = v') (h' : c = d) : Ending.returned (.tuple #[v, .int k c]) = .returned (.tuple #[v', .int k d]) := by rw [h, h']
theorem ret3_vbi {k : IntKind} {v v' : Value} {a b : Bool} {c d : Int} (h : v = v') (h0 : a = b) (h' : c = d) : Ending.returned (.tuple #[v, .bool a, .int k c]) = .returned (.tuple #[v', .bool b, .int k d]) := by rw [h, h0, h']
end Go.Proofs.YtnkmonmkhmcgaaaGreatDoor
