/- Parts of the proof: walks and plain laws, side by side. -/
import Derived.WalkKit
import Derived.Below
import Derived.Laws.OwnMore
import Derived.Deep.Draws
import Derived.Lib.Hide
import Derived.Test.YtpipgffbhpnmkaaGreatDoorM1
import Derived.Test.YtpipgffbhpnmkaaGreatDoorProg
import Derived.Deep.LoopGhost
import Derived.IntWalk
import Derived.Outline
import Derived.Lib.ConvBytes
import Derived.Lib.AtoiErrMem
import Derived.Lib.Strings
set_option linter.unusedVariables false
set_option linter.unusedSimpArgs false
set_option linter.unusedSectionVars false
/-
  Words for memory of these proofs: a slice that reads as a list of values, of ints, of bools, of lists of ints; a block that is known whole; what a world keeps.
-/
namespace Go.Proofs.YtpipgffbhpnmkaaGreatDoor
open Go.RowKit

/-! a slice's header (address, length) reads as these values, all below block B -/
def Row (w : World) (S : Nat → Prop) (A : Option Addr) (n : Nat) (vs : List Value) : Prop :=
  vs.length = n ∧ (0 < n → ∃ b o, A = some ⟨b, o, none⟩ ∧ S b ∧ ∀ j, j < n → w.cell? ⟨b, o + j, none⟩ = vs[j]?)

section
variable {w w' : World} {S S' : Nat → Prop} {B n : Nat} {A : Option Addr} {vs : List Value}
theorem Row.len (h : Row w S A n vs) : vs.length = n := h.1
theorem Row.nil_ : Row w S A 0 [] := ⟨rfl, fun h => absurd h (by omega)⟩
theorem Row.at_ {k : Nat} (h : Row w S A n vs) (hk : k < n) : ∃ b o, A = some ⟨b, o, none⟩ ∧ S b ∧ w.cell? ⟨b, o + k, none⟩ = vs[k]? := by
  obtain ⟨b, o, e, hb, hc⟩ := h.2 (by omega)
  exact ⟨b, o, e, hb, hc k hk⟩
theorem Row.keep (h : Row w S A n vs) (hk : ∀ p : Addr, S p.block → w'.cell? p = w.cell? p) : Row w' S A n vs :=
  ⟨h.1, fun hn => by
    obtain ⟨b, o, e, hb, hc⟩ := h.2 hn
    exact ⟨b, o, e, hb, fun j hj => (hk _ hb).trans (hc j hj)⟩⟩
theorem Row.more (h : Row w S A n vs) (hS : ∀ k, S k → S' k) : Row w S' A n vs :=
  ⟨h.1, fun hn => by
    obtain ⟨b, o, e, hb, hc⟩ := h.2 hn
    exact ⟨b, o, e, hS _ hb, hc⟩⟩
theorem Row.below (h : Row w S A n vs) (hb : Below B w w') (hS : ∀ k, S k → k < B) : Row w' S A n vs := h.keep fun _ hp => hb.cell (hS _ hp)
theorem Row.drop (h : Row w S A n vs) {k cap : Nat} (hk : k ≤ n) (hc : n ≤ cap) : Row w S (if cap = k then A else A.map (·.add k)) (n - k) (vs.drop k) := by
  refine ⟨by rw [List.length_drop, h.1], fun hn => ?_⟩
  obtain ⟨b, o, e, hb, hcell⟩ := h.2 (by omega)
  subst e
  rw [if_neg (by omega)]
  have he : (⟨b, o, none⟩ : Addr).add k = ⟨b, o + k, none⟩ := by
    unfold Addr.add
    by_cases h0 : k = 0 <;> simp [h0]
  refine ⟨b, o + k, by rw [Option.map_some, he], hb, fun j hj => ?_⟩
  rw [List.getElem?_drop, ← hcell (k + j) (by omega), Nat.add_assoc]
theorem Row.take (h : Row w S A n vs) {k : Nat} (hk : k ≤ n) : Row w S A k (vs.take k) := by
  refine ⟨by rw [List.length_take, h.1]; omega, fun hn => ?_⟩
  obtain ⟨b, o, e, hb, hcell⟩ := h.2 (by omega)
  exact ⟨b, o, e, hb, fun j hj => by rw [hcell j (by omega), List.getElem?_take_of_lt hj]⟩

/-! ints, bools -/
def RInts (w : World) (S : Nat → Prop) (A : Option Addr) (n : Nat) (xs : List Int) : Prop := Row w S A n (xs.map (Value.int .i64))
theorem RInts.len {xs : List Int} (h : RInts w S A n xs) : xs.length = n := by have := h.1; simpa using this
theorem RInts.at_ {xs : List Int} {k : Nat} (h : RInts w S A n xs) (hk : k < n) : ∃ b o, A = some ⟨b, o, none⟩ ∧ S b ∧ w.cell? ⟨b, o + k, none⟩ = some (.int .i64 (xs.getD k 0)) := by
  obtain ⟨b, o, hA, hb, hc⟩ := Row.at_ h hk
  have hl := h.len
  refine ⟨b, o, hA, hb, ?_⟩
  rw [hc, List.getElem?_map, List.getElem?_eq_getElem (by omega), List.getD_eq_getElem?_getD, List.getElem?_eq_getElem (by omega)]; rfl
def RBools (w : World) (S : Nat → Prop) (A : Option Addr) (n : Nat) (xs : List Bool) : Prop := Row w S A n (xs.map Value.bool)
theorem RBools.len {xs : List Bool} (h : RBools w S A n xs) : xs.length = n := by have := h.1; simpa using this
theorem RBools.at_ {xs : List Bool} {k : Nat} (h : RBools w S A n xs) (hk : k < n) : ∃ b o, A = some ⟨b, o, none⟩ ∧ S b ∧ w.cell? ⟨b, o + k, none⟩ = some (.bool (xs.getD k false)) := by
  obtain ⟨b, o, hA, hb, hc⟩ := Row.at_ h hk
  have hl := h.len
  refine ⟨b, o, hA, hb, ?_⟩
  rw [hc, List.getElem?_map, List.getElem?_eq_getElem (by omega), List.getD_eq_getElem?_getD, List.getElem?_eq_getElem (by omega)]; rfl

/-! lists of ints: each cell is a slice's header -/
def RClauses (w : World) (S : Nat → Prop) (A : Option Addr) (n : Nat) (cs : List (List Int)) : Prop :=
  ∃ hs : List (Option Addr × Nat × Nat), Row w S A n (hs.map fun h => Value.slice h.1 h.2.1 h.2.2) ∧ cs.length = n ∧
    ∀ (j : Nat) (h : Option Addr × Nat × Nat) (c : List Int), hs[j]? = some h → cs[j]? = some c → RInts w S h.1 h.2.1 c ∧ h.2.1 ≤ h.2.2 ∧ h.2.2 ≤ maxLen
theorem RClauses.len {cs : List (List Int)} (h : RClauses w S A n cs) : cs.length = n := by obtain ⟨_, _, h, _⟩ := h; exact h
theorem RClauses.at_ {cs : List (List Int)} {k : Nat} (h : RClauses w S A n cs) (hk : k < n) : ∃ b o A' n' c', A = some ⟨b, o, none⟩ ∧ S b ∧ w.cell? ⟨b, o + k, none⟩ = some (.slice A' n' c') ∧
    RInts w S A' n' (cs.getD k []) ∧ n' ≤ c' ∧ c' ≤ maxLen := by
  obtain ⟨hs, hr, hl, hi⟩ := h
  obtain ⟨b, o, hA, hb, hc⟩ := hr.at_ hk
  have hsl : hs.length = n := by simpa using hr.len
  have e1 : hs[k]? = some (hs[k]'(by omega)) := List.getElem?_eq_getElem (by omega)
  have e2 : cs[k]? = some (cs[k]'(by omega)) := List.getElem?_eq_getElem (by omega)
  have e3 : cs.getD k [] = cs[k]'(by omega) := by rw [List.getD_eq_getElem?_getD, e2]; rfl
  refine ⟨b, o, (hs[k]'(by omega)).1, (hs[k]'(by omega)).2.1, (hs[k]'(by omega)).2.2, hA, hb, ?_, ?_⟩
  · rw [hc, List.getElem?_map, e1]; rfl
  · rw [e3]; exact hi k _ _ e1 e2
theorem RInts.keep {xs : List Int} (h : RInts w S A n xs) (hk : ∀ p : Addr, S p.block → w'.cell? p = w.cell? p) : RInts w' S A n xs := Row.keep h hk
theorem RInts.below {xs : List Int} (h : RInts w S A n xs) (hb : Below B w w') (hS : ∀ k, S k → k < B) : RInts w' S A n xs := Row.below h hb hS
theorem RInts.more {xs : List Int} (h : RInts w S A n xs) (hS : ∀ k, S k → S' k) : RInts w S' A n xs := Row.more h hS
theorem RInts.nil_ : RInts w S A 0 [] := Row.nil_
theorem RInts.take {xs : List Int} (h : RInts w S A n xs) {k : Nat} (hk : k ≤ n) : RInts w S A k (xs.take k) := by
  have := Row.take h hk; rwa [← List.map_take] at this
theorem RBools.below {xs : List Bool} (h : RBools w S A n xs) (hb : Below B w w') (hS : ∀ k, S k → k < B) : RBools w' S A n xs := Row.below h hb hS
theorem RBools.more {xs : List Bool} (h : RBools w S A n xs) (hS : ∀ k, S k → S' k) : RBools w S' A n xs := Row.more h hS
theorem RClauses.keep {cs : List (List Int)} (h : RClauses w S A n cs) (hk : ∀ p : Addr, S p.block → w'.cell? p = w.cell? p) : RClauses w' S A n cs := by
  obtain ⟨hs, hr, hl, hi⟩ := h
  exact ⟨hs, hr.keep hk, hl, fun j h c h1 h2 => ⟨(hi j h c h1 h2).1.keep hk, (hi j h c h1 h2).2⟩⟩
theorem RClauses.below {cs : List (List Int)} (h : RClauses w S A n cs) (hb : Below B w w') (hS : ∀ k, S k → k < B) : RClauses w' S A n cs := h.keep fun _ hp => hb.cell (hS _ hp)
theorem RClauses.more {cs : List (List Int)} (h : RClauses w S A n cs) (hS : ∀ k, S k → S' k) : RClauses w S' A n cs := by
  obtain ⟨hs, hr, hl, hi⟩ := h
  exact ⟨hs, hr.more hS, hl, fun j h c h1 h2 => ⟨(hi j h c h1 h2).1.more hS, (hi j h c h1 h2).2⟩⟩
theorem RClauses.nil_ : RClauses w S A 0 [] := ⟨[], Row.nil_, rfl, fun j h c h1 _ => by simp at h1⟩
theorem RClauses.take {cs : List (List Int)} (h : RClauses w S A n cs) {k : Nat} (hk : k ≤ n) : RClauses w S A k (cs.take k) := by
  obtain ⟨hs, hr, hl, hi⟩ := h
  refine ⟨hs.take k, by have := Row.take hr hk; rwa [← List.map_take] at this, by rw [List.length_take]; omega, fun j h c h1 h2 => ?_⟩
  rw [List.getElem?_take] at h1 h2
  split at h1
  · rename_i hjk; rw [if_pos hjk] at h2; exact hi j h c h1 h2
  · cases h1

/-! slices of lists of ints -/
def RLists (w : World) (S : Nat → Prop) (A : Option Addr) (n : Nat) (ls : List (List (List Int))) : Prop :=
  ∃ hs : List (Option Addr × Nat × Nat), Row w S A n (hs.map fun h => Value.slice h.1 h.2.1 h.2.2) ∧ ls.length = n ∧
    ∀ (j : Nat) (h : Option Addr × Nat × Nat) (c : List (List Int)), hs[j]? = some h → ls[j]? = some c → RClauses w S h.1 h.2.1 c ∧ h.2.1 ≤ h.2.2 ∧ h.2.2 ≤ maxLen
theorem RLists.len {ls : List (List (List Int))} (h : RLists w S A n ls) : ls.length = n := by obtain ⟨_, _, h, _⟩ := h; exact h
theorem RLists.at_ {ls : List (List (List Int))} {k : Nat} (h : RLists w S A n ls) (hk : k < n) : ∃ b o A' n' c', A = some ⟨b, o, none⟩ ∧ S b ∧ w.cell? ⟨b, o + k, none⟩ = some (.slice A' n' c') ∧
    RClauses w S A' n' (ls.getD k []) ∧ n' ≤ c' ∧ c' ≤ maxLen := by
  obtain ⟨hs, hr, hl, hi⟩ := h
  obtain ⟨b, o, hA, hb, hc⟩ := hr.at_ hk
  have hsl : hs.length = n := by simpa using hr.len
  have e1 : hs[k]? = some (hs[k]'(by omega)) := List.getElem?_eq_getElem (by omega)
  have e2 : ls[k]? = some (ls[k]'(by omega)) := List.getElem?_eq_getElem (by omega)
  have e3 : ls.getD k [] = ls[k]'(by omega) := by rw [List.getD_eq_getElem?_getD, e2]; rfl
  refine ⟨b, o, (hs[k]'(by omega)).1, (hs[k]'(by omega)).2.1, (hs[k]'(by omega)).2.2, hA, hb, ?_, ?_⟩
  · rw [hc, List.getElem?_map, e1]; rfl
  · rw [e3]; exact hi k _ _ e1 e2
theorem RLists.keep {ls : List (List (List Int))} (h : RLists w S A n ls) (hk : ∀ p : Addr, S p.block → w'.cell? p = w.cell? p) : RLists w' S A n ls := by
  obtain ⟨hs, hr, hl, hi⟩ := h
  exact ⟨hs, hr.keep hk, hl, fun j h c h1 h2 => ⟨(hi j h c h1 h2).1.keep hk, (hi j h c h1 h2).2⟩⟩
theorem RLists.below {ls : List (List (List Int))} (h : RLists w S A n ls) (hb : Below B w w') (hS : ∀ k, S k → k < B) : RLists w' S A n ls := h.keep fun _ hp => hb.cell (hS _ hp)

/-! a block that is known whole, nothing of it frozen -/
def Whole (w : World) (b : Nat) (t : TypeId) (vs : List Value) : Prop := w.heap[b]? = some (.cells vs.toArray t (0, 0))
variable {b : Nat} {t : TypeId}
theorem Whole.lt (h : Whole w b t vs) : b < w.heap.size := lt_of_block h
theorem Whole.cell (h : Whole w b t vs) (i : Nat) : w.cell? ⟨b, i, none⟩ = vs[i]? := by rw [cell_of_row w b i _ t (0, 0) h]; simp
theorem Whole.free (h : Whole w b t vs) (i : Nat) : w.frozen? ⟨b, i, none⟩ = false := frozen_of_row w b i _ t h
theorem Whole.new (w : World) (b : Nat) (t : TypeId) (vs : List Value) (h : b = w.heap.size) : Whole (w.alloc (.cells vs.toArray t)) b t vs := by subst h; exact heap_alloc_new w _
theorem Whole.alloc (h : Whole w b t vs) (o : Obj) : Whole (w.alloc o) b t vs := (Below.heap_alloc w o b h.lt).trans h
theorem Whole.drew (h : Whole w b t vs) : Whole w.drew b t vs := h
theorem Whole.drewN (h : Whole w b t vs) (k : Nat) : Whole (w.drewN k) b t vs := h
theorem Whole.set_ (h : Whole w b t vs) (i : Nat) (u : Value) : Whole (w.setCell ⟨b, i, none⟩ u) b t (vs.set i u) := by
  unfold Whole at h ⊢
  rw [heap_setCell_same w b i _ t u h]; simp
theorem Whole.far (h : Whole w b t vs) {p : Addr} (hp : b ≠ p.block) (u : Value) : Whole (w.setCell p u) b t vs := (heap_setCell_other w p b u hp).trans h
theorem Whole.below {B : Nat} (h : Whole w b t vs) (hb : Below B w w') (hg : b < B) : Whole w' b t vs := (hb.block b hg).trans h
theorem Whole.grown {row : Option Nat} (h : Whole w b t vs) (hg : w.grownBy w' row) (hr : some b ≠ row) : Whole w' b t vs := (hg.block b h.lt hr).trans h
theorem Whole.row (h : Whole w b t vs) {S : Nat → Prop} (hB : S b) {n : Nat} (hn : vs.length = n) : Row w S (some ⟨b, 0, none⟩) n vs :=
  ⟨hn, fun _ => ⟨b, 0, rfl, hB, fun j _ => by rw [Nat.zero_add]; exact h.cell j⟩⟩
theorem Whole.ints {xs : List Int} (h : Whole w b t (xs.map (Value.int .i64))) {S : Nat → Prop} (hB : S b) {n : Nat} (hn : xs.length = n) : RInts w S (some ⟨b, 0, none⟩) n xs :=
  Whole.row h hB (by simpa using hn)
theorem Whole.bools {xs : List Bool} (h : Whole w b t (xs.map Value.bool)) {S : Nat → Prop} (hB : S b) {n : Nat} (hn : xs.length = n) : RBools w S (some ⟨b, 0, none⟩) n xs :=
  Whole.row h hB (by simpa using hn)

/-! what a row that the call owns reads as -/
theorem row_of_own {base : Nat} {e : TypeId} {c : Nat} (h : w.ownsRow base e 1 (.slice A n c) n vs) {S : Nat → Prop} (hS : ∀ g, (.slice A n c : Value).ownBlock = some g → S g) : Row w S A n vs := by
  refine ⟨by simpa using h.1, fun hn => ?_⟩
  rcases h.2 with ⟨_, h0⟩ | ⟨g, cap, cur, hv, hb, hh, hc, hm, hs, ht⟩
  · omega
  · injection hv with h1 h2 h3
    subst h1 h3
    refine ⟨g, 0, rfl, hS g rfl, fun j hj => ?_⟩
    rw [Nat.zero_add]; exact h.cellAt j (by omega)

/-! frames -/
theorem below_drewN {B : Nat} {a w : World} (h : Below B a w) (n : Nat) : Below B a (w.drewN n) := ⟨h.os, h.tape, h.output, h.size, h.block⟩
theorem below_of_grown {B : Nat} {w w' : World} {row : Option Nat} (hg : w.grownBy w' row) (hB : B ≤ w.heap.size) (hr : ∀ k, row = some k → B ≤ k) : Below B w w' := (Below.refl B w).grown hg hB hr
theorem grown_of_below {a w : World} (h : Below a.heap.size a w) (row : Option Nat) : a.grownBy w row := ⟨h.os, h.tape, h.output, h.size, fun i hi _ => h.block i hi⟩
end

/-! endings -/
theorem ret_int {k : IntKind} {a b : Int} (h : a = b) : Ending.returned (.int k a) = .returned (.int k b) := by rw [h]
theorem ret_bool {a b : Bool} (h : a = b) : Ending.returned (.bool a) = .returned (.bool b) := by rw [h]
end Go.Proofs.YtpipgffbhpnmkaaGreatDoor

/-
  Needs in memory: ten cells that read as a need in plain words, its kids a slice of such.
-/
namespace Go.Proofs.YtpipgffbhpnmkaaGreatDoor
open Go.RowKit Qm

/-- The ten cells of a need. -/
def ndRow (k : Int) (a : At) (f : Qm.W) (no : Bool) (A : Option Addr) (n c : Nat) : List Value :=
  [.int .i64 k, .string ⟨a.nm.toArray⟩, .int .i64 a.op, .int .i64 a.ver, .int .i64 a.slot, .string ⟨a.fl.toArray⟩, .bool a.on, .string ⟨f.toArray⟩, .bool no, .slice A n c]

inductive RNd (w : World) (S : Nat → Prop) : List Value → Nd → Prop
  | mk (k : Int) (a : At) (f : Qm.W) (no : Bool) (A : Option Addr) (n c : Nat) (ks : List Nd) (cs : List (List Value))
    (hnc : n ≤ c) (hc : c ≤ maxLen) (h1 : a.nm.length ≤ maxLen) (h2 : a.fl.length ≤ maxLen) (h3 : f.length ≤ maxLen)
    (hk : ks.length = n) (hcs : cs.length = n) (hrow : Row w S A (n * 10) cs.flatten)
    (hr : ∀ (j : Nat) (x : List Value) (y : Nd), cs[j]? = some x → ks[j]? = some y → RNd w S x y) : RNd w S (ndRow k a f no A n c) (.mk k a f no ks)

theorem RNd.ten {w : World} {S : Nat → Prop} {x : List Value} {y : Nd} (h : RNd w S x y) : x.length = 10 := by cases h; rfl

/-- Kids in memory. -/
def RKids (w : World) (S : Nat → Prop) (A : Option Addr) (n : Nat) (ks : List Nd) : Prop :=
  ∃ cs : List (List Value), ks.length = n ∧ cs.length = n ∧ Row w S A (n * 10) cs.flatten ∧ ∀ (j : Nat) (x : List Value) (y : Nd), cs[j]? = some x → ks[j]? = some y → RNd w S x y

theorem RNd.open_ {w : World} {S : Nat → Prop} {x : List Value} {k : Int} {a : At} {f : Qm.W} {no : Bool} {ks : List Nd} (h : RNd w S x (.mk k a f no ks)) :
    ∃ A n c, x = ndRow k a f no A n c ∧ n ≤ c ∧ c ≤ maxLen ∧ a.nm.length ≤ maxLen ∧ a.fl.length ≤ maxLen ∧ f.length ≤ maxLen ∧ RKids w S A n ks := by
  cases h with
  | mk k a f no A n c ks cs hnc hc h1 h2 h3 hk hcs hrow hr => exact ⟨A, n, c, rfl, hnc, hc, h1, h2, h3, cs, hk, hcs, hrow, hr⟩
theorem RNd.shut {w : World} {S : Nat → Prop} {k : Int} {a : At} {f : Qm.W} {no : Bool} {ks : List Nd} {A : Option Addr} {n c : Nat}
    (hnc : n ≤ c) (hc : c ≤ maxLen) (h1 : a.nm.length ≤ maxLen) (h2 : a.fl.length ≤ maxLen) (h3 : f.length ≤ maxLen) (h : RKids w S A n ks) : RNd w S (ndRow k a f no A n c) (.mk k a f no ks) := by
  obtain ⟨cs, hk, hcs, hrow, hr⟩ := h
  exact .mk k a f no A n c ks cs hnc hc h1 h2 h3 hk hcs hrow hr

theorem RNd.keep {w w' : World} {S : Nat → Prop} (hw : ∀ p : Addr, S p.block → w'.cell? p = w.cell? p) {x : List Value} {y : Nd} (h : RNd w S x y) : RNd w' S x y := by
  induction h with
  | mk k a f no A n c ks cs hnc hc h1 h2 h3 hk hcs hrow hr ih => exact .mk k a f no A n c ks cs hnc hc h1 h2 h3 hk hcs (hrow.keep hw) ih
theorem RNd.more {w : World} {S S' : Nat → Prop} (hS : ∀ k, S k → S' k) {x : List Value} {y : Nd} (h : RNd w S x y) : RNd w S' x y := by
  induction h with
  | mk k a f no A n c ks cs hnc hc h1 h2 h3 hk hcs hrow hr ih => exact .mk k a f no A n c ks cs hnc hc h1 h2 h3 hk hcs (hrow.more hS) ih
theorem RNd.under {w w' : World} {S : Nat → Prop} {B : Nat} {x : List Value} {y : Nd} (h : RNd w S x y) (hb : Below B w w') (hS : ∀ k, S k → k < B) : RNd w' S x y := h.keep fun _ hp => hb.cell (hS _ hp)
theorem RKids.keep {w w' : World} {S : Nat → Prop} {A : Option Addr} {n : Nat} {ks : List Nd} (h : RKids w S A n ks) (hw : ∀ p : Addr, S p.block → w'.cell? p = w.cell? p) : RKids w' S A n ks := by
  obtain ⟨cs, hk, hcs, hrow, hr⟩ := h
  exact ⟨cs, hk, hcs, hrow.keep hw, fun j x y h1 h2 => (hr j x y h1 h2).keep hw⟩
theorem RKids.more {w : World} {S S' : Nat → Prop} (hS : ∀ k, S k → S' k) {A : Option Addr} {n : Nat} {ks : List Nd} (h : RKids w S A n ks) : RKids w S' A n ks := by
  obtain ⟨cs, hk, hcs, hrow, hr⟩ := h
  exact ⟨cs, hk, hcs, hrow.more hS, fun j x y h1 h2 => (hr j x y h1 h2).more hS⟩
theorem RKids.under {w w' : World} {S : Nat → Prop} {B : Nat} {A : Option Addr} {n : Nat} {ks : List Nd} (h : RKids w S A n ks) (hb : Below B w w') (hS : ∀ k, S k → k < B) : RKids w' S A n ks := h.keep fun _ hp => hb.cell (hS _ hp)
theorem RKids.len {w : World} {S : Nat → Prop} {A : Option Addr} {n : Nat} {ks : List Nd} (h : RKids w S A n ks) : ks.length = n := by obtain ⟨_, h, _⟩ := h; exact h
theorem RKids.nil_ {w : World} {S : Nat → Prop} {A : Option Addr} : RKids w S A 0 [] := ⟨[], rfl, rfl, by simpa using Row.nil_, fun j x y h _ => by simp at h⟩

theorem flat_at {cs : List (List Value)} (h : ∀ x ∈ cs, x.length = 10) : ∀ {j : Nat} {x : List Value}, cs[j]? = some x → ∀ i, i < 10 → cs.flatten[j * 10 + i]? = x[i]? := by
  induction cs with
  | nil => intro j x hj; simp at hj
  | cons c r ih =>
    intro j x hj i hi
    have hc := h c (List.mem_cons_self ..)
    rw [List.flatten_cons]
    cases j with
    | zero =>
      simp only [List.getElem?_cons_zero, Option.some.injEq] at hj
      subst hj
      rw [List.getElem?_append_left (by omega)]; congr 1; omega
    | succ j =>
      rw [List.getElem?_cons_succ] at hj
      rw [List.getElem?_append_right (by omega)]
      rw [← ih (fun y hy => h y (List.mem_cons_of_mem _ hy)) hj i hi]
      congr 1; omega

/-- The kid at a place. -/
theorem RKids.at_ {w : World} {S : Nat → Prop} {A : Option Addr} {n : Nat} {ks : List Nd} (h : RKids w S A n ks) {j : Nat} (hj : j < n) :
    ∃ b o x y, A = some ⟨b, o, none⟩ ∧ S b ∧ ks[j]? = some y ∧ RNd w S x y ∧ ∀ i, i < 10 → w.cell? ⟨b, o + j * 10 + i, none⟩ = x[i]? := by
  obtain ⟨cs, hk, hcs, hrow, hr⟩ := h
  obtain ⟨b, o, hA, hb, hc⟩ := hrow.2 (by omega)
  have e1 : cs[j]? = some (cs[j]'(by omega)) := List.getElem?_eq_getElem (by omega)
  have e2 : ks[j]? = some (ks[j]'(by omega)) := List.getElem?_eq_getElem (by omega)
  refine ⟨b, o, _, _, hA, hb, e2, hr j _ _ e1 e2, fun i hi => ?_⟩
  rw [Nat.add_assoc, hc (j * 10 + i) (by omega)]
  refine flat_at (fun x hx => ?_) e1 i hi
  obtain ⟨i', hi', e⟩ := List.mem_iff_getElem.1 hx
  exact (hr i' x (ks[i']'(by omega)) (by rw [← e]; exact List.getElem?_eq_getElem hi') (List.getElem?_eq_getElem (by omega))).ten
end Go.Proofs.YtpipgffbhpnmkaaGreatDoor

/- need.count, walked. -/
namespace Go.Proofs.YtpipgffbhpnmkaaGreatDoor
open Go.RowKit Qm

def cntV : Option Int → Value
  | none => .tuple #[.int .i64 0, .bool false]
  | some c => .tuple #[.int .i64 c, .bool true]
theorem drop_step {ks : List Nd} {j : Nat} {y : Nd} (h : ks[j]? = some y) : ks.drop j = y :: ks.drop (j + 1) := by
  obtain ⟨hj, e⟩ := List.getElem?_eq_some_iff.1 h
  rw [List.drop_eq_getElem_cons hj, e]

set_option maxHeartbeats 1600000 in
theorem count_any : ∀ (n : Nd) (S : Nat → Prop) (x : List Value) (d : Nat) (m : Int) (w : World), RNd w S x n → (∀ k, S k → k < w.heap.size) → 1 ≤ d → d ≤ 5 → 0 ≤ m → m ≤ 20 →
    Calls Tryz.prog 141 #[.agg x.toArray, .int .i64 d, .int .i64 m] w fun e w' => e = .returned (cntV (cnt n d m)) ∧ Below w.heap.size w w' := by
  refine Nd.ind fun k a f no ks ih => ?_
  intro S x d m w hR hS hd1 hd5 hm0 hm
  have HI := Lib.hid ih; clear ih
  obtain ⟨A, n, c, rfl, hnc, hc, h1, h2, h3, hK⟩ := hR.open_
  clear hR
  have HS := Lib.hid hS; clear hS
  have HK := Lib.hid hK; clear hK
  unfold maxLen at hc
  clear h1 h2 h3
  unfold ndRow
  have HW := Lib.hid (Whole.new w _ 40 [.int .i64 k, .string ⟨a.nm.toArray⟩, .int .i64 a.op, .int .i64 a.ver, .int .i64 a.slot, .string ⟨a.fl.toArray⟩, .bool a.on, .string ⟨f.toArray⟩, .bool no, .slice A n c] rfl)
  have HB := Lib.hid ((Below.refl _ w).alloc (Nat.le_refl _) (.cells #[.int .i64 k, .string ⟨a.nm.toArray⟩, .int .i64 a.op, .int .i64 a.ver, .int .i64 a.slot, .string ⟨a.fl.toArray⟩, .bool a.on, .string ⟨f.toArray⟩, .bool no, .slice A n c] 40))
  by_cases h4 : 4 < d
  · have h4' : (4 : Int) < (d : Int) := by omega
    go_enter Tryz.func141, Tryz.ntmps141
    go_wp2
    go_ret2
    exact ⟨by simp [cnt, cntV, h4], HB.out⟩
  · have h4' : decide ((4 : Int) < (d : Int)) = false := by simp; omega
    have HC : Hid (cnt (.mk k a f no ks) d m = cntL ks d m 1) := Lib.hid (by simp [cnt, h4])
    go_enter Tryz.func141, Tryz.ntmps141
    go_wp2
    go_loopg [8, 18] n (fun g av iv wr => ∃ (j : Nat) (z : Int), Hid (j + g = n) ∧ iv = .int .i64 j ∧ av = .int .i64 z ∧ 1 ≤ z ∧ z ≤ 21 ∧ Hid (cntL ks d m 1 = cntL (ks.drop j) d m z) ∧ Below w.heap.size w wr)
    case atStart => exact ⟨0, 1, Lib.hid (Nat.zero_add _), rfl, rfl, by omega, by omega, Lib.hid rfl, HB.out⟩
    case round =>
      obtain ⟨j, z, Hj, rfl, rfl, hz1, hz2, Hcl, hb⟩ := hrel
      have HBr := Lib.hid hb; clear hb
      by_cases hj : j < n
      · obtain ⟨b, o, x, y, rfl, hb, hy, hxy, hcell⟩ := (HK.out.under HBr.out HS.out).at_ hj
        have Hdr := Lib.hid (drop_step hy)
        have hmem := List.mem_of_getElem? hy
        obtain ⟨yk, ya, yf, yn, yks⟩ := y
        obtain ⟨A', n', c', rfl, -⟩ := hxy.open_
        have g0 := hcell 0 (by omega); have g1 := hcell 1 (by omega); have g2 := hcell 2 (by omega); have g3 := hcell 3 (by omega); have g4 := hcell 4 (by omega)
        have g5 := hcell 5 (by omega); have g6 := hcell 6 (by omega); have g7 := hcell 7 (by omega); have g8 := hcell 8 (by omega); have g9 := hcell 9 (by omega)
        clear hcell
        unfold ndRow at g0 g1 g2 g3 g4 g5 g6 g7 g8 g9
        simp only [List.getElem?_cons_zero, List.getElem?_cons_succ, Nat.add_zero] at g0 g1 g2 g3 g4 g5 g6 g7 g8 g9
        clear hy
        have hxy2 := (hxy.under (Below.refl _ wr |>.alloc (Nat.le_refl _) (.cells #[.int .i64 yk, .string ⟨ya.nm.toArray⟩, .int .i64 ya.op, .int .i64 ya.ver, .int .i64 ya.slot, .string ⟨ya.fl.toArray⟩, .bool ya.on, .string ⟨yf.toArray⟩, .bool yn, .slice A' n' c'] 40)) fun q hq => Nat.lt_of_lt_of_le (HS.out q hq) HBr.out.size)
        clear hxy
        by_cases hzm : m < z
        · go_wp2_with fail
          go_ret2
          exact ⟨by rw [HC.out, Hcl.out, Hdr.out]; simp [cntL, hzm, cntV], HBr.out.alloc HBr.out.size _⟩
        · have hzm' : decide (m < z) = false := by simpa using hzm
          have hcall := HI.out _ hmem S _ (d + 1) (m - z) _ hxy2 (fun q hq => by have := HS.out q hq; have := HBr.out.size; simp; omega) (by omega) (by omega) (by omega) (by omega)
          have Hle := Lib.hid (cnt_le (.mk yk ya yf yn yks) (d + 1) (m - z))
          have Hge := Lib.hid (cnt_spec (.mk yk ya yf yn yks) (d + 1) (m - z) (by omega)).1
          have e : ((d + 1 : Nat) : Int) = (d : Int) + 1 := by omega
          rw [e] at hcall
          unfold ndRow at hcall
          have HX : Hid (cntL (ks.drop j) d m z = match cnt (.mk yk ya yf yn yks) (d + 1) (m - z) with | none => none | some c => cntL (ks.drop (j + 1)) d m (z + c)) := Lib.hid (by rw [Hdr.out]; simp only [cntL, if_neg hzm]; cases cnt (.mk yk ya yf yn yks) (d + 1) (m - z) <;> rfl)
          generalize hq : cnt (.mk yk ya yf yn yks) (d + 1) (m - z) = q at hcall Hle Hge HX
          have HBn := Lib.hid (HBr.out.alloc HBr.out.size (.cells #[.int .i64 yk, .string ⟨ya.nm.toArray⟩, .int .i64 ya.op, .int .i64 ya.ver, .int .i64 ya.slot, .string ⟨ya.fl.toArray⟩, .bool ya.on, .string ⟨yf.toArray⟩, .bool yn, .slice A' n' c'] 40))
          clear hq e hxy2
          have Hcall := Lib.hid hcall; clear hcall
          rcases q with _ | q
          · simp only [cntV] at Hcall
            go_wp2_with fail
            refine Hcall.out.mono ?_
            rintro e w' ⟨rfl, hb'⟩
            have HB' := Lib.hid (HBn.out.trans (hb'.mono HBn.out.size)); clear hb'
            go_wp2_with fail
            go_ret2
            exact ⟨by rw [HC.out, Hcl.out, HX.out]; rfl, HB'.out⟩
          · simp only [cntV] at Hcall
            have hq1 := Hle.out q (by omega) rfl
            have hq0 := (Hge.out q rfl).1
            go_wp2_with fail
            refine Hcall.out.mono ?_
            rintro e w' ⟨rfl, hb'⟩
            have HB' := Lib.hid (HBn.out.trans (hb'.mono HBn.out.size)); clear hb'
            go_wp2_with fail
            go_roundg (gk - 1)
            case measure => have := Hj.out; omega
            case rel => exact ⟨j + 1, z + q, Lib.hid (by have := Hj.out; omega), by go_num, rfl, by omega, by omega, Lib.hid (by rw [Hcl.out, HX.out]), HB'.out⟩
      · go_wp2_with fail
        go_ret2
        refine ⟨?_, HBr.out⟩
        rw [HC.out, Hcl.out, List.drop_of_length_le (by have := HK.out.len; omega)]; rfl
end Go.Proofs.YtpipgffbhpnmkaaGreatDoor

/- atom.Name, walked. -/
namespace Go.Proofs.YtpipgffbhpnmkaaGreatDoor
open Go.RowKit Qm

theorem okFrom_drop {l : List UInt8} {k : Nat} (h : k < l.length) : okFrom k (l.drop k) = (okAt k (l.getD k 0) && okFrom (k + 1) (l.drop (k + 1))) := by
  rw [List.drop_eq_getElem_cons h, okFrom]
  simp [List.getD, h]

theorem okAt_low {k : Nat} {c : UInt8} (h1 : 97 ≤ c.toNat) (h2 : c.toNat ≤ 122) : okAt k c = true := by simp [okAt, lowB, h1, h2]
theorem okAt_dig {k : Nat} {c : UInt8} (h0 : 0 < k) (h1 : 48 ≤ c.toNat) (h2 : c.toNat ≤ 57) : okAt k c = true := by simp [okAt, digB, h0, h1, h2]
theorem okAt_not {k : Nat} {c : UInt8} (h1 : c.toNat < 97 ∨ 122 < c.toNat) (h2 : k = 0 ∨ c.toNat < 48 ∨ 57 < c.toNat) : okAt k c = false := by
  simp only [okAt, lowB, digB, Bool.or_eq_false_iff, Bool.and_eq_false_iff, decide_eq_false_iff_not]
  omega

set_option maxHeartbeats 1600000 in
theorem name_any (s : ByteArray) (w : World) (hs : s.size ≤ maxLen) :
    Calls Tryz.prog 111 #[.string s] w fun e w' => e = .returned (.bool (isName s.data.toList)) ∧ Below w.heap.size w w' := by
  unfold maxLen at hs
  have HL := Lib.hid (Lib.size_eq s).symm
  by_cases h0 : s.size = 0
  · have hz : s = ⟨#[]⟩ := by
      obtain ⟨⟨l⟩⟩ := s
      have : l.length = 0 := h0
      cases l
      · rfl
      · simp at this
    subst hz
    go_enter Tryz.func111, Tryz.ntmps111
    go_wp2
    go_ret
    exact ⟨rfl, Below.refl _ _⟩
  · have hne : s.toList.isEmpty = false := by
      have := HL.out
      rw [Lib.toList_data]
      cases e : s.data.toList
      · rw [e] at this; simp at this; omega
      · rfl
    by_cases h8 : 8 < s.size
    · have h8' : (8 : Int) < (s.size : Int) := by omega
      go_enter Tryz.func111, Tryz.ntmps111
      go_wp2
      go_ret
      refine ⟨?_, Below.refl _ _⟩
      have : isName s.data.toList = false := by
        have := HL.out
        unfold isName
        rw [decide_eq_false (by omega)]; rfl
      rw [this]; rfl
    · have h8' : decide ((8 : Int) < (s.size : Int)) = false := by simp; omega
      have hcv := Lib.run_convert_string_bytes (P := Tryz.prog) w 9 173 5 s Tryz.underlying9 Tryz.underlying173 Tryz.underlying5
      have hcell : ∀ k, k < s.size → (Lib.bytesWorld w 5 s).cell? ⟨w.heap.size, k, none⟩ = some (.int .u8 (s.data.toList.getD k 0).toNat) := fun k hk => Lib.bytesWorld_cell w 5 s k hk
      have hbw := Lib.bytesWorld_below w 5 s
      have HB := Lib.hid hbw; clear hbw
      generalize Lib.bytesWorld w 5 s = W1 at hcv hcell HB
      have HC := Lib.hid hcell; clear hcell
      go_enter Tryz.func111, Tryz.ntmps111
      go_wp2
      clear hcv
      go_loop [15] (fun i => ∃ k : Nat, k ≤ s.size ∧ i = .int .i64 k ∧ okFrom 0 s.data.toList = okFrom k (s.data.toList.drop k)) (fun i => s.size - (intOf i).toNat)
      case atStart => exact ⟨0, Nat.zero_le _, rfl, rfl⟩
      case round =>
        obtain ⟨k, hk, rfl, hok⟩ := hrel
        have Hok := Lib.hid hok; clear hok
        by_cases hlt : k < s.size
        · have hc := HC.out k hlt
          have HS := Lib.hid (okFrom_drop (l := s.data.toList) (k := k) (by have := HL.out; omega))
          generalize s.data.toList.getD k 0 = c at hc HS
          have no : okAt k c = false → isName s.data.toList = false := by
            intro h
            unfold isName
            rw [Hok.out, HS.out, h, Bool.false_and, Bool.and_false]
          have yes : okAt k c = true → okFrom 0 s.data.toList = okFrom (k + 1) (s.data.toList.drop (k + 1)) := by
            intro h
            rw [Hok.out, HS.out, h, Bool.true_and]
          have No := Lib.hid no; clear no
          have Yes := Lib.hid yes; clear yes
          by_cases a1 : c.toNat < 97
          · have b1 : (c.toNat : Int) < 97 := by omega
            by_cases k0 : k = 0
            · subst k0
              go_wp2
              go_ret
              refine ⟨?_, HB.out⟩
              rw [No.out (okAt_not (by omega) (by omega))]; rfl
            · have bk : ((k : Int) == 0) = false := by simp; omega
              by_cases a3 : c.toNat < 48
              · have b3 : (c.toNat : Int) < 48 := by omega
                go_wp2
                go_ret
                refine ⟨?_, HB.out⟩
                rw [No.out (okAt_not (by omega) (by omega))]; rfl
              · have b3 : decide ((c.toNat : Int) < 48) = false := by simp; omega
                by_cases a4 : 57 < c.toNat
                · have b4 : 57 < (c.toNat : Int) := by omega
                  go_wp2
                  go_ret
                  refine ⟨?_, HB.out⟩
                  rw [No.out (okAt_not (by omega) (by omega))]; rfl
                · have b4 : decide (57 < (c.toNat : Int)) = false := by simp; omega
                  go_wp2
                  go_round
                  case rel => exact ⟨k + 1, by omega, by go_num, Yes.out (okAt_dig (by omega) (by omega) (by omega))⟩
                  case measure => simp [intOf]; omega
          · have b1 : decide ((c.toNat : Int) < 97) = false := by simp; omega
            by_cases a2 : 122 < c.toNat
            · have b2 : 122 < (c.toNat : Int) := by omega
              by_cases k0 : k = 0
              · subst k0
                go_wp2
                go_ret
                refine ⟨?_, HB.out⟩
                rw [No.out (okAt_not (by omega) (by omega))]; rfl
              · have bk : ((k : Int) == 0) = false := by simp; omega
                have b3 : decide ((c.toNat : Int) < 48) = false := by simp; omega
                have b4 : 57 < (c.toNat : Int) := by omega
                go_wp2
                go_ret
                refine ⟨?_, HB.out⟩
                rw [No.out (okAt_not (by omega) (by omega))]; rfl
            · have b2 : decide (122 < (c.toNat : Int)) = false := by simp; omega
              go_wp2
              go_round
              case rel => exact ⟨k + 1, by omega, by go_num, Yes.out (okAt_low (by omega) (by omega))⟩
              case measure => simp [intOf]; omega
        · go_wp2
          go_ret
          refine ⟨?_, HB.out⟩
          have e : okFrom 0 s.data.toList = true := by
            rw [Hok.out, List.drop_of_length_le (by have := HL.out; omega)]; rfl
          have : isName s.data.toList = true := by
            unfold isName
            have := HL.out
            rw [e, decide_eq_true (by omega)]; rfl
          rw [this]; rfl
end Go.Proofs.YtpipgffbhpnmkaaGreatDoor
