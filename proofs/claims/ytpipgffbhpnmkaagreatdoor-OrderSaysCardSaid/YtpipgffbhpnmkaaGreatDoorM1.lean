/- Parts of the proof: walks and plain laws, side by side. -/
import Derived.WalkKit
import Derived.Below
import Derived.Laws.OwnMore
import Derived.Deep.Draws
import Derived.Lib.Hide
import Derived.Lib.AtoiAll
import Derived.Lib.ItoaNum
import Derived.Lib.IndexAny
import Derived.Lib.IndexLaws
import Derived.Lib.Split
import Derived.Lib.Join
import Derived.Lib.IndexBytes
set_option linter.unusedVariables false
set_option linter.unusedSimpArgs false
set_option linter.unusedSectionVars false
/-
 Words for memory of these proofs: a slice that reads as a list of values, of ints, of bools, of lists of ints; a block that is known whole; what a world keeps.
-/
namespace Go.Proofs.YtpipgffbhpnmkaaGreatDoor
open Go.RowKit

/-! a slice's header (address, length) reads as these values, all below block B -/
def Row (w : World) (S : Nat → Prop) (A : Option Addr) (n : Nat) (vs : List Value) : Prop :=
 vs.length = n ∧ (0 < n → ∃ b o, A = some ⟨b, o, none⟩ ∧ S b ∧ ∀ j, j < n → w.cell? ⟨b, o + j, none⟩ = vs[j]?)

section
variable {w w' : World} {S S' : Nat → Prop} {B n : Nat} {A : Option Addr} {vs : List Value}
theorem Row.len (h : Row w S A n vs) : vs.length = n := h.1
theorem Row.nil_ : Row w S A 0 [] := ⟨rfl, fun h => absurd h (by omega)⟩
theorem Row.at_ {k : Nat} (h : Row w S A n vs) (hk : k < n) : ∃ b o, A = some ⟨b, o, none⟩ ∧ S b ∧ w.cell? ⟨b, o + k, none⟩ = vs[k]? := by
 obtain ⟨b, o, e, hb, hc⟩ := h.2 (by omega)
 exact ⟨b, o, e, hb, hc k hk⟩
theorem Row.keep (h : Row w S A n vs) (hk : ∀ p : Addr, S p.block → w'.cell? p = w.cell? p) : Row w' S A n vs :=
 ⟨h.1, fun hn => by
  obtain ⟨b, o, e, hb, hc⟩ := h.2 hn
  exact ⟨b, o, e, hb, fun j hj => (hk _ hb).trans (hc j hj)⟩⟩
theorem Row.more (h : Row w S A n vs) (hS : ∀ k, S k → S' k) : Row w S' A n vs :=
 ⟨h.1, fun hn => by
  obtain ⟨b, o, e, hb, hc⟩ := h.2 hn
  exact ⟨b, o, e, hS _ hb, hc⟩⟩
theorem Row.below (h : Row w S A n vs) (hb : Below B w w') (hS : ∀ k, S k → k < B) : Row w' S A n vs := h.keep fun _ hp => hb.cell (hS _ hp)
theorem Row.drop (h : Row w S A n vs) {k cap : Nat} (hk : k ≤ n) (hc : n ≤ cap) : Row w S (if cap = k then A else A.map (·.add k)) (n - k) (vs.drop k) := by
 refine ⟨by rw [List.length_drop, h.1], fun hn => ?_⟩
 obtain ⟨b, o, e, hb, hcell⟩ := h.2 (by omega)
 subst e
 rw [if_neg (by omega)]
 have he : (⟨b, o, none⟩ : Addr).add k = ⟨b, o + k, none⟩ := by
  unfold Addr.add
  by_cases h0 : k = 0 <;> simp [h0]
 refine ⟨b, o + k, by rw [Option.map_some, he], hb, fun j hj => ?_⟩
 rw [List.getElem?_drop, ← hcell (k + j) (by omega), Nat.add_assoc]
theorem Row.take (h : Row w S A n vs) {k : Nat} (hk : k ≤ n) : Row w S A k (vs.take k) := by
 refine ⟨by rw [List.length_take, h.1]; omega, fun hn => ?_⟩
 obtain ⟨b, o, e, hb, hcell⟩ := h.2 (by omega)
 exact ⟨b, o, e, hb, fun j hj => by rw [hcell j (by omega), List.getElem?_take_of_lt hj]⟩

/-! ints, bools -/
def RInts (w : World) (S : Nat → Prop) (A : Option Addr) (n : Nat) (xs : List Int) : Prop := Row w S A n (xs.map (Value.int .i64))
theorem RInts.len {xs : List Int} (h : RInts w S A n xs) : xs.length = n := by have := h.1; simpa using this
theorem RInts.at_ {xs : List Int} {k : Nat} (h : RInts w S A n xs) (hk : k < n) : ∃ b o, A = some ⟨b, o, none⟩ ∧ S b ∧ w.cell? ⟨b, o + k, none⟩ = some (.int .i64 (xs.getD k 0)) := by
 obtain ⟨b, o, hA, hb, hc⟩ := Row.at_ h hk
 have hl := h.len
 refine ⟨b, o, hA, hb, ?_⟩
 rw [hc, List.getElem?_map, List.getElem?_eq_getElem (by omega), List.getD_eq_getElem?_getD, List.getElem?_eq_getElem (by omega)]; rfl
def RBools (w : World) (S : Nat → Prop) (A : Option Addr) (n : Nat) (xs : List Bool) : Prop := Row w S A n (xs.map Value.bool)
theorem RBools.len {xs : List Bool} (h : RBools w S A n xs) : xs.length = n := by have := h.1; simpa using this
theorem RBools.at_ {xs : List Bool} {k : Nat} (h : RBools w S A n xs) (hk : k < n) : ∃ b o, A = some ⟨b, o, none⟩ ∧ S b ∧ w.cell? ⟨b, o + k, none⟩ = some (.bool (xs.getD k false)) := by
 obtain ⟨b, o, hA, hb, hc⟩ := Row.at_ h hk
 have hl := h.len
 refine ⟨b, o, hA, hb, ?_⟩
 rw [hc, List.getElem?_map, List.getElem?_eq_getElem (by omega), List.getD_eq_getElem?_getD, List.getElem?_eq_getElem (by omega)]; rfl

/-! lists of ints: each cell is a slice's header -/
def RClauses (w : World) (S : Nat → Prop) (A : Option Addr) (n : Nat) (cs : List (List Int)) : Prop :=
 ∃ hs : List (Option Addr × Nat × Nat), Row w S A n (hs.map fun h => Value.slice h.1 h.2.1 h.2.2) ∧ cs.length = n ∧
  ∀ (j : Nat) (h : Option Addr × Nat × Nat) (c : List Int), hs[j]? = some h → cs[j]? = some c → RInts w S h.1 h.2.1 c ∧ h.2.1 ≤ h.2.2 ∧ h.2.2 ≤ maxLen
theorem RClauses.len {cs : List (List Int)} (h : RClauses w S A n cs) : cs.length = n := by obtain ⟨_, _, h, _⟩ := h; exact h
theorem RClauses.at_ {cs : List (List Int)} {k : Nat} (h : RClauses w S A n cs) (hk : k < n) : ∃ b o A' n' c', A = some ⟨b, o, none⟩ ∧ S b ∧ w.cell? ⟨b, o + k, none⟩ = some (.slice A' n' c') ∧
  RInts w S A' n' (cs.getD k []) ∧ n' ≤ c' ∧ c' ≤ maxLen := by
 obtain ⟨hs, hr, hl, hi⟩ := h
 obtain ⟨b, o, hA, hb, hc⟩ := hr.at_ hk
 have hsl : hs.length = n := by simpa using hr.len
 have e1 : hs[k]? = some (hs[k]'(by omega)) := List.getElem?_eq_getElem (by omega)
 have e2 : cs[k]? = some (cs[k]'(by omega)) := List.getElem?_eq_getElem (by omega)
 have e3 : cs.getD k [] = cs[k]'(by omega) := by rw [List.getD_eq_getElem?_getD, e2]; rfl
 refine ⟨b, o, (hs[k]'(by omega)).1, (hs[k]'(by omega)).2.1, (hs[k]'(by omega)).2.2, hA, hb, ?_, ?_⟩
 ·rw [hc, List.getElem?_map, e1]; rfl
 ·rw [e3]; exact hi k _ _ e1 e2
theorem RInts.keep {xs : List Int} (h : RInts w S A n xs) (hk : ∀ p : Addr, S p.block → w'.cell? p = w.cell? p) : RInts w' S A n xs := Row.keep h hk
theorem RInts.below {xs : List Int} (h : RInts w S A n xs) (hb : Below B w w') (hS : ∀ k, S k → k < B) : RInts w' S A n xs := Row.below h hb hS
theorem RInts.more {xs : List Int} (h : RInts w S A n xs) (hS : ∀ k, S k → S' k) : RInts w S' A n xs := Row.more h hS
theorem RInts.take {xs : List Int} (h : RInts w S A n xs) {k : Nat} (hk : k ≤ n) : RInts w S A k (xs.take k) := by
 have := Row.take h hk; rwa [← List.map_take] at this
theorem RBools.below {xs : List Bool} (h : RBools w S A n xs) (hb : Below B w w') (hS : ∀ k, S k → k < B) : RBools w' S A n xs := Row.below h hb hS
theorem RClauses.keep {cs : List (List Int)} (h : RClauses w S A n cs) (hk : ∀ p : Addr, S p.block → w'.cell? p = w.cell? p) : RClauses w' S A n cs := by
 obtain ⟨hs, hr, hl, hi⟩ := h
 exact ⟨hs, hr.keep hk, hl, fun j h c h1 h2 => ⟨(hi j h c h1 h2).1.keep hk, (hi j h c h1 h2).2⟩⟩
theorem RClauses.below {cs : List (List Int)} (h : RClauses w S A n cs) (hb : Below B w w') (hS : ∀ k, S k → k < B) : RClauses w' S A n cs := h.keep fun _ hp => hb.cell (hS _ hp)
theorem RClauses.more {cs : List (List Int)} (h : RClauses w S A n cs) (hS : ∀ k, S k → S' k) : RClauses w S' A n cs := by
 obtain ⟨hs, hr, hl, hi⟩ := h
 exact ⟨hs, hr.more hS, hl, fun j h c h1 h2 => ⟨(hi j h c h1 h2).1.more hS, (hi j h c h1 h2).2⟩⟩
theorem RClauses.nil_ : RClauses w S A 0 [] := ⟨[], Row.nil_, rfl, fun j h c h1 _ => by simp at h1⟩
/-! slices of lists of ints -/
/-! a block that is known whole, nothing of it frozen -/
def Whole (w : World) (b : Nat) (t : TypeId) (vs : List Value) : Prop := w.heap[b]? = some (.cells vs.toArray t (0, 0))
variable {b : Nat} {t : TypeId}
theorem Whole.lt (h : Whole w b t vs) : b < w.heap.size := lt_of_block h
theorem Whole.cell (h : Whole w b t vs) (i : Nat) : w.cell? ⟨b, i, none⟩ = vs[i]? := by rw [cell_of_row w b i _ t (0, 0) h]; simp
theorem Whole.free (h : Whole w b t vs) (i : Nat) : w.frozen? ⟨b, i, none⟩ = false := frozen_of_row w b i _ t h
theorem Whole.new (w : World) (b : Nat) (t : TypeId) (vs : List Value) (h : b = w.heap.size) : Whole (w.alloc (.cells vs.toArray t)) b t vs := by subst h; exact heap_alloc_new w _
theorem Whole.alloc (h : Whole w b t vs) (o : Obj) : Whole (w.alloc o) b t vs := (Below.heap_alloc w o b h.lt).trans h
theorem Whole.drew (h : Whole w b t vs) : Whole w.drew b t vs := h
theorem Whole.drewN (h : Whole w b t vs) (k : Nat) : Whole (w.drewN k) b t vs := h
theorem Whole.set_ (h : Whole w b t vs) (i : Nat) (u : Value) : Whole (w.setCell ⟨b, i, none⟩ u) b t (vs.set i u) := by
 unfold Whole at h ⊢
 rw [heap_setCell_same w b i _ t u h]; simp
theorem Whole.far (h : Whole w b t vs) {p : Addr} (hp : b ≠ p.block) (u : Value) : Whole (w.setCell p u) b t vs := (heap_setCell_other w p b u hp).trans h
theorem Whole.below {B : Nat} (h : Whole w b t vs) (hb : Below B w w') (hg : b < B) : Whole w' b t vs := (hb.block b hg).trans h
theorem Whole.grown {row : Option Nat} (h : Whole w b t vs) (hg : w.grownBy w' row) (hr : some b ≠ row) : Whole w' b t vs := (hg.block b h.lt hr).trans h
theorem Whole.row (h : Whole w b t vs) {S : Nat → Prop} (hB : S b) {n : Nat} (hn : vs.length = n) : Row w S (some ⟨b, 0, none⟩) n vs :=
 ⟨hn, fun _ => ⟨b, 0, rfl, hB, fun j _ => by rw [Nat.zero_add]; exact h.cell j⟩⟩
/-! what a row that the call owns reads as -/
theorem row_of_own {base : Nat} {e : TypeId} {c : Nat} (h : w.ownsRow base e 1 (.slice A n c) n vs) {S : Nat → Prop} (hS : ∀ g, (.slice A n c : Value).ownBlock = some g → S g) : Row w S A n vs := by
 refine ⟨by simpa using h.1, fun hn => ?_⟩
 rcases h.2 with ⟨_, h0⟩ | ⟨g, cap, cur, hv, hb, hh, hc, hm, hs, ht⟩
 ·omega
 ·injection hv with h1 h2 h3
  subst h1 h3
  refine ⟨g, 0, rfl, hS g rfl, fun j hj => ?_⟩
  rw [Nat.zero_add]; exact h.cellAt j (by omega)

/-! frames -/
theorem below_drewN {B : Nat} {a w : World} (h : Below B a w) (n : Nat) : Below B a (w.drewN n) := ⟨h.os, h.tape, h.output, h.size, h.block⟩
theorem below_of_grown {B : Nat} {w w' : World} {row : Option Nat} (hg : w.grownBy w' row) (hB : B ≤ w.heap.size) (hr : ∀ k, row = some k → B ≤ k) : Below B w w' := (Below.refl B w).grown hg hB hr
theorem grown_set {a w : World} {g : Nat} (h : a.grownBy w (some g)) (i : Nat) (u : Value) : a.grownBy (w.setCell ⟨g, i, none⟩ u) (some g) :=
 ⟨h.os, h.tape, h.output, by simpa [World.setCell] using h.size, fun k hk hn => (heap_setCell_other w _ k u (fun e => hn (by rw [e]))).trans (h.block k hk hn)⟩
theorem grown_of_below {a w : World} (h : Below a.heap.size a w) (row : Option Nat) : a.grownBy w row := ⟨h.os, h.tape, h.output, h.size, fun i hi _ => h.block i hi⟩
end

/-! endings -/
theorem ret_int {k : IntKind} {a b : Int} (h : a = b) : Ending.returned (.int k a) = .returned (.int k b) := by rw [h]
theorem ret_bool {a b : Bool} (h : a = b) : Ending.returned (.bool a) = .returned (.bool b) := by rw [h]
theorem qh {p : Prop} (h : p) : Go.RowKit.Hid p := h
theorem qr (n : Nat) : n ≤ n := Nat.le_refl n
theorem ql {a b c : Nat} (h : a < b) (g : b ≤ c) : a < c := Nat.lt_of_lt_of_le h g
theorem qgz {α : Type} {a : α} {l : List α} : (a :: l)[0]? = some a := List.getElem?_cons_zero
theorem qgs {α : Type} {a : α} {l : List α} {i : Nat} : (a :: l)[i + 1]? = l[i]? := List.getElem?_cons_succ
theorem qsa {α : Type} {l : List α} {i : Nat} {a : α} : l.toArray.setIfInBounds i a = (l.set i a).toArray := List.setIfInBounds_toArray _ _ _
theorem qsz {α : Type} {x : α} {l : List α} {a : α} : (x :: l).set 0 a = a :: l := List.set_cons_zero
theorem qss {α : Type} {x : α} {l : List α} {i : Nat} {a : α} : (x :: l).set (i + 1) a = x :: l.set i a := List.set_cons_succ
end Go.Proofs.YtpipgffbhpnmkaaGreatDoor

namespace Qm
open Go

/-! Atoms, in plain words: no program in sight. -/

structure At where
 nm : List UInt8
 op : Int
 ver : Int
 slot : Int
 fl : List UInt8
 on : Bool
deriving DecidableEq

def At.zero : At := ⟨[], 0, 0, 0, [], false⟩

def lowB (c : UInt8) : Bool := decide (97 ≤ c.toNat ∧ c.toNat ≤ 122)
def digB (c : UInt8) : Bool := decide (48 ≤ c.toNat ∧ c.toNat ≤ 57)
def okAt (i : Nat) (c : UInt8) : Bool := lowB c || (decide (0 < i) && digB c)
def okFrom : Nat → List UInt8 → Bool
 | _, [] => true
 | i, c :: r => okAt i c && okFrom (i + 1) r
def isName (l : List UInt8) : Bool := decide (1 ≤ l.length ∧ l.length ≤ 8) && okFrom 0 l

def ckAtom (a : At) : Int :=
 if isName a.nm = false ∨ a.fl ≠ [] ∧ isName a.fl = false then 1
 else if a.op < 0 ∨ 3 < a.op ∨ a.slot < 0 ∨ 9 < a.slot then 3
 else if a.op = 0 ∧ a.ver ≠ 0 ∨ a.op ≠ 0 ∧ (a.ver < 1 ∨ 99 < a.ver) then 3
 else if a.fl = [] ∧ a.on = true then 4 else 0

def opText (o : Int) : List UInt8 := if o = 1 then [61] else if o = 2 then [62, 61] else if o = 3 then [60] else []
def textOf (a : At) : List UInt8 :=
 a.nm ++ (if a.op ≠ 0 then opText a.op ++ Lib.itoa a.ver else []) ++ (if 0 < a.slot then 58 :: Lib.itoa a.slot else []) ++
  (if a.fl ≠ [] then (if a.on then 43 else 45) :: a.fl else [])

def number (l : List UInt8) : Option Int :=
 match Lib.atoiAll l with
 | .ok v => if Lib.itoa v = l then some v else none
 | _ => none

def cutAt (p : UInt8 → Bool) : List UInt8 → Option (List UInt8 × UInt8 × List UInt8)
 | [] => none
 | c :: r => if p c then some ([], c, r) else match cutAt p r with
  | some (a, b, d) => some (c :: a, b, d)
  | none => none

def signB (c : UInt8) : Bool := c == 43 || c == 45
def opB (c : UInt8) : Bool := c == 61 || c == 60 || c == 62

def fin (a : At) : At × Int := if ckAtom a = 0 then (a, 0) else (At.zero, ckAtom a)
def badAt : At × Int := (At.zero, 1)
def opNum (c : UInt8) (d : List UInt8) : Option (Int × Int) :=
 if c = 61 then (number d).map fun v => (1, v)
 else if c = 60 then (number d).map fun v => (3, v)
 else match d with
  | [] => none
  | e :: r => if e = 61 then (number r).map fun v => (2, v) else none
def parseOp (l fl : List UInt8) (on : Bool) (slot : Int) : At × Int :=
 match cutAt opB l with
 | none => fin ⟨l, 0, 0, slot, fl, on⟩
 | some (a, c, d) => match opNum c d with
  | some (o, v) => fin ⟨a, o, v, slot, fl, on⟩
  | none => badAt
def parseSlot (l fl : List UInt8) (on : Bool) : At × Int :=
 match cutAt (· == 58) l with
 | none => parseOp l fl on 0
 | some (a, _, d) => match number d with
  | some n => if n = 0 then badAt else parseOp a fl on n
  | none => badAt
def parseFew (l : List UInt8) : At × Int :=
 match cutAt signB l with
 | none => parseSlot l [] false
 | some (a, c, d) => if d = [] then badAt else parseSlot a d (c == 43)
def parseAt (l : List UInt8) : At × Int := if 20000 < l.length then (At.zero, 2) else parseFew l

/-! ### Cutting -/

theorem of_cutAt_some {p : UInt8 → Bool} : ∀ {l a : List UInt8} {c : UInt8} {d : List UInt8}, cutAt p l = some (a, c, d) → l = a ++ c :: d ∧ p c = true ∧ ∀ x ∈ a, p x = false
 | [], _, _, _, h => by simp [cutAt] at h
 | x :: r, a, c, d, h => by
  unfold cutAt at h
  by_cases hx : p x = true
  ·simp only [hx, if_true, Option.some.injEq, Prod.mk.injEq] at h
   obtain ⟨rfl, rfl, rfl⟩ := h
   exact ⟨rfl, hx, by simp⟩
  ·simp only [hx, Bool.false_eq_true, if_false] at h
   cases hr : cutAt p r with
   | none => rw [hr] at h; cases h
   | some t =>
    obtain ⟨a', c', d'⟩ := t
    rw [hr] at h
    simp only [Option.some.injEq, Prod.mk.injEq] at h
    obtain ⟨rfl, rfl, rfl⟩ := h
    obtain ⟨h1, h2, h3⟩ := of_cutAt_some hr
    refine ⟨by rw [h1]; rfl, h2, ?_⟩
    intro y hy
    rcases List.mem_cons.1 hy with rfl | hy
    ·simpa using hx
    ·exact h3 y hy

theorem of_cutAt_none {p : UInt8 → Bool} : ∀ {l : List UInt8}, cutAt p l = none → ∀ x ∈ l, p x = false
 | [], _, x, hx => by cases hx
 | y :: r, h, x, hx => by
  unfold cutAt at h
  by_cases hy : p y = true
  ·simp [hy] at h
  ·simp only [hy, Bool.false_eq_true, if_false] at h
   have hr : cutAt p r = none := by
    cases hr : cutAt p r with
    | none => rfl
    | some t => rw [hr] at h; cases h
   rcases List.mem_cons.1 hx with rfl | hx
   ·simpa using hy
   ·exact of_cutAt_none hr x hx

theorem cutAt_indexAny (cs : List UInt8) : ∀ (l : List UInt8), Lib.indexAny l cs = match cutAt (fun c => cs.contains c) l with | none => -1 | some (a, _, _) => (a.length : Int)
 | [] => rfl
 | c :: r => by
  have ih := cutAt_indexAny cs r
  by_cases hc : cs.contains c = true
  ·simp only [Lib.indexAny, cutAt, hc, if_true]
   rfl
  ·simp only [Lib.indexAny, cutAt, hc, Bool.false_eq_true, if_false]
   cases hr : cutAt (fun c => cs.contains c) r with
   | none => rw [hr] at ih; simp [ih]
   | some t =>
    obtain ⟨a, b, d⟩ := t
    rw [hr] at ih
    simp only [] at ih
    simp only [List.length_cons]
    rw [ih]
    have : ((a.length : Int) == -1) = false := by simp
    rw [this]
    simp

/-! ### What stands in a name, and in a numeral -/

theorem okFrom_mem : ∀ {i : Nat} {l : List UInt8}, okFrom i l = true → ∀ c ∈ l, lowB c = true ∨ digB c = true
 | _, [], _, c, hc => by cases hc
 | i, x :: r, h, c, hc => by
  simp only [okFrom, Bool.and_eq_true] at h
  rcases List.mem_cons.1 hc with rfl | hc
  ·have := h.1
   simp only [okAt, Bool.or_eq_true, Bool.and_eq_true] at this
   rcases this with h1 | h1
   ·exact .inl h1
   ·exact .inr h1.2
  ·exact okFrom_mem h.2 c hc

theorem isName_mem {l : List UInt8} (h : isName l = true) : ∀ c ∈ l, lowB c = true ∨ digB c = true := by
 simp only [isName, Bool.and_eq_true] at h
 exact okFrom_mem h.2

theorem isName_len {l : List UInt8} (h : isName l = true) : 1 ≤ l.length ∧ l.length ≤ 8 := by
 simp only [isName, Bool.and_eq_true, decide_eq_true_eq] at h
 exact h.1

theorem decDigits_mem (u : Nat) : ∀ c ∈ Lib.decDigits u, digB c = true := by
 induction u using Nat.strongRecOn with
 | _ u ih =>
  intro c hc
  rw [Lib.decDigits] at hc
  split at hc
  ·rename_i h
   simp only [List.mem_singleton] at hc
   subst hc
   simp only [digB, decide_eq_true_eq, UInt8.toNat_ofNat']
   omega
  ·rename_i h
   rcases List.mem_append.1 hc with hc | hc
   ·exact ih (u / 10) (by omega) c hc
   ·simp only [List.mem_singleton] at hc
    subst hc
    simp only [digB, decide_eq_true_eq, UInt8.toNat_ofNat']
    omega

theorem itoa_mem {n : Int} (h : 0 ≤ n) : ∀ c ∈ Lib.itoa n, digB c = true := by
 unfold Lib.itoa
 rw [if_neg (by omega)]
 exact decDigits_mem _

theorem of_number {l : List UInt8} {v : Int} (h : number l = some v) : Lib.itoa v = l := by
 unfold number at h
 split at h
 ·split at h
  ·cases h; assumption
  ·cases h
 ·cases h

end Qm

namespace Qm
open Go

/-! What is printed is read, and what is read is printed as it was. -/

structure AtOk (a : At) : Prop where
 nm : isName a.nm = true
 fl : a.fl ≠ [] → isName a.fl = true
 op : 0 ≤ a.op ∧ a.op ≤ 3
 slot : 0 ≤ a.slot ∧ a.slot ≤ 9
 none : a.op = 0 → a.ver = 0
 some : a.op ≠ 0 → 1 ≤ a.ver ∧ a.ver ≤ 99
 on : a.fl = [] → a.on = false

theorem atOk {a : At} (h : ckAtom a = 0) : AtOk a := by
 unfold ckAtom at h
 split at h
 ·simp at h
 rename_i h1
 split at h
 ·simp at h
 rename_i h2
 split at h
 ·simp at h
 rename_i h3
 split at h
 ·simp at h
 rename_i h4
 refine ⟨?_, ?_, by omega, by omega, by omega, by omega, ?_⟩
 ·cases e : isName a.nm
  ·exact absurd (.inl e) h1
  ·rfl
 ·intro e
  cases e' : isName a.fl
  ·exact absurd (.inr ⟨e, e'⟩) h1
  ·rfl
 ·intro e
  cases e' : a.on
  ·rfl
  ·exact absurd ⟨e, e'⟩ h4

def opPart (a : At) : List UInt8 := if a.op ≠ 0 then opText a.op ++ Lib.itoa a.ver else []
def slotPart (a : At) : List UInt8 := if 0 < a.slot then 58 :: Lib.itoa a.slot else []

/-! And back. -/

theorem of_fin {a x : At} (h : fin a = (x, 0)) : x = a ∧ ckAtom a = 0 := by
 unfold fin at h
 split at h
 ·rename_i hk
  exact ⟨(Prod.mk.inj h).1.symm, hk⟩
 ·rename_i hk
  exact absurd (Prod.mk.inj h).2 hk

theorem not_bad {x : At} : ¬ badAt = (x, 0) := by
 intro h
 have := (Prod.mk.inj h).2
 simp at this

theorem of_parseOp {l fl : List UInt8} {on : Bool} {slot : Int} {x : At} (h : parseOp l fl on slot = (x, 0)) :
  ckAtom x = 0 ∧ x.slot = slot ∧ x.fl = fl ∧ x.on = on ∧ x.nm ++ opPart x = l := by
 unfold parseOp at h
 split at h
 ·obtain ⟨rfl, hk⟩ := of_fin h
  exact ⟨hk, rfl, rfl, rfl, by simp [opPart]⟩
 ·rename_i a c d hc
  obtain ⟨e, hp, _⟩ := of_cutAt_some hc
  split at h
  ·rename_i o v ho
   obtain ⟨rfl, hk⟩ := of_fin h
   refine ⟨hk, rfl, rfl, rfl, ?_⟩
   rw [e]
   congr 1
   unfold opNum at ho
   split at ho
   ·rename_i hc1
    cases hn : number d with
    | none => rw [hn] at ho; cases ho
    | some w =>
     rw [hn] at ho
     simp only [Option.map_some, Option.some.injEq, Prod.mk.injEq] at ho
     obtain ⟨rfl, rfl⟩ := ho
     have := of_number hn
     simp [opPart, opText, this, hc1]
   ·split at ho
    ·rename_i hc1
     cases hn : number d with
     | none => rw [hn] at ho; cases ho
     | some w =>
      rw [hn] at ho
      simp only [Option.map_some, Option.some.injEq, Prod.mk.injEq] at ho
      obtain ⟨rfl, rfl⟩ := ho
      have := of_number hn
      simp [opPart, opText, this, hc1]
    ·rename_i hc1 hc2
     have hc3 : c = 62 := by
      have : (c == 61) = false := by simpa using hc1
      have : (c == 60) = false := by simpa using hc2
      simpa [opB, *] using hp
     cases d with
     | nil => cases ho
     | cons y r =>
      simp only [] at ho
      split at ho
      ·rename_i hy
       cases hn : number r with
       | none => rw [hn] at ho; cases ho
       | some w =>
        rw [hn] at ho
        simp only [Option.map_some, Option.some.injEq, Prod.mk.injEq] at ho
        obtain ⟨rfl, rfl⟩ := ho
        have := of_number hn
        simp [opPart, opText, this, hc3, hy]
      ·cases ho
  ·exact absurd h not_bad

theorem of_parseSlot {l fl : List UInt8} {on : Bool} {x : At} (h : parseSlot l fl on = (x, 0)) :
  ckAtom x = 0 ∧ x.fl = fl ∧ x.on = on ∧ x.nm ++ opPart x ++ slotPart x = l := by
 unfold parseSlot at h
 split at h
 ·obtain ⟨h1, h2, h3, h4, h5⟩ := of_parseOp h
  refine ⟨h1, h3, h4, ?_⟩
  rw [h5]
  simp [slotPart, h2]
 ·rename_i a c d hc
  obtain ⟨e, hp, _⟩ := of_cutAt_some hc
  split at h
  ·rename_i n hn
   split at h
   ·exact absurd h not_bad
   ·rename_i hn0
    obtain ⟨h1, h2, h3, h4, h5⟩ := of_parseOp h
    refine ⟨h1, h3, h4, ?_⟩
    have hs := (atOk h1).slot
    have hp' : c = 58 := by simpa using hp
    rw [h5, e]
    unfold slotPart
    rw [if_pos (by omega), h2, of_number hn, hp']
  ·exact absurd h not_bad

theorem parse_back {l : List UInt8} {x : At} (h : parseAt l = (x, 0)) : ckAtom x = 0 ∧ textOf x = l := by
 unfold parseAt at h
 split at h
 ·have := (Prod.mk.inj h).2
  simp at this
 ·unfold parseFew at h
  split at h
  ·obtain ⟨h1, h2, h3, h4⟩ := of_parseSlot h
   refine ⟨h1, ?_⟩
   show x.nm ++ opPart x ++ slotPart x ++ _ = l
   rw [h4, h2]
   simp
  ·rename_i a c d hc
   obtain ⟨e, hp, _⟩ := of_cutAt_some hc
   split at h
   ·exact absurd h not_bad
   ·rename_i hd
    obtain ⟨h1, h2, h3, h4⟩ := of_parseSlot h
    refine ⟨h1, ?_⟩
    show x.nm ++ opPart x ++ slotPart x ++ _ = l
    rw [h4, h2, h3, e, if_pos hd]
    congr 2
    have hp' : c = 43 ∨ c = 45 := by simpa [signB] using hp
    rcases hp' with rfl | rfl <;> rfl

end Qm

namespace Qm
open Go

/-! Needs, in plain words: no program in sight. -/

abbrev W := List UInt8

inductive Nd where
 | mk (kind : Int) (a : At) (fl : W) (no : Bool) (kids : List Nd)

def Nd.kind : Nd → Int | .mk k _ _ _ _ => k
def Nd.zero : Nd := .mk 0 At.zero [] false []

theorem Nd.ind {P : Nd → Prop} (h : ∀ k a f no ks, (∀ x ∈ ks, P x) → P (.mk k a f no ks)) : ∀ n, P n
 | .mk k a f no ks => h k a f no ks fun x _ => Nd.ind h x

mutual
def Nd.nodes : Nd → Nat
 | .mk _ _ _ _ ks => 1 + nodesL ks
def nodesL : List Nd → Nat
 | [] => 0
 | k :: r => k.nodes + nodesL r
end
mutual
def Nd.deep : Nd → Nat
 | .mk _ _ _ _ ks => 1 + deepL ks
def deepL : List Nd → Nat
 | [] => 0
 | k :: r => max k.deep (deepL r)
end

/-! ### the program's count -/
mutual
def cnt : Nd → Nat → Int → Option Int
 | .mk _ _ _ _ ks, d, m => if 4 < d then none else cntL ks d m 1
def cntL : List Nd → Nat → Int → Int → Option Int
 | [], _, _, all => some all
 | k :: r, d, m, all => if m < all then some all else match cnt k (d + 1) (m - all) with
  | none => none
  | some c => cntL r d m (all + c)
end

theorem cntL_spec {ks : List Nd} (ih : ∀ x ∈ ks, ∀ (d : Nat) (m : Int), 1 ≤ d → (∀ c, cnt x d m = some c → 1 ≤ c ∧ (c ≤ m → c = x.nodes ∧ d + x.deep ≤ 5)) ∧ ((x.nodes : Int) ≤ m → d + x.deep ≤ 5 → cnt x d m = some (x.nodes : Int)) ∧ (cnt x d m = none → 5 < d + x.deep)) :
  ∀ (d : Nat) (m all : Int), 1 ≤ d → 1 ≤ all → d ≤ 4 → (∀ c, cntL ks d m all = some c → all ≤ c ∧ (c ≤ m → c = all + nodesL ks ∧ d + deepL ks ≤ 4)) ∧ (all + nodesL ks ≤ m → d + deepL ks ≤ 4 → cntL ks d m all = some (all + (nodesL ks : Int))) ∧ (cntL ks d m all = none → 4 < d + deepL ks) := by
 induction ks with
 | nil =>
  intro d m all hd ha hd4
  refine ⟨?_, ?_, ?_⟩
  ·intro c hc
   simp only [cntL, Option.some.injEq] at hc
   simp only [nodesL, deepL]
   omega
  ·intro _ _; simp [cntL, nodesL]
  ·intro h; simp [cntL] at h
 | cons k r ihr =>
  intro d m all hd ha hd4
  have ik := ih k (List.mem_cons_self ..) (d + 1) (m - all) (by omega)
  have ir := ihr fun x hx => ih x (List.mem_cons_of_mem _ hx)
  simp only [cntL, nodesL, deepL]
  by_cases hm : m < all
  ·rw [if_pos hm]
   refine ⟨?_, ?_, ?_⟩
   ·intro c hc
    simp only [Option.some.injEq] at hc
    omega
   ·intro h; omega
   ·intro h; cases h
  ·rw [if_neg hm]
   obtain ⟨i1, i2, i3⟩ := ik
   cases hk : cnt k (d + 1) (m - all) with
   | none =>
    have := i3 hk
    refine ⟨fun c hc => (by cases hc), fun h1 h2 => ?_, fun _ => by omega⟩
    have := i2 (by omega) (by omega)
    rw [hk] at this; cases this
   | some c =>
    obtain ⟨h1, h2⟩ := i1 c hk
    obtain ⟨r1, r2, r3⟩ := ir d m (all + c) hd (by omega) hd4
    simp only []
    refine ⟨?_, ?_, ?_⟩
    ·intro e he
     obtain ⟨q1, q2⟩ := r1 e he
     refine ⟨by omega, fun hem => ?_⟩
     obtain ⟨p1, p2⟩ := q2 hem
     obtain ⟨s1, s2⟩ := h2 (by omega)
     omega
    ·intro q1 q2
     have hc' := i2 (by omega) (by omega)
     rw [hk] at hc'
     simp only [Option.some.injEq] at hc'
     rw [r2 (by omega) (by omega)]
     congr 1; omega
    ·intro e
     have := r3 e
     omega

theorem cnt_spec : ∀ (n : Nd) (d : Nat) (m : Int), 1 ≤ d → (∀ c, cnt n d m = some c → 1 ≤ c ∧ (c ≤ m → c = n.nodes ∧ d + n.deep ≤ 5)) ∧ ((n.nodes : Int) ≤ m → d + n.deep ≤ 5 → cnt n d m = some (n.nodes : Int)) ∧ (cnt n d m = none → 5 < d + n.deep) := by
 refine Nd.ind fun k a f no ks ih => ?_
 intro d m hd
 simp only [cnt, Nd.nodes, Nd.deep]
 by_cases h : 4 < d
 ·rw [if_pos h]
  exact ⟨fun c hc => (by cases hc), fun _ h2 => by omega, fun _ => by omega⟩
 ·rw [if_neg h]
  obtain ⟨r1, r2, r3⟩ := cntL_spec ih d m 1 hd (by omega) (by omega)
  refine ⟨?_, ?_, ?_⟩
  ·intro c hc
   obtain ⟨q1, q2⟩ := r1 c hc
   refine ⟨q1, fun h => ?_⟩
   obtain ⟨p1, p2⟩ := q2 h
   omega
  ·intro h1 h2
   rw [r2 (by omega) (by omega)]
   congr 1
  ·intro h
   have := r3 h
   omega

theorem cntL_le {ks : List Nd} (ih : ∀ x ∈ ks, ∀ (d : Nat) (m c : Int), 0 ≤ m → cnt x d m = some c → c ≤ m + 1) :
  ∀ (d : Nat) (m all c : Int), all ≤ m + 1 → cntL ks d m all = some c → c ≤ m + 1 := by
 induction ks with
 | nil => intro d m all c h1 h; simp only [cntL, Option.some.injEq] at h; omega
 | cons k r ihr =>
  intro d m all c h1 h
  simp only [cntL] at h
  split at h
  ·simp only [Option.some.injEq] at h; omega
  ·split at h
   ·cases h
   ·rename_i c' hc'
    have := ih k (List.mem_cons_self ..) _ _ _ (by omega) hc'
    exact ihr (fun x hx => ih x (List.mem_cons_of_mem _ hx)) d m _ c (by omega) h
theorem cnt_le : ∀ (n : Nd) (d : Nat) (m c : Int), 0 ≤ m → cnt n d m = some c → c ≤ m + 1 := by
 refine Nd.ind fun k a f no ks ih => ?_
 intro d m c hm h
 simp only [cnt] at h
 split at h
 ·cases h
 ·exact cntL_le ih d m 1 c (by omega) h

def tooMany (n : Nd) : Prop := 4 < n.deep ∨ 20 < n.nodes
instance (n : Nd) : Decidable (tooMany n) := by unfold tooMany; exact inferInstance
theorem cnt_many (n : Nd) : (∀ c, cnt n 1 20 = some c → (20 < c ↔ tooMany n)) ∧ (cnt n 1 20 = none → tooMany n) := by
 obtain ⟨r1, r2, r3⟩ := cnt_spec n 1 20 (by omega)
 unfold tooMany
 refine ⟨?_, ?_⟩
 ·intro c hc
  obtain ⟨q1, q2⟩ := r1 c hc
  constructor
  ·intro h
   by_cases h1 : (n.nodes : Int) ≤ 20 ∧ 1 + n.deep ≤ 5
   ·have := r2 h1.1 h1.2
    rw [hc] at this
    simp only [Option.some.injEq] at this
    omega
   ·omega
  ·intro h
   by_cases h1 : c ≤ 20
   ·obtain ⟨p1, p2⟩ := q2 h1
    omega
   ·omega
 ·intro h
  have := r3 h
  omega

/-! ### what a need must be -/
def leafK (k : Int) : Bool := decide (k = 1 ∨ k = 2)
mutual
def ckNd : Nd → Int
 | .mk k a f no ks =>
  if k < 1 ∨ 5 < k then 4
  else if leafK k = true ∧ ks.length ≠ 0 then 4
  else if leafK k = false ∧ a ≠ At.zero then 4
  else if k ≠ 5 ∧ (f ≠ [] ∨ no = true) then 4
  else if k = 5 ∧ isName f = false then 1
  else if leafK k = true then ckAtom a
  else ckKids ks
def ckKids : List Nd → Int
 | [] => 0
 | k :: r => if ckNd k = 0 then ckKids r else ckNd k
end
def ckNeed (n : Nd) : Int := if tooMany n then 2 else ckNd n

/-! ### words -/
def prAtom (a : At) : W := if ckAtom a = 0 then textOf a else []
def headW (k : Int) (f : W) (no : Bool) : List W := if k = 4 then [[124, 124]] else if k = 5 then [(if no then [33] else []) ++ (f ++ [63])] else []
mutual
def wordsN : Nd → List W
 | .mk k a f no ks => if k = 1 then [prAtom a] else if k = 2 then [33 :: prAtom a] else headW k f no ++ [40] :: (wordsL ks ++ [[41]])
def wordsL : List Nd → List W
 | [] => []
 | k :: r => wordsN k ++ wordsL r
end

def joinB (c : UInt8) : List W → W
 | [] => []
 | w :: r => match r with
  | [] => w
  | _ => w ++ c :: joinB c r
def splitGo (c : UInt8) : W → W → List W
 | acc, [] => [acc]
 | acc, x :: r => if x = c then acc :: splitGo c [] r else splitGo c (acc ++ [x]) r
def splitB (c : UInt8) (l : W) : List W := splitGo c [] l

/-! ### reading -/
def readKids (rd : List W → Option (Nd × List W)) : Nat → List W → Option (List Nd × List W)
 | 0, _ => none
 | f + 1, ws => match ws with
  | [] => some ([], [])
  | w :: r => if w = [41] then some ([], w :: r) else match rd (w :: r) with
   | none => none
   | some (k, ws') => match readKids rd f ws' with
    | none => none
    | some (ks, ws'') => some (k :: ks, ws'')
def closeB (k : Int) (fl : W) (no : Bool) : Option (List Nd × List W) → Option (Nd × List W)
 | none => none
 | some (ks, ws') => match ws' with
  | [] => none
  | w :: r => if w = [41] then some (.mk k At.zero fl no ks, r) else none
def readBody (rd : List W → Option (Nd × List W)) (k : Int) (fl : W) (no : Bool) (ws : List W) : Option (Nd × List W) :=
 closeB k fl no (readKids rd (ws.length + 1) ws)
def openB (rd : List W → Option (Nd × List W)) (k : Int) (fl : W) (no : Bool) : List W → Option (Nd × List W)
 | [] => none
 | w :: r => if w = [40] then readBody rd k fl no r else none
def cutBang : W → W × Bool
 | [] => ([], false)
 | c :: r => if c = 33 then (r, true) else (c :: r, false)
def leafB (t : W) (b : Bool) (r : List W) : Option (Nd × List W) :=
 if (parseAt t).2 = 0 then some (.mk (if b then 2 else 1) (parseAt t).1 [] false [], r) else none
def readS (rd : List W → Option (Nd × List W)) (s : W) (r : List W) : Option (Nd × List W) :=
 if s = [40] then readBody rd 3 [] false r
 else if s = [124, 124] then openB rd 4 [] false r
 else if s.getLast? = some 63 then
  (if isName (cutBang s.dropLast).1 then openB rd 5 (cutBang s.dropLast).1 (cutBang s.dropLast).2 r else none)
 else leafB (cutBang s).1 (cutBang s).2 r
def readN : Nat → List W → Option (Nd × List W)
 | 0, _ => none
 | d + 1, ws => readS (readN d) (ws.headD []) ws.tail
theorem readN_cons (d : Nat) (s : W) (r : List W) : readN (d + 1) (s :: r) = readS (readN d) s r := rfl

def finNd (n : Nd) : Nd × Int := if ckNeed n = 0 then (n, 0) else (Nd.zero, ckNeed n)
def toldNd : Option (Nd × List W) → Nd × Int
 | some (n, []) => finNd n
 | _ => (Nd.zero, 1)
def parseNd (l : W) : Nd × Int := if 20000 < l.length then (Nd.zero, 2) else toldNd (readN 4 (splitB 32 l))
end Qm

namespace Qm
open Go

/-! Needs: what is printed is read, and what is read is printed as it was. -/

/-! ### joining and splitting -/
theorem splitGo_none {c : UInt8} : ∀ {l acc : W}, (∀ x ∈ l, x ≠ c) → splitGo c acc l = [acc ++ l]
 | [], acc, _ => by simp [splitGo]
 | x :: r, acc, h => by
  rw [splitGo, if_neg (h x (List.mem_cons_self ..)), splitGo_none fun y hy => h y (List.mem_cons_of_mem _ hy)]
  simp
theorem splitGo_some {c : UInt8} {r : W} : ∀ {l acc : W}, (∀ x ∈ l, x ≠ c) → splitGo c acc (l ++ c :: r) = (acc ++ l) :: splitGo c [] r
 | [], acc, _ => by simp [splitGo]
 | x :: l, acc, h => by
  rw [List.cons_append, splitGo, if_neg (h x (List.mem_cons_self ..)), splitGo_some fun y hy => h y (List.mem_cons_of_mem _ hy)]
  simp
/-! ### what stands in an atom's text -/
def plainB (c : UInt8) : Bool := c != 32 && c != 33 && c != 40 && c != 41 && c != 63 && c != 124 && c != 10 && c != 44
theorem low_plain {c : UInt8} (h : lowB c = true ∨ digB c = true) : plainB c = true := by
 have h' : (97 ≤ c.toNat ∧ c.toNat ≤ 122) ∨ (48 ≤ c.toNat ∧ c.toNat ≤ 57) := by simpa [lowB, digB] using h
 have k : ∀ d : UInt8, d.toNat < 48 ∨ (57 < d.toNat ∧ d.toNat < 97) ∨ 122 < d.toNat → (c != d) = true := by
  intro d hd
  rw [bne_iff_ne]
  rintro rfl
  omega
 unfold plainB
 rw [k 32 (by decide), k 33 (by decide), k 40 (by decide), k 41 (by decide), k 63 (by decide), k 124 (by decide), k 10 (by decide), k 44 (by decide)]; rfl
theorem name_plain {l : W} (h : isName l = true) : ∀ c ∈ l, plainB c = true := fun c hc => low_plain (isName_mem h c hc)
theorem text_plain {a : At} (h : ckAtom a = 0) : ∀ c ∈ textOf a, plainB c = true := by
 have hk := atOk h
 intro c hc
 unfold textOf at hc
 rcases List.mem_append.1 hc with hc | hc
 ·rcases List.mem_append.1 hc with hc | hc
  ·rcases List.mem_append.1 hc with hc | hc
   ·exact name_plain hk.nm c hc
   ·split at hc
    ·rename_i h0
     rcases List.mem_append.1 hc with hc | hc
     ·have : c = 61 ∨ c = 62 ∨ c = 60 := by
       unfold opText at hc
       split at hc
       ·simp at hc; exact .inl hc
       ·split at hc
        ·simp at hc; rcases hc with hc | hc
         ·exact .inr (.inl hc)
         ·exact .inl hc
        ·split at hc
         ·simp at hc; exact .inr (.inr hc)
         ·cases hc
      rcases this with rfl | rfl | rfl <;> decide
     ·exact low_plain (.inr (itoa_mem (by have := hk.some h0; omega) c hc))
    ·cases hc
  ·split at hc
   ·rcases List.mem_cons.1 hc with rfl | hc
    ·decide
    ·exact low_plain (.inr (itoa_mem (by omega) c hc))
   ·cases hc
 ·split at hc
  ·rename_i h0
   rcases List.mem_cons.1 hc with rfl | hc
   ·split <;> decide
   ·exact name_plain (hk.fl h0) c hc
  ·cases hc
theorem text_ne {a : At} (h : ckAtom a = 0) : ∃ c r, textOf a = c :: r ∧ plainB c = true := by
 have hl := (isName_len (atOk h).nm).1
 have hp := text_plain h
 have : textOf a ≠ [] := by
  intro e
  unfold textOf at e
  simp only [List.append_assoc, List.append_eq_nil_iff] at e
  rw [e.1] at hl; simp at hl
 cases e : textOf a with
 | nil => exact absurd e this
 | cons c r => rw [e] at hp; exact ⟨c, r, rfl, hp c (List.mem_cons_self ..)⟩
/-! ### what is printed is read -/
theorem words_ne : ∀ (n : Nd), wordsN n ≠ []
 | .mk k a f no ks => by
  unfold wordsN
  split
  ·simp
  ·split <;> simp
/-! ### and back -/
theorem leaf_of_parse {t : W} {x : At} (h : (parseAt t).2 = 0) (hx : (parseAt t).1 = x) : ckAtom x = 0 ∧ textOf x = t := parse_back (by rw [← hx, ← h])
theorem cut_bang {s t : W} {b : Bool} (h : cutBang s = (t, b)) : s = if b then 33 :: t else t := by
 cases s with
 | nil => simp [cutBang] at h; obtain ⟨rfl, rfl⟩ := h; rfl
 | cons c r =>
  by_cases hc : c = 33
  ·rw [cutBang, if_pos hc, Prod.mk.injEq] at h
   obtain ⟨rfl, rfl⟩ := h; simp [hc]
  ·rw [cutBang, if_neg hc, Prod.mk.injEq] at h
   obtain ⟨rfl, rfl⟩ := h; simp

theorem of_readKids {rd : List W → Option (Nd × List W)} {d : Nat} (hrd : ∀ ws n r, rd ws = some (n, r) → ws = wordsN n ++ r ∧ ckNd n = 0 ∧ n.deep ≤ d) :
  ∀ {f : Nat} {ws : List W} {ks : List Nd} {r : List W}, readKids rd f ws = some (ks, r) → ws = wordsL ks ++ r ∧ ckKids ks = 0 ∧ deepL ks ≤ d
 | 0, _, _, _, h => by simp [readKids] at h
 | f + 1, [], ks, r, h => by
  simp only [readKids, Option.some.injEq, Prod.mk.injEq] at h
  obtain ⟨rfl, rfl⟩ := h
  simp [wordsL, ckKids, deepL]
 | f + 1, w :: ws, ks, r, h => by
  unfold readKids at h
  simp only [] at h
  split at h
  ·simp only [Option.some.injEq, Prod.mk.injEq] at h
   obtain ⟨rfl, rfl⟩ := h
   simp [wordsL, ckKids, deepL]
  ·split at h
   ·cases h
   ·rename_i k ws' hk
    split at h
    ·cases h
    ·rename_i ks' ws'' hks
     simp only [Option.some.injEq, Prod.mk.injEq] at h
     obtain ⟨rfl, rfl⟩ := h
     obtain ⟨e1, c1, d1⟩ := hrd _ _ _ hk
     obtain ⟨e2, c2, d2⟩ := of_readKids hrd hks
     refine ⟨?_, ?_, ?_⟩
     ·rw [e1, e2]; simp [wordsL]
     ·simp only [ckKids]; rw [if_pos c1]; exact c2
     ·simp only [deepL]; exact Nat.max_le.2 ⟨d1, d2⟩

theorem of_readBody {rd : List W → Option (Nd × List W)} {d : Nat} (hrd : ∀ ws n r, rd ws = some (n, r) → ws = wordsN n ++ r ∧ ckNd n = 0 ∧ n.deep ≤ d) {k : Int} {fl : W} {no : Bool} {ws : List W} {n : Nd} {r : List W}
  (h : readBody rd k fl no ws = some (n, r)) : ∃ ks, n = .mk k At.zero fl no ks ∧ ws = wordsL ks ++ [41] :: r ∧ ckKids ks = 0 ∧ deepL ks ≤ d := by
 unfold readBody at h
 cases hk : readKids rd (ws.length + 1) ws with
 | none => rw [hk] at h; cases h
 | some q =>
  obtain ⟨ks, ws'⟩ := q
  rw [hk] at h
  obtain ⟨e1, c1, d1⟩ := of_readKids hrd hk
  unfold closeB at h
  cases ws' with
  | nil => cases h
  | cons w ws'' =>
   simp only [] at h
   split at h
   ·rename_i hw
    simp only [Option.some.injEq, Prod.mk.injEq] at h
    obtain ⟨rfl, rfl⟩ := h
    subst hw
    exact ⟨ks, rfl, e1, c1, d1⟩
   ·cases h
theorem of_openB {rd : List W → Option (Nd × List W)} {d : Nat} (hrd : ∀ ws n r, rd ws = some (n, r) → ws = wordsN n ++ r ∧ ckNd n = 0 ∧ n.deep ≤ d) {k : Int} {fl : W} {no : Bool} {ws : List W} {n : Nd} {r : List W}
  (h : openB rd k fl no ws = some (n, r)) : ∃ ks, n = .mk k At.zero fl no ks ∧ ws = [40] :: (wordsL ks ++ [41] :: r) ∧ ckKids ks = 0 ∧ deepL ks ≤ d := by
 cases ws with
 | nil => cases h
 | cons w ws' =>
  have h' : (if w = [40] then readBody rd k fl no ws' else none) = some (n, r) := h
  by_cases hw : w = [40]
  ·rw [if_pos hw] at h'
   obtain ⟨ks, e0, e1, e2⟩ := of_readBody hrd h'
   exact ⟨ks, e0, by rw [hw, e1], e2⟩
  ·rw [if_neg hw] at h'; cases h'

theorem of_readN : ∀ (d : Nat) (ws : List W) (n : Nd) (r : List W), readN d ws = some (n, r) → ws = wordsN n ++ r ∧ ckNd n = 0 ∧ n.deep ≤ d
 | 0, _, _, _, h => by cases h
 | d + 1, ws, n, r, h => by
  have hrd := of_readN d
  have hne : ws ≠ [] := by
   rintro rfl
   have h' : readS (readN d) [] [] = some (n, r) := h
   clear h
   have h := h'
   rw [readS, if_neg (by simp), if_neg (by simp), if_neg (by simp)] at h
   unfold leafB at h
   by_cases h0 : (parseAt []).2 = 0
   ·obtain ⟨h1, h2⟩ := leaf_of_parse h0 rfl
    obtain ⟨c, r, e, _⟩ := text_ne h1
    rw [h2] at e; cases e
   ·have h' : (if (parseAt []).2 = 0 then _ else none) = some (n, r) := h
    rw [if_neg h0] at h'; cases h'
  cases ws with
  | nil => exact absurd rfl hne
  | cons s t =>
   rw [readN_cons] at h
   unfold readS at h
   split at h
   ·rename_i hs
    obtain ⟨ks, rfl, e1, e2, e3⟩ := of_readBody hrd h
    refine ⟨?_, ?_, by simp only [Nd.deep]; omega⟩
    ·rw [hs, e1]; simp [wordsN, headW]
    ·simp [ckNd, leafK, e2]
   ·split at h
    ·rename_i hs
     obtain ⟨ks, rfl, e1, e2, e3⟩ := of_openB hrd h
     refine ⟨?_, ?_, by simp only [Nd.deep]; omega⟩
     ·rw [hs, e1]; simp [wordsN, headW]
     ·simp [ckNd, leafK, e2]
    ·split at h
     ·rename_i hs
      split at h
      ·rename_i hn
       obtain ⟨ks, rfl, e1, e2, e3⟩ := of_openB hrd h
       have hc := cut_bang (s := s.dropLast) (t := (cutBang s.dropLast).1) (b := (cutBang s.dropLast).2) rfl
       have hsd : s = s.dropLast ++ [63] := by
        cases s with
        | nil => simp at hs
        | cons x y =>
         have h1 := List.dropLast_concat_getLast (l := x :: y) (by simp)
         rw [List.getLast?_eq_some_getLast (by simp)] at hs
         simp only [Option.some.injEq] at hs
         rw [hs] at h1
         exact h1.symm
       refine ⟨?_, ?_, by simp only [Nd.deep]; omega⟩
       ·simp only [wordsN, headW, show ((5 : Int) = 1) = False by simp, show ((5 : Int) = 2) = False by simp, show ((5 : Int) = 4) = False by simp, if_false, if_true]
        rw [e1]
        simp only [List.cons_append, List.nil_append, List.append_assoc]
        congr 1
        generalize (cutBang s.dropLast).1 = q1 at *
        generalize (cutBang s.dropLast).2 = q2 at *
        rw [hsd, hc]
        cases q2 <;> simp
       ·simp [ckNd, leafK, e2, hn]
      ·cases h
     ·unfold leafB at h
      split at h
      ·rename_i h0
       simp only [Option.some.injEq, Prod.mk.injEq] at h
       obtain ⟨rfl, rfl⟩ := h
       obtain ⟨h1, h2⟩ := leaf_of_parse h0 rfl
       have hc := cut_bang (s := s) (t := (cutBang s).1) (b := (cutBang s).2) rfl
       generalize (cutBang s).1 = q1 at *
       generalize (cutBang s).2 = q2 at *
       refine ⟨?_, ?_, by simp [Nd.deep, deepL]⟩
       ·cases q2
        ·simp [wordsN, prAtom, h1, h2, hc]
        ·simp [wordsN, prAtom, h1, h2, hc]
       ·cases q2 <;> simp [ckNd, leafK, h1]
      ·cases h

/-! ### how long it is -/
theorem ckNeed_zero {n : Nd} (h : ckNeed n = 0) : n.deep ≤ 4 ∧ n.nodes ≤ 20 ∧ ckNd n = 0 := by
 unfold ckNeed at h
 split at h
 ·cases h
 ·rename_i h1
  unfold tooMany at h1
  exact ⟨by omega, by omega, h⟩
end Qm

namespace Qm
open Go

/-! The library's words for splitting and joining, and ours. -/

theorem index_cut (c : UInt8) : ∀ (l : List UInt8), Lib.index l [c] = match cutAt (· == c) l with | none => -1 | some (a, _, _) => (a.length : Int) := by
 intro l
 rw [Lib.index_one]
 induction l with
 | nil => rfl
 | cons b l ih =>
  unfold Lib.indexByte cutAt
  by_cases h : (b == c) = true
  ·simp [h]
  ·simp only [h, Bool.false_eq_true, if_false, ih]
   cases hr : cutAt (· == c) l with
   | none => simp
   | some t =>
    obtain ⟨a, d, e⟩ := t
    simp only [List.length_cons]
    have : ((a.length : Int) == -1) = false := by simp
    rw [this]; simp
theorem splitB_cut {c : UInt8} {l : W} : splitB c l = match cutAt (· == c) l with | none => [l] | some (a, _, d) => a :: splitB c d := by
 cases h : cutAt (· == c) l with
 | none =>
  have := of_cutAt_none h
  unfold splitB
  rw [splitGo_none fun x hx => by have := this x hx; simpa using this]; rfl
 | some t =>
  obtain ⟨a, b, d⟩ := t
  obtain ⟨e, hb, ha⟩ := of_cutAt_some h
  have hb' : b = c := by simpa using hb
  subst hb'
  unfold splitB
  rw [e, splitGo_some fun x hx => by have := ha x hx; simpa using this]; rfl
theorem splitK_eq (c : UInt8) : ∀ (k : Nat) (l : W), Lib.count l [c] ≤ k → Lib.splitK [c] 0 k l = splitB c l
 | k, l, hk => by
  rw [splitB_cut]
  have hi := index_cut c l
  cases h : cutAt (· == c) l with
  | none =>
   rw [h] at hi
   cases k with
   | zero => rfl
   | succ k => unfold Lib.splitK; rw [hi]; rfl
  | some t =>
   obtain ⟨a, b, d⟩ := t
   obtain ⟨e, hb, ha⟩ := of_cutAt_some h
   rw [h] at hi
   simp only [] at hi
   have hc := Lib.count_hit (by simp) hi
   have hd : l.drop (a.length + [c].length) = d := by rw [e]; simp [List.drop_append]
   rw [hd] at hc
   obtain ⟨k, rfl⟩ : ∃ j, k = j + 1 := ⟨k - 1, by omega⟩
   unfold Lib.splitK
   rw [hi]
   have h1 : ((a.length : Int) == -1) = false := by simp
   rw [h1]
   simp only [Bool.false_eq_true, if_false, Int.toNat_natCast, Nat.add_zero]
   rw [hd, splitK_eq c k d (by omega)]
   rw [e]; simp
theorem split_eq (c : UInt8) (l : W) : Lib.split l [c] = splitB c l := splitK_eq c _ l (Nat.le_refl _)
theorem splitB_bytes (c : UInt8) (s s' : ByteArray) : (Lib.splitB s' 0 (Lib.countB s s') s).map (·.data.toList) = splitB c s.data.toList ∨ s'.data.toList ≠ [c] := by
 by_cases h : s'.data.toList = [c]
 ·left
  rw [Lib.splitB_data, h]
  have : Lib.countB s s' = Lib.count s.data.toList [c] := by unfold Lib.countB; rw [h]
  rw [this]; exact split_eq c _
 ·exact .inr h
/-! ### alike -/
/-! ### flags that a need asks -/
mutual
def flagsN : Nd → List W
 | .mk k _ f _ ks => (if k = 5 then [f] else []) ++ flagsL ks
def flagsL : List Nd → List W
 | [] => []
 | k :: r => flagsN k ++ flagsL r
end
theorem flagsL_snoc : ∀ (ks : List Nd) (y : Nd), flagsL (ks ++ [y]) = flagsL ks ++ flagsN y
 | [], y => by simp [flagsL]
 | k :: r, y => by simp only [List.cons_append, flagsL, flagsL_snoc r y, List.append_assoc]
theorem flagsN_le : ∀ (y : Nd), (flagsN y).length ≤ y.nodes := by
 refine Nd.ind fun k a f no ks ih => ?_
 have hL : ∀ {l : List Nd}, (∀ y ∈ l, (flagsN y).length ≤ y.nodes) → (flagsL l).length ≤ nodesL l := by
  intro l
  induction l with
  | nil => intro _; simp [flagsL, nodesL]
  | cons y l ihl =>
   intro hl
   have h1 := hl y (List.mem_cons_self ..)
   have h2 := ihl fun z hz => hl z (List.mem_cons_of_mem _ hz)
   simp only [flagsL, nodesL, List.length_append]; omega
 have := hL ih
 simp only [flagsN, Nd.nodes, List.length_append]
 split <;> simp <;> omega

theorem flagsL_take : ∀ (ks : List Nd) (j : Nat), (flagsL (ks.take j)).length ≤ (flagsL ks).length
 | [], j => by simp [flagsL]
 | k :: r, 0 => by simp [flagsL]
 | k :: r, j + 1 => by
  have := flagsL_take r j
  simp only [List.take_succ_cons, flagsL, List.length_append]; omega
end Qm
