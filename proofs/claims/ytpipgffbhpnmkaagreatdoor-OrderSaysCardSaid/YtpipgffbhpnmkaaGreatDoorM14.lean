/- Parts of the proof: walks and plain laws, side by side. -/
import Derived.Test.YtpipgffbhpnmkaaGreatDoorM9
import Derived.Test.YtpipgffbhpnmkaaGreatDoorM11
import Init.Data.List
import Derived.Test.YtpipgffbhpnmkaaGreatDoorM12
import Derived.Test.YtpipgffbhpnmkaaGreatDoorM8
import Derived.Test.YtpipgffbhpnmkaaGreatDoorShelf
import Derived.Deep.QuietTactic
import Derived.BigQuiet
set_option linter.unusedVariables false
set_option linter.unusedSimpArgs false
set_option linter.unusedSectionVars false
/- Sets of members, and what may be: in plain words (no program in sight). -/
namespace Go.Proofs.YtpipgffbhpnmkaaGreatDoor
open Go.RowKit Qm

structure Mem where
 pl : Int
 on : List Bool
deriving DecidableEq

def pkOf (ps : List Pk) (i : Int) : Pk := ps.getD i.toNat ⟨[], 0, 0, [], Nd.zero⟩
def badPl : Option Int → Int → Bool
 | none, _ => false
 | some q, p => decide (p ≤ q)
def ckMs (ps : List Pk) : Option Int → List Mem → Int
 | _, [] => 0
 | prev, m :: r => if m.pl < 0 ∨ (ps.length : Int) ≤ m.pl then 5 else if badPl prev m.pl = true then 6 else if m.on.length ≠ (pkOf ps m.pl).fs.length then 4 else ckMs ps (some m.pl) r
def ckSet (ps : List Pk) (l : List Mem) : Int := if ckTree ps ≠ 0 then ckTree ps else ckMs ps none l

theorem ckMs_step {ps : List Pk} {l : List Mem} {j : Nat} {m : Mem} (h : l[j]? = some m) :
  ckMs ps (prevOf (l.map Mem.pl) j) (l.drop j) = if m.pl < 0 ∨ (ps.length : Int) ≤ m.pl then 5 else if badPl (prevOf (l.map Mem.pl) j) m.pl = true then 6 else if m.on.length ≠ (pkOf ps m.pl).fs.length then 4 else ckMs ps (prevOf (l.map Mem.pl) (j + 1)) (l.drop (j + 1)) := by
 rw [prevOf_succ (l := l.map Mem.pl) (x := m.pl) (by rw [List.getElem?_map, h]; rfl)]
 obtain ⟨hj, rfl⟩ := List.getElem?_eq_some_iff.1 h
 rw [List.drop_eq_getElem_cons hj]
 rfl
theorem ckMs_done {ps : List Pk} {l : List Mem} {j : Nat} (h : l.length ≤ j) {p : Option Int} : ckMs ps p (l.drop j) = 0 := by
 rw [List.drop_eq_nil_of_le h]; rfl
def MemOk (ps : List Pk) (m : Mem) : Prop := 0 ≤ m.pl ∧ m.pl < ps.length ∧ m.on.length = (pkOf ps m.pl).fs.length
theorem ckMs_mem {ps : List Pk} : ∀ {l : List Mem} {prev : Option Int}, ckMs ps prev l = 0 → ∀ m ∈ l, MemOk ps m
 | [], _, _, m, hm => by cases hm
 | x :: r, prev, h, m, hm => by
  simp only [ckMs] at h
  split at h
  ·cases h
  ·rename_i h1
   split at h
   ·cases h
   ·split at h
    ·cases h
    ·rename_i h3
     rcases List.mem_cons.1 hm with rfl | hm
     ·exact ⟨by omega, by omega, by simpa using h3⟩
     ·exact ckMs_mem h m hm
theorem ckMs_rises {ps : List Pk} : ∀ {l : List Mem} {prev : Option Int}, ckMs ps prev l = 0 → (∀ q, prev = some q → ∀ m ∈ l, q < m.pl) ∧ (l.map Mem.pl).Pairwise (· < ·)
 | [], _, _ => ⟨fun _ _ m hm => (by cases hm), List.Pairwise.nil⟩
 | x :: r, prev, h => by
  simp only [ckMs] at h
  split at h
  ·cases h
  ·split at h
   ·cases h
   ·rename_i h2
    split at h
    ·cases h
    ·obtain ⟨i1, i2⟩ := ckMs_rises h
     have hx : ∀ q, prev = some q → q < x.pl := fun q hq => by
      subst hq
      simp only [badPl, decide_eq_true_eq] at h2
      omega
     refine ⟨fun q hq m hm => ?_, ?_⟩
     ·rcases List.mem_cons.1 hm with rfl | hm
      ·exact hx q hq
      ·exact Int.lt_trans (hx q hq) (i1 _ rfl m hm)
     ·rw [List.map_cons, List.pairwise_cons]
      refine ⟨fun b hb => ?_, i2⟩
      obtain ⟨m, hm, rfl⟩ := List.mem_map.1 hb
      exact i1 _ rfl m hm
/-! ### what an atom asks of a member -/
def ixOf (f : Qm.W) : List Qm.W → Option Nat
 | [] => none
 | g :: r => if g = f then some 0 else (ixOf f r).map (· + 1)
def onOf (on : List Bool) (k : Nat) : Bool := on.getD k false
def flagIs (p : Pk) (m : Mem) (a : At) : Bool := match ixOf a.fl p.fs with
 | some k => onOf m.on k == a.on
 | none => false
def isA (ps : List Pk) (m : Mem) (a : At) : Bool :=
 decide ((pkOf ps m.pl).nm = a.nm) && (fitsP a (pkOf ps m.pl).ver (pkOf ps m.pl).slot && (decide (a.fl = []) || flagIs (pkOf ps m.pl) m a))
theorem ixOf_lt {f : Qm.W} : ∀ {l : List Qm.W} {k : Nat}, ixOf f l = some k → k < l.length
 | [], k, h => by cases h
 | g :: r, k, h => by
  simp only [ixOf] at h
  split at h
  ·simp only [Option.some.injEq] at h; subst h; simp
  ·cases hr : ixOf f r with
   | none => rw [hr] at h; cases h
   | some j =>
    rw [hr] at h
    simp only [Option.map_some, Option.some.injEq] at h
    have := ixOf_lt hr
    simp only [List.length_cons]; omega
theorem ixOf_none {f : Qm.W} : ∀ {l : List Qm.W}, ixOf f l = none ↔ f ∉ l
 | [] => by simp [ixOf]
 | g :: r => by
  simp only [ixOf]
  by_cases hg : g = f
  ·rw [if_pos hg]; simp [hg]
  ·rw [if_neg hg]
   have := ixOf_none (f := f) (l := r)
   simp only [Option.map_eq_none_iff, List.mem_cons, not_or, this]
   exact ⟨fun h => ⟨fun e => hg e.symm, h⟩, fun h => h.2⟩

/-! ### whether a need holds -/
def ifOff (ps : List Pk) (m : Mem) (f : Qm.W) (no : Bool) : Bool := match ixOf f (pkOf ps m.pl).fs with
 | some j => onOf m.on j == no
 | none => false
def memAt (l : List Mem) (k : Nat) : Mem := l.getD k ⟨0, []⟩
/-! ### wishes -/
structure Ws where
 ts : List At
 ins : List Mem
 ms : List Int
 on : List (Int × Int)
/-! ### less is asked -/
end Go.Proofs.YtpipgffbhpnmkaaGreatDoor

/- Plain: which one comes to which, in one step or more; Warshall's rounds; a plan. No program in sight. -/
namespace Qm

inductive Comes (e : Nat → Nat → Bool) : Nat → Nat → Prop
 | one {i j : Nat} : e i j = true → Comes e i j
 | more {i j k : Nat} : e i j = true → Comes e j k → Comes e i k
theorem Comes.trans {e : Nat → Nat → Bool} {i j k : Nat} (h : Comes e i j) (h2 : Comes e j k) : Comes e i k := by
 induction h with
 | one h => exact .more h h2
 | more h _ ih => exact .more h (ih h2)

def RB (e : Nat → Nat → Bool) : Nat → Nat → Nat → Bool
 | 0, a, b => e a b
 | k + 1, a, b => RB e k a b || (RB e k a k && RB e k k b)
theorem RB_sound {e : Nat → Nat → Bool} : ∀ {k a b : Nat}, RB e k a b = true → Comes e a b
 | 0, _, _, h => .one h
 | k + 1, a, b, h => by
  simp only [RB, Bool.or_eq_true, Bool.and_eq_true] at h
  rcases h with h | ⟨h1, h2⟩
  ·exact RB_sound h
  ·exact (RB_sound h1).trans (RB_sound h2)
theorem RB_up {e : Nat → Nat → Bool} {k a b : Nat} (h : RB e k a b = true) : RB e (k + 1) a b = true := by
 simp only [RB, Bool.or_eq_true]; exact .inl h
theorem RB_row {e : Nat → Nat → Bool} {k a : Nat} : RB e (k + 1) a k = RB e k a k := by
 simp only [RB]; cases RB e k a k <;> simp
theorem RB_col {e : Nat → Nat → Bool} {k b : Nat} : RB e (k + 1) k b = RB e k k b := by
 simp only [RB]; cases RB e k k b <;> simp
theorem RB_via {e : Nat → Nat → Bool} : ∀ {k a b c : Nat}, c < k → RB e k a c = true → RB e k c b = true → RB e k a b = true
 | 0, _, _, _, h, _, _ => by omega
 | k + 1, a, b, c, hc, h1, h2 => by
  by_cases e0 : c = k
  ·subst e0
   rw [RB_row] at h1; rw [RB_col] at h2
   simp only [RB, h1, h2]; simp
  ·have hk : c < k := by omega
   simp only [RB, Bool.or_eq_true, Bool.and_eq_true] at h1 h2 ⊢
   rcases h1 with h1 | ⟨h1, h1'⟩
   ·rcases h2 with h2 | ⟨h2, h2'⟩
    ·exact .inl (RB_via hk h1 h2)
    ·exact .inr ⟨RB_via hk h1 h2, h2'⟩
   ·rcases h2 with h2 | ⟨h2, h2'⟩
    ·exact .inr ⟨h1, RB_via hk h1' h2⟩
    ·exact .inr ⟨h1, h2'⟩
theorem RB_zero {e : Nat → Nat → Bool} {a b : Nat} : ∀ {k : Nat}, e a b = true → RB e k a b = true
 | 0, h => h
 | k + 1, h => RB_up (RB_zero h)
theorem RB_full {e : Nat → Nat → Bool} {n : Nat} (hn : ∀ i j, e i j = true → i < n ∧ j < n) {a b : Nat} (h : Comes e a b) : RB e n a b = true := by
 induction h with
 | one h => exact RB_zero h
 | more h _ ih => exact RB_via (hn _ _ h).2 (RB_zero h) ih
theorem RB_iff {e : Nat → Nat → Bool} {n : Nat} (hn : ∀ i j, e i j = true → i < n ∧ j < n) {a b : Nat} : RB e n a b = true ↔ Comes e a b := ⟨RB_sound, RB_full hn⟩
theorem RB_trans {e : Nat → Nat → Bool} {n : Nat} (hn : ∀ i j, e i j = true → i < n ∧ j < n) {a b c : Nat} (h : RB e n a b = true) (h2 : RB e n b c = true) : RB e n a c = true :=
 RB_full hn ((RB_sound h).trans (RB_sound h2))
theorem Comes.shut {e : Nat → Nat → Bool} {K : Nat → Prop} {a b : Nat} (h : Comes e a b) (h1 : ∀ j, e a j = true → j ≠ b ∧ K j) (h2 : ∀ i, K i → ∀ j, e i j = true → j ≠ b ∧ K j) : False := by
 have : ∀ i b, Comes e i b → (∀ j, e i j = true → j ≠ b ∧ K j) → (∀ i, K i → ∀ j, e i j = true → j ≠ b ∧ K j) → False := by
  intro i b h
  induction h with
  | one h => intro h1 _; exact (h1 _ h).1 rfl
  | more h _ ih => intro h1 h2; exact ih (fun j hj => h2 _ (h1 _ h).2 j hj) h2
 exact this a b h h1 h2

/-! ### a plan -/
def readyB (r : Nat → Nat → Bool) (n : Nat) (done : Nat → Bool) (k : Nat) : Bool := (List.range n).all fun i => !(r k i && !r i k && !done i)
def pickO (r : Nat → Nat → Bool) (n : Nat) (done : Nat → Bool) : Option Nat := (List.range n).find? fun i => !done i && readyB r n done i
def loopsB (r : Nat → Nat → Bool) (n : Nat) (old : Nat → Bool) (i : Nat) : Bool := (List.range n).any fun k => decide (k ≠ i) && !old k && r i k && r k i
structure PSt where
 done : Nat → Bool
 num : Nat → Nat
 cyc : Nat
def ringB (r : Nat → Nat → Bool) (i k : Nat) : Bool := decide (k = i) || (r i k && r k i)
def stepP (r : Nat → Nat → Bool) (n : Nat) (old : Nat → Bool) (s : PSt) (i : Nat) : PSt :=
 if s.num i = 0 ∧ loopsB r n old i = true then ⟨fun k => decide (k = i) || s.done k, fun k => if ringB r i k = true then s.cyc + 1 else s.num k, s.cyc + 1⟩
 else ⟨fun k => decide (k = i) || s.done k, s.num, s.cyc⟩
theorem stepP_done {r : Nat → Nat → Bool} {n : Nat} {old : Nat → Bool} {s : PSt} {i : Nat} : (stepP r n old s i).done = fun k => decide (k = i) || s.done k := by
 unfold stepP; split <;> rfl
def planGo (r : Nat → Nat → Bool) (n : Nat) (old : Nat → Bool) : Nat → PSt → List (Nat × Nat)
 | 0, _ => []
 | g + 1, s => match pickO r n s.done with
  | none => []
  | some i => (i, (stepP r n old s i).num i) :: planGo r n old g (stepP r n old s i)
def leftO (n : Nat) (done : Nat → Bool) : Nat := ((List.range n).filter fun k => !done k).length

theorem readyB_iff {r : Nat → Nat → Bool} {n : Nat} {done : Nat → Bool} {k : Nat} : readyB r n done k = true ↔ ∀ i, i < n → r k i = true → r i k = false → done i = true := by
 unfold readyB
 rw [List.all_eq_true]
 constructor
 ·intro h i hi h1 h2
  have := h i (List.mem_range.2 hi)
  rw [h1, h2] at this
  simpa using this
 ·intro h i hi
  have hi := List.mem_range.1 hi
  cases h1 : r k i
  ·rfl
  ·cases h2 : r i k
   ·rw [h i hi h1 h2]; rfl
   ·rfl
theorem pickO_some {r : Nat → Nat → Bool} {n : Nat} {done : Nat → Bool} {i : Nat} (h : pickO r n done = some i) : i < n ∧ done i = false ∧ readyB r n done i = true := by
 unfold pickO at h
 have h1 := List.find?_some h
 have h2 := List.mem_range.1 (List.mem_of_find?_eq_some h)
 simp only [Bool.and_eq_true, Bool.not_eq_true'] at h1
 exact ⟨h2, h1.1, h1.2⟩
theorem length_filter_lt {α : Type} {p q : α → Bool} (hpq : ∀ k, p k = true → q k = true) {x : α} (hx : p x = false) (hy : q x = true) : ∀ {l : List α}, x ∈ l → (l.filter p).length < (l.filter q).length
 | y :: l, hm => by
  have hle : ∀ l : List α, (l.filter p).length ≤ (l.filter q).length := by
   intro l
   induction l with
   | nil => exact Nat.le_refl _
   | cons z l ih =>
    simp only [List.filter_cons]
    cases hp : p z
    ·cases q z <;> simp <;> omega
    ·rw [hpq z hp]; simp; omega
  simp only [List.filter_cons]
  rcases List.mem_cons.1 hm with rfl | hm
  ·rw [hx, hy]
   have := hle l
   simp; omega
  ·have ih := length_filter_lt hpq hx hy hm
   cases hp : p y
   ·cases q y <;> simp <;> omega
   ·rw [hpq y hp]; simp; omega
theorem pickO_none {r : Nat → Nat → Bool} {n : Nat} {done : Nat → Bool} (ht : ∀ a b c, r a b = true → r b c = true → r a c = true) (h : pickO r n done = none) : ∀ i, i < n → done i = true := by
 have hall : ∀ i, i < n → done i = false → readyB r n done i = false := by
  intro i hi hd
  unfold pickO at h
  have := List.find?_eq_none.1 h i (List.mem_range.2 hi)
  simp only [hd, Bool.not_false, Bool.true_and] at this
  simpa using this
 have : ∀ m i, i < n → ((List.range n).filter fun k => r i k && !r k i).length ≤ m → done i = false → False := by
  intro m
  induction m with
  | zero =>
   intro i hi hm hd
   have hr := hall i hi hd
   have hl : (List.range n).filter (fun k => r i k && !r k i) = [] := List.length_eq_zero_iff.1 (by omega)
   have : readyB r n done i = true := readyB_iff.2 fun k hk h1 h2 => by
    have : k ∈ (List.range n).filter (fun k => r i k && !r k i) := List.mem_filter.2 ⟨List.mem_range.2 hk, by simp [h1, h2]⟩
    rw [hl] at this; cases this
   rw [hr] at this; cases this
  | succ m ih =>
   intro i hi hm hd
   have hr := hall i hi hd
   obtain ⟨k, hk, h1, h2, h3⟩ : ∃ k, k < n ∧ r i k = true ∧ r k i = false ∧ done k = false := by
    by_cases hex : ∃ k, k < n ∧ r i k = true ∧ r k i = false ∧ done k = false
    ·exact hex
    ·have : readyB r n done i = true := readyB_iff.2 fun k hk h1 h2 => by
      cases hdk : done k
      ·exact absurd ⟨k, hk, h1, h2, hdk⟩ hex
      ·rfl
     rw [hr] at this; cases this
   refine ih k hk ?_ h3
   have := length_filter_lt (p := fun j => r k j && !r j k) (q := fun j => r i j && !r j i) (l := List.range n) (x := k) (fun j hj => by
    simp only [Bool.and_eq_true, Bool.not_eq_true'] at hj ⊢
    refine ⟨ht _ _ _ h1 hj.1, ?_⟩
    cases hji : r j i
    ·rfl
    ·have := ht _ _ _ hji h1
     rw [hj.2] at this; cases this) (by simp) (by simp [h1, h2]) (List.mem_range.2 hk)
   omega
 intro i hi
 cases hd : done i
 ·exact (this _ i hi (Nat.le_refl _) hd).elim
 ·rfl
theorem leftO_step {r : Nat → Nat → Bool} {n : Nat} {old : Nat → Bool} {s : PSt} {i : Nat} (h : pickO r n s.done = some i) : leftO n (stepP r n old s i).done < leftO n s.done := by
 obtain ⟨hi, hd, _⟩ := pickO_some h
 unfold leftO
 rw [stepP_done]
 exact length_filter_lt (x := i) (fun k hk => by simp only [Bool.not_eq_true', Bool.or_eq_false_iff] at hk ⊢; exact hk.2) (by simp) (by simp [hd]) (List.mem_range.2 hi)
end Qm

/- Plain: what a plan does: each new one once, what it comes to ahead of it, cycles of two at least. -/
namespace Qm

structure PInv (r : Nat → Nat → Bool) (n : Nat) (old : Nat → Bool) (s : PSt) : Prop where
 od : ∀ k, old k = true → s.done k = true
 eq : ∀ a b, r a b = true → r b a = true → s.num a = s.num b
 two : ∀ a, a < n → old a = false → s.num a ≠ 0 → loopsB r n old a = true
 no : ∀ a, a < n → old a = false → s.done a = true → s.num a = 0 → loopsB r n old a = false
theorem loopsB_iff {r : Nat → Nat → Bool} {n : Nat} {old : Nat → Bool} {i : Nat} : loopsB r n old i = true ↔ ∃ k, k < n ∧ k ≠ i ∧ old k = false ∧ r i k = true ∧ r k i = true := by
 unfold loopsB
 rw [List.any_eq_true]
 constructor
 ·rintro ⟨k, hk, h⟩
  simp only [Bool.and_eq_true, decide_eq_true_eq, Bool.not_eq_true'] at h
  exact ⟨k, List.mem_range.1 hk, h.1.1.1, h.1.1.2, h.1.2, h.2⟩
 ·rintro ⟨k, hk, h1, h2, h3, h4⟩
  exact ⟨k, List.mem_range.2 hk, by simp [h1, h2, h3, h4]⟩
theorem ringB_iff {r : Nat → Nat → Bool} {i k : Nat} : ringB r i k = true ↔ k = i ∨ (r i k = true ∧ r k i = true) := by
 unfold ringB; simp
section
variable {r : Nat → Nat → Bool} {n : Nat} {old : Nat → Bool} {s : PSt} {i : Nat} (ht : ∀ a b c, r a b = true → r b c = true → r a c = true)
include ht
end
end Qm

/- What a member leans on, and what makes a set: in plain words (no program in sight). -/
namespace Go.Proofs.YtpipgffbhpnmkaaGreatDoor
open Go.RowKit Qm

/-! ### what a member's needs want now -/
mutual
def asksN (ps : List Pk) (me : Mem) : Nd → List At
 | .mk kd a f no ks => if kd = 1 then [a] else if kd = 5 ∧ ifOff ps me f no = true then [] else asksL ps me ks
def asksL (ps : List Pk) (me : Mem) : List Nd → List At
 | [] => []
 | x :: r => asksN ps me x ++ asksL ps me r
end
theorem asksL_eq {ps : List Pk} {me : Mem} : ∀ {ks : List Nd}, asksL ps me ks = (ks.map (asksN ps me)).flatten
 | [] => rfl
 | x :: r => by rw [asksL, asksL_eq, List.map_cons, List.flatten_cons]
theorem asksL_any {ps : List Pk} {me : Mem} {q : At → Bool} : ∀ {ks : List Nd}, (asksL ps me ks).any q = ks.any fun x => (asksN ps me x).any q
 | [] => rfl
 | x :: r => by rw [asksL, List.any_append, asksL_any, List.any_cons]
def leanB (ps : List Pk) (l : List Mem) (i k : Nat) : Bool := (asksN ps (memAt l i) (pkOf ps (memAt l i).pl).nd).any fun a => isA ps (memAt l k) a
def leansAt (ps : List Pk) (l : List Mem) (i : Nat) : List Nat := (List.range l.length).filter (leanB ps l i)
def leansL (ps : List Pk) (l : List Mem) : List (List Int) := (List.range l.length).map fun i => (leansAt ps l i).map fun (k : Nat) => (k : Int)
def edgeB (ps : List Pk) (l : List Mem) (i k : Nat) : Bool := decide (i < l.length) && (decide (k < l.length) && leanB ps l i k)
theorem edgeB_lt {ps : List Pk} {l : List Mem} : ∀ i j, edgeB ps l i j = true → i < l.length ∧ j < l.length := by
 intro i j h
 unfold edgeB at h
 simp only [Bool.and_eq_true, decide_eq_true_eq] at h
 exact ⟨h.1, h.2.1⟩
def reachB (ps : List Pk) (l : List Mem) : Nat → Nat → Bool := RB (edgeB ps l) l.length
theorem mem_leansAt {ps : List Pk} {l : List Mem} {i k : Nat} : k ∈ leansAt ps l i ↔ k < l.length ∧ leanB ps l i k = true := by
 unfold leansAt; rw [List.mem_filter, List.mem_range]
theorem edge_iff {ps : List Pk} {l : List Mem} {i k : Nat} (hi : i < l.length) : edgeB ps l i k = true ↔ k ∈ leansAt ps l i := by
 rw [mem_leansAt]; unfold edgeB; simp [hi]

/-! ### a plan -/
structure Ac where
 out : Bool
 m : Mem
 cyc : Int
def keyOfM (ps : List Pk) (m : Mem) : Qm.W × Int := ((pkOf ps m.pl).nm, (pkOf ps m.pl).slot)
def sameKey (ps : List Pk) (a b : Mem) : Bool := decide ((pkOf ps b.pl).nm = (pkOf ps a.pl).nm) && decide ((pkOf ps b.pl).slot = (pkOf ps a.pl).slot)
def goneL (ps : List Pk) (there l : List Mem) : List Mem := there.filter fun m => !l.any (sameKey ps m)
def oldB (there l : List Mem) (i : Nat) : Bool := there.any fun o => decide (memAt l i = o)
def planN (ps : List Pk) (there l : List Mem) : List (Nat × Nat) := planGo (reachB ps l) l.length (oldB there l) (l.length + 1) ⟨oldB there l, fun _ => 0, 0⟩
def planL (ps : List Pk) (there l : List Mem) : List Ac := (goneL ps there l).map (fun m => ⟨true, m, 0⟩) ++ (planN ps there l).map fun q => ⟨false, memAt l q.1, (q.2 : Int)⟩
def planE (ps : List Pk) (there l : List Mem) : Int := if ckSet ps l ≠ 0 then ckSet ps l else ckSet ps there

theorem leftO_le {n : Nat} {done : Nat → Bool} : leftO n done ≤ n := by
 unfold leftO
 have := List.length_filter_le (fun k => !done k) (List.range n)
 simpa using this
end Go.Proofs.YtpipgffbhpnmkaaGreatDoor

/- Members, sets, wishes in memory. -/
namespace Go.Proofs.YtpipgffbhpnmkaaGreatDoor
open Go.RowKit Qm

def RMem (w : World) (S : Nat → Prop) (x : List Value) (m : Mem) : Prop := ∃ A n c, x = [.int .i64 m.pl, .slice A n c] ∧ n ≤ c ∧ c ≤ maxLen ∧ RBools w S A n m.on
def RSet (w : World) (S : Nat → Prop) (A : Option Addr) (n : Nat) (l : List Mem) : Prop := RSeq 2 (RMem w S) w S A n l
section
variable {w w' : World} {S S' : Nat → Prop} {A : Option Addr} {n : Nat} {l : List Mem} {x : List Value} {m : Mem}
theorem RMem.keep (h : RMem w S x m) (hw : ∀ p : Addr, S p.block → w'.cell? p = w.cell? p) : RMem w' S x m := by
 obtain ⟨A, n, c, rfl, h1, h2, h3⟩ := h; exact ⟨A, n, c, rfl, h1, h2, Row.keep h3 hw⟩
theorem RSet.len (h : RSet w S A n l) : l.length = n := RSeq.len h
theorem RSet.keep (h : RSet w S A n l) (hw : ∀ p : Addr, S p.block → w'.cell? p = w.cell? p) : RSet w' S A n l := RSeq.keep h hw fun _ _ h => h.keep hw
theorem RSet.under {B : Nat} (h : RSet w S A n l) (hb : Below B w w') (hS : ∀ k, S k → k < B) : RSet w' S A n l := h.keep fun _ hp => hb.cell (hS _ hp)
theorem RSet.at_ (h : RSet w S A n l) {j : Nat} (hj : j < n) :
  ∃ b o m B k d, A = some ⟨b, o, none⟩ ∧ S b ∧ l[j]? = some m ∧ k ≤ d ∧ d ≤ maxLen ∧ RBools w S B k m.on ∧ w.cell? ⟨b, o + j * 2, none⟩ = some (.int .i64 m.pl) ∧ w.cell? ⟨b, o + j * 2 + 1, none⟩ = some (.slice B k d) := by
 obtain ⟨b, o, x, m, hA, hb, hm, ⟨B, k, d, rfl, h1, h2, h3⟩, _, hc⟩ := RSeq.at_ h hj (by decide)
 exact ⟨b, o, m, B, k, d, hA, hb, hm, h1, h2, h3, hc 0 (by decide), hc 1 (by decide)⟩
end
def atRow (a : At) : List Value := [.string ⟨a.nm.toArray⟩, .int .i64 a.op, .int .i64 a.ver, .int .i64 a.slot, .string ⟨a.fl.toArray⟩, .bool a.on]
def RAt (x : List Value) (a : At) : Prop := x = atRow a ∧ a.nm.length ≤ maxLen ∧ a.fl.length ≤ maxLen
def RPair (x : List Value) (q : Int × Int) : Prop := x = [.int .i64 q.1, .int .i64 q.2]
structure WsAt (w : World) (S : Nat → Prop) (A1 : Option Addr) (n1 c1 : Nat) (A2 : Option Addr) (n2 c2 : Nat) (A3 : Option Addr) (n3 c3 : Nat) (A4 : Option Addr) (n4 c4 : Nat) (v : Ws) : Prop where
 h1 : n1 ≤ c1 ∧ c1 ≤ maxLen
 h2 : n2 ≤ c2 ∧ c2 ≤ maxLen
 h3 : n3 ≤ c3 ∧ c3 ≤ maxLen
 h4 : n4 ≤ c4 ∧ c4 ≤ maxLen
 ts : RSeq 6 RAt w S A1 n1 v.ts
 ins : RSet w S A2 n2 v.ins
 ms : RInts w S A3 n3 v.ms
 on : RSeq 2 RPair w S A4 n4 v.on
section
variable {w w' : World} {S S' : Nat → Prop} {A1 A2 A3 A4 : Option Addr} {n1 c1 n2 c2 n3 c3 n4 c4 : Nat} {v : Ws}
end
end Go.Proofs.YtpipgffbhpnmkaaGreatDoor

/- slices.Index of words. (Of the shelf: Tryz.slices_Index_string Tryz.slices_Index_string_empty) -/
namespace Go.Proofs.YtpipgffbhpnmkaaGreatDoor
open Go.RowKit Qm

def ixI : Option Nat → Int
 | some k => (k : Int)
 | none => -1
theorem idxFrom_ix (x : Qm.W) : ∀ (fs : List Qm.W) (i : Nat), Lib.idxFromS (bas fs) ⟨x.toArray⟩ i = ixI ((ixOf x fs).map (· + i))
 | [], i => rfl
 | f :: r, i => by
  have ih := idxFrom_ix x r (i + 1)
  have hb : bas (f :: r) = ⟨f.toArray⟩ :: bas r := rfl
  rw [hb]
  have he : ((⟨f.toArray⟩ : ByteArray) = ⟨x.toArray⟩) ↔ f = x := by
   constructor
   ·intro h; have := congrArg (·.data.toList) h; simpa using this
   ·rintro rfl; rfl
  unfold Lib.idxFromS
  simp only [ixOf]
  by_cases hf : f = x
  ·rw [if_pos hf, if_pos (he.2 hf)]
   simp [ixI]
  ·rw [if_neg hf, if_neg (fun h => hf (he.1 h)), ih]
   cases ixOf x r with
   | none => rfl
   | some k => simp [ixI]; omega
theorem indexS_any (A : Option Addr) (n c : Nat) (fs : List Qm.W) (x : Qm.W) (w : World) (S : Nat → Prop) (h : Row w S A n (strs fs)) (hn : n ≤ maxLen) :
  Calls Tryz.prog 56 #[.slice A n c, .string ⟨x.toArray⟩] w fun e w' => e = .returned (.int .i64 (ixI (ixOf x fs))) ∧ w' = w := by
 have hl : fs.length = n := by have := h.len; simpa [strs] using this
 unfold maxLen at hn
 have hx : Lib.idxOfS (bas fs) ⟨x.toArray⟩ = ixI (ixOf x fs) := by
  unfold Lib.idxOfS; rw [idxFrom_ix]; cases ixOf x fs <;> rfl
 by_cases h0 : n = 0
 ·subst h0
  obtain rfl := List.eq_nil_of_length_eq_zero hl
  exact (Tryz.slices_Index_string_empty A c ⟨x.toArray⟩ w).mono fun e w' ⟨he, hw⟩ => ⟨he.trans (by rw [show Lib.idxOfS [] ⟨x.toArray⟩ = ixI (ixOf x []) from hx]), hw⟩
 ·obtain ⟨b, o, rfl, _⟩ := h.some_lit (by omega)
  refine (Tryz.slices_Index_string b o n c (bas fs) ⟨x.toArray⟩ w (by simp [bas, hl]) (by omega) (strs_cell (by rw [hl]; exact h))).mono fun e w' ⟨he, hw⟩ => ⟨?_, hw⟩
  rw [he, List.take_of_length_le (by simp [bas, hl]), hx]
end Go.Proofs.YtpipgffbhpnmkaaGreatDoor

/- valid.is, walked. -/
namespace Go.Proofs.YtpipgffbhpnmkaaGreatDoor
open Go.RowKit Qm

theorem pkOf_at {ps : List Pk} {j : Nat} {p : Pk} (h : ps[j]? = some p) : pkOf ps (j : Int) = p := by
 unfold pkOf
 rw [Int.toNat_natCast, List.getD_eq_getElem?_getD, h]; rfl
structure Ib (w : World) (A : Option Addr) (n c : Nat) (mv av : List Value) (wx : World) : Prop where
 t : Whole wx w.heap.size 24 [.slice A n c]
 m : Whole wx (w.heap.size + 1) 33 mv
 a : Whole wx (w.heap.size + 1 + 1) 37 av
 bel : Below w.heap.size w wx
theorem Ib.move {w : World} {A : Option Addr} {n c : Nat} {mv av : List Value} {wx wy : World} (h : Ib w A n c mv av wx) (hb : Below wx.heap.size wx wy) : Ib w A n c mv av wy :=
 ⟨h.t.below hb h.t.lt, h.m.below hb h.m.lt, h.a.below hb h.a.lt, h.bel.trans (hb.mono h.bel.size)⟩
theorem Ib.new (w : World) (A : Option Addr) (n c : Nat) (mv av : List Value) : Ib w A n c mv av (((w.alloc (.cells #[.slice A n c] 24)).alloc (.cells mv.toArray 33)).alloc (.cells av.toArray 37)) :=
 ⟨((Whole.new w _ _ [.slice A n c] rfl).alloc _).alloc _, (Whole.new (w.alloc (.cells #[.slice A n c] 24)) (w.heap.size + 1) _ mv (by simp)).alloc _, Whole.new ((w.alloc (.cells #[.slice A n c] 24)).alloc (.cells mv.toArray 33)) (w.heap.size + 1 + 1) _ av (by simp),
  (((Below.refl _ w).alloc (qr _) _).alloc (by simp) _).alloc (by simp; omega) _⟩
end Go.Proofs.YtpipgffbhpnmkaaGreatDoor

/- order.is, walked. -/
namespace Go.Proofs.YtpipgffbhpnmkaaGreatDoor
open Go.RowKit Qm

def isP (p : Pk) (m : Mem) (a : At) : Bool := decide (p.nm = a.nm) && (fitsP a p.ver p.slot && (decide (a.fl = []) || flagIs p m a))
theorem isA_isP (ps : List Pk) (m : Mem) (a : At) : isA ps m a = isP (pkOf ps m.pl) m a := rfl
structure Ob (w : World) (pv mv av : List Value) (wx : World) : Prop where
 p : Whole wx w.heap.size 42 pv
 m : Whole wx (w.heap.size + 1) 33 mv
 a : Whole wx (w.heap.size + 1 + 1) 37 av
 bel : Below w.heap.size w wx
theorem Ob.move {w : World} {pv mv av : List Value} {wx wy : World} (h : Ob w pv mv av wx) (hb : Below wx.heap.size wx wy) : Ob w pv mv av wy :=
 ⟨h.p.below hb h.p.lt, h.m.below hb h.m.lt, h.a.below hb h.a.lt, h.bel.trans (hb.mono h.bel.size)⟩
theorem Ob.new (w : World) (pv mv av : List Value) : Ob w pv mv av (((w.alloc (.cells pv.toArray 42)).alloc (.cells mv.toArray 33)).alloc (.cells av.toArray 37)) :=
 ⟨((Whole.new w _ _ pv rfl).alloc _).alloc _, (Whole.new (w.alloc (.cells pv.toArray 42)) (w.heap.size + 1) _ mv (by simp)).alloc _, Whole.new ((w.alloc (.cells pv.toArray 42)).alloc (.cells mv.toArray 33)) (w.heap.size + 1 + 1) _ av (by simp),
  (((Below.refl _ w).alloc (qr _) _).alloc (by simp) _).alloc (by simp; omega) _⟩
set_option maxRecDepth 100000 in
set_option maxHeartbeats 3200000 in
theorem ois_any (p : Pk) (m : Mem) (a : At) (S : Nat → Prop) (D B E : Option Addr) (q c' k d r d' : Nat) (kd : Int) (pa : At) (f : Qm.W) (no : Bool) (w : World) (hF : Row w S D q (strs p.fs)) (hq : q ≤ maxLen) (hB : RBools w S B k m.on) (hkd : k ≤ d) (hlen : m.on.length = p.fs.length) (hS : ∀ k, S k → k < w.heap.size) :
  Calls Tryz.prog 43 #[.agg #[.string ⟨p.nm.toArray⟩, .int .i64 p.ver, .int .i64 p.slot, .slice D q c', .int .i64 kd, .string ⟨pa.nm.toArray⟩, .int .i64 pa.op, .int .i64 pa.ver, .int .i64 pa.slot, .string ⟨pa.fl.toArray⟩, .bool pa.on, .string ⟨f.toArray⟩, .bool no, .slice E r d'], .agg #[.int .i64 m.pl, .slice B k d], .agg #[.string ⟨a.nm.toArray⟩, .int .i64 a.op, .int .i64 a.ver, .int .i64 a.slot, .string ⟨a.fl.toArray⟩, .bool a.on]] w fun e w' => e = .returned (.bool (isP p m a)) ∧ Below w.heap.size w w' := by
 have HC : Hid (isP p m a = (decide (p.nm = a.nm) && (fitsP a p.ver p.slot && (decide (a.fl = []) || flagIs p m a)))) := qh rfl
 have HF : Hid (flagIs p m a = match ixOf a.fl p.fs with | some i => onOf m.on i == a.on | none => false) := qh rfl
 generalize isP p m a = R at HC ⊢
 generalize flagIs p m a = fl at HC HF
 have I0 := qh (Ob.new w (pkRow p D q c' (ndRow kd pa f no E r d')) [.int .i64 m.pl, .slice B k d] [.string ⟨a.nm.toArray⟩, .int .i64 a.op, .int .i64 a.ver, .int .i64 a.slot, .string ⟨a.fl.toArray⟩, .bool a.on])
 have HFS := qh hF
 have HBO := qh hB
 have HBl := qh hB.len
 have HFl : Hid (p.fs.length = q) := qh (by have := hF.len; simpa [strs] using this)
 have HS := qh hS
 have hft := fun wx => fits_any ⟨a.nm.toArray⟩ ⟨a.fl.toArray⟩ a.op a.ver a.slot p.ver p.slot a.on wx
 rw [atOf_mk] at hft
 unfold atv at hft
 have Hft := qh hft
 have Hix := qh (fun wx (hb : Below w.heap.size w wx) => indexS_any D q c' p.fs a.fl wx S (HFS.out.below (w' := wx) hb HS.out) hq)
 clear hF hB hS hft
 obtain ⟨pl, on⟩ := m
 obtain ⟨nm, ver, slot, fs, nd⟩ := p
 unfold pkRow ndRow at I0
 dsimp only at I0 HFS Hft HC HF HFl HBO HBl hlen Hix ⊢
 generalize fitsP a ver slot = ft at Hft HC
 by_cases hn : nm = a.nm
 ·subst hn
  have H1 : Hid (R = (ft && (decide (a.fl = []) || fl))) := qh (by rw [HC.out]; simp)
  clear HC
  cases ft
  ·have HE : Hid (R = false) := qh (by rw [H1.out]; rfl)
   go_enter Tryz.func43, Tryz.ntmps43
   go_wp2_with (first | (go_at_call 67; refine (Hft.out _).mono ?_; rintro e w4 ⟨rfl, hb4⟩; refine Hid.out ?_))
   refine qh ?_
   have I4 := qh (I0.out.move hb4)
   clear hb4
   go_wp2
   go_ret
   exact ⟨ret_bool HE.out.symm, I4.out.bel⟩
  ·by_cases hfl : a.fl = []
   ·have HE : Hid (R = true) := qh (by rw [H1.out, decide_eq_true hfl]; rfl)
    have hf1 : (a.fl == []) = true := by simpa using hfl
    have hf2 : a.fl.isEmpty = true := by simpa using hfl
    have Hfl := qh hfl; clear hfl
    generalize ixOf a.fl fs = ix at Hix
    go_enter Tryz.func43, Tryz.ntmps43
    go_wp2_with (first | (go_at_call 67; refine (Hft.out _).mono ?_; rintro e w4 ⟨rfl, hb4⟩; refine Hid.out ?_))
    refine qh ?_
    have I4 := qh (I0.out.move hb4)
    clear hb4
    have a4 := I4.out.a.cell 4
    have p3 := I4.out.p.cell 3
    simp only [qgz, qgs] at a4 p3
    have alt := I4.out.a.lt
    go_wp2_with (first | (go_at_call 56; refine (Hix.out _ I4.out.bel).mono ?_; rintro e w5 ⟨rfl, hw5⟩; have hw6 := hw5.symm; subst hw6; refine Hid.out ?_))
    refine qh ?_
    go_wp2
    go_quiet (fail)
    go_wp2
    go_ret
    exact ⟨ret_bool HE.out.symm, below_drewN I4.out.bel _⟩
   ·have hf1 : (a.fl == []) = false := by simpa using hfl
    have hf2 : a.fl.isEmpty = false := by simpa using hfl
    have H2 : Hid (R = fl) := qh (by rw [H1.out, decide_eq_false hfl]; simp)
    clear hfl H1
    cases hix : ixOf a.fl fs with
    | none =>
     have HE : Hid (R = false) := qh (by rw [H2.out, HF.out, hix])
     rw [hix] at Hix
     unfold ixI at Hix
     clear hix
     go_enter Tryz.func43, Tryz.ntmps43
     go_wp2_with (first | (go_at_call 67; refine (Hft.out _).mono ?_; rintro e w4 ⟨rfl, hb4⟩; refine Hid.out ?_))
     refine qh ?_
     have I4 := qh (I0.out.move hb4)
     clear hb4
     have a4 := I4.out.a.cell 4
     have p3 := I4.out.p.cell 3
     simp only [qgz, qgs] at a4 p3
     have alt := I4.out.a.lt
     go_wp2_with (first | (go_at_call 56; refine (Hix.out _ I4.out.bel).mono ?_; rintro e w5 ⟨rfl, hw5⟩; have hw6 := hw5.symm; subst hw6; refine Hid.out ?_))
     refine qh ?_
     go_wp2
     go_quiet (fail)
     go_wp2
     go_ret
     exact ⟨ret_bool HE.out.symm, below_drewN I4.out.bel _⟩
    | some i =>
     have hiq := ixOf_lt hix
     obtain ⟨b2, o2, rfl, hb2, hbc⟩ := HBO.out.at_ (k := i) (by rw [← HBl.out, hlen]; exact hiq)
     have hik : (i : Int) < k := by have := HBl.out; omega
     have hbl2 := HS.out b2 hb2
     have HE : Hid (R = (on.getD i false == a.on)) := qh (by rw [H2.out, HF.out, hix]; rfl)
     generalize on.getD i false = ob at hbc HE
     rw [hix] at Hix
     unfold ixI at Hix
     clear hix hiq hlen
     go_enter Tryz.func43, Tryz.ntmps43
     go_wp2_with (first | (go_at_call 67; refine (Hft.out _).mono ?_; rintro e w4 ⟨rfl, hb4⟩; refine Hid.out ?_))
     refine qh ?_
     have I4 := qh (I0.out.move hb4)
     clear hb4
     have a4 := I4.out.a.cell 4
     have p3 := I4.out.p.cell 3
     simp only [qgz, qgs] at a4 p3
     have alt := I4.out.a.lt
     go_wp2_with (first | (go_at_call 56; refine (Hix.out _ I4.out.bel).mono ?_; rintro e w5 ⟨rfl, hw5⟩; have hw6 := hw5.symm; subst hw6; refine Hid.out ?_))
     refine qh ?_
     have a5 := I4.out.a.cell 5
     have m1 := I4.out.m.cell 1
     simp only [qgz, qgs] at a5 m1
     have ob4 := (I4.out.bel.cell (p := ⟨b2, o2 + i, none⟩) hbl2).trans hbc
     have hi0 : (0 : Int) ≤ (i : Int) := by omega
     go_wp2
     go_quiet (fail)
     go_wp2
     go_ret
     exact ⟨ret_bool HE.out.symm, below_drewN I4.out.bel _⟩
 ·have hn' : (nm == a.nm) = false := by simpa using hn
  have HE : Hid (R = false) := qh (by rw [HC.out, decide_eq_false hn]; rfl)
  go_enter Tryz.func43, Tryz.ntmps43
  go_wp2
  go_ret
  exact ⟨ret_bool HE.out.symm, I0.out.bel⟩
end Go.Proofs.YtpipgffbhpnmkaaGreatDoor
