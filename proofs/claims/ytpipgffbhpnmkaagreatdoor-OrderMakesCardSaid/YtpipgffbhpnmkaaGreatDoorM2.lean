/- Parts of the proof: walks and plain laws, side by side. -/
import Derived.Test.YtpipgffbhpnmkaaGreatDoorM1
import Derived.Lib.SlicesCompact
import Derived.WalkKit
import Init.Data.List
set_option linter.unusedVariables false
set_option linter.unusedSimpArgs false
set_option linter.unusedSectionVars false
namespace Qm
open Go

/-! Sorted, and each once: the same members. Flags, step by step. -/

section
variable {α : Type} [Inhabited α] [DecidableEq α]
theorem mem_compactUpTo {d : Array α} {x : α} : ∀ {m : Nat}, m ≤ d.size → (x ∈ Lib.compactUpTo d m ↔ ∃ j, j < m ∧ d[j]! = x)
  | 0, _ => by simp [Lib.compactUpTo]
  | m + 1, h => by
    have ih := mem_compactUpTo (d := d) (x := x) (m := m) (by omega)
    rw [Lib.compactUpTo_succ, List.mem_append, ih]
    by_cases hk : Lib.keeps d m = true
    · rw [if_pos hk, List.mem_singleton]
      constructor
      · rintro (⟨j, hj, rfl⟩ | rfl)
        · exact ⟨j, by omega, rfl⟩
        · exact ⟨m, by omega, rfl⟩
      · rintro ⟨j, hj, rfl⟩
        by_cases hjm : j = m
        · right; rw [hjm]
        · left; exact ⟨j, by omega, rfl⟩
    · rw [if_neg hk]
      have hk' : m ≠ 0 ∧ d[m]! = d[m - 1]! := by
        simp only [Lib.keeps, decide_eq_true_eq, not_or, Decidable.not_not] at hk
        exact hk
      constructor
      · rintro (⟨j, hj, rfl⟩ | h)
        · exact ⟨j, by omega, rfl⟩
        · cases h
      · rintro ⟨j, hj, rfl⟩
        left
        by_cases hjm : j = m
        · exact ⟨m - 1, by omega, by rw [hjm, hk'.2]⟩
        · exact ⟨j, by omega, rfl⟩
theorem mem_compact {l : List α} {x : α} : x ∈ Lib.compact l ↔ x ∈ l := by
  unfold Lib.compact
  rw [mem_compactUpTo (by simp), List.mem_iff_getElem]
  constructor
  · rintro ⟨j, hj, h⟩
    refine ⟨j, hj, ?_⟩
    rw [← h]
    simp [hj]
  · rintro ⟨j, hj, h⟩
    refine ⟨j, hj, ?_⟩
    rw [← h]
    simp [hj]
end
theorem all_mem {α : Type} {a b : List α} (p : α → Bool) (h : ∀ x, x ∈ a ↔ x ∈ b) : a.all p = b.all p := by
  rw [Bool.eq_iff_iff, List.all_eq_true, List.all_eq_true]
  exact ⟨fun k x hx => k x ((h x).2 hx), fun k x hx => k x ((h x).1 hx)⟩

/-- What stands ahead of a place. -/
def prevOf {α : Type} (l : List α) (j : Nat) : Option α := if j = 0 then none else l[j - 1]?
theorem prevOf_zero {α : Type} (l : List α) : prevOf l 0 = none := rfl
theorem prevOf_succ {α : Type} {l : List α} {j : Nat} {x : α} (h : l[j]? = some x) : prevOf l (j + 1) = some x := by unfold prevOf; rw [if_neg (by omega)]; exact h
theorem ckFlags_step {fs : List W} {j : Nat} {f : W} (h : fs[j]? = some f) :
    ckFlags (prevOf fs j) (fs.drop j) = if isName f = false then 1 else if badNext (prevOf fs j) f = true then 6 else ckFlags (prevOf fs (j + 1)) (fs.drop (j + 1)) := by
  rw [prevOf_succ h]
  obtain ⟨hj, rfl⟩ := List.getElem?_eq_some_iff.1 h
  rw [List.drop_eq_getElem_cons hj]
  rfl
theorem ckFlags_done {fs : List W} {j : Nat} (h : fs.length ≤ j) {p : Option W} : ckFlags p (fs.drop j) = 0 := by
  rw [List.drop_eq_nil_of_le h]; rfl
theorem ckT_step {ps : List Pk} {j n : Nat} {p : Pk} (h : ps[j]? = some p) :
    ckT (prevOf ps j) n (ps.drop j) = if ckPk p ≠ 0 then ckPk p else if badPk (prevOf ps j) p = true then 6 else if 14 < n + p.fs.length then 2 else ckT (prevOf ps (j + 1)) (n + p.fs.length) (ps.drop (j + 1)) := by
  rw [prevOf_succ h]
  obtain ⟨hj, rfl⟩ := List.getElem?_eq_some_iff.1 h
  rw [List.drop_eq_getElem_cons hj]
  rfl
theorem ckT_done {ps : List Pk} {j n : Nat} (h : ps.length ≤ j) {p : Option Pk} : ckT p n (ps.drop j) = 0 := by
  rw [List.drop_eq_nil_of_le h]; rfl
end Qm

/- What an atom asks of a version and a slot, in plain words. -/
namespace Go.Proofs.YtpipgffbhpnmkaaGreatDoor
open Go.RowKit Qm
def fitsP (a : At) (v sl : Int) : Bool :=
  if a.slot ≠ 0 ∧ a.slot ≠ sl then false
  else if a.op = 1 then decide (v = a.ver) else if a.op = 2 then decide (a.ver ≤ v) else if a.op = 3 then decide (v < a.ver) else true
end Go.Proofs.YtpipgffbhpnmkaaGreatDoor

/- Sets of members, and what may be: in plain words (no program in sight). -/
namespace Go.Proofs.YtpipgffbhpnmkaaGreatDoor
open Go.RowKit Qm

structure Mem where
  pl : Int
  on : List Bool
deriving DecidableEq

/-- The package at a place. -/
def pkOf (ps : List Pk) (i : Int) : Pk := ps.getD i.toNat ⟨[], 0, 0, [], Nd.zero⟩
def badPl : Option Int → Int → Bool
  | none, _ => false
  | some q, p => decide (p ≤ q)
def ckMs (ps : List Pk) : Option Int → List Mem → Int
  | _, [] => 0
  | prev, m :: r => if m.pl < 0 ∨ (ps.length : Int) ≤ m.pl then 5 else if badPl prev m.pl = true then 6 else if m.on.length ≠ (pkOf ps m.pl).fs.length then 4 else ckMs ps (some m.pl) r
def ckSet (ps : List Pk) (l : List Mem) : Int := if ckTree ps ≠ 0 then ckTree ps else ckMs ps none l

theorem ckMs_step {ps : List Pk} {l : List Mem} {j : Nat} {m : Mem} (h : l[j]? = some m) :
    ckMs ps (prevOf (l.map Mem.pl) j) (l.drop j) = if m.pl < 0 ∨ (ps.length : Int) ≤ m.pl then 5 else if badPl (prevOf (l.map Mem.pl) j) m.pl = true then 6 else if m.on.length ≠ (pkOf ps m.pl).fs.length then 4 else ckMs ps (prevOf (l.map Mem.pl) (j + 1)) (l.drop (j + 1)) := by
  rw [prevOf_succ (l := l.map Mem.pl) (x := m.pl) (by rw [List.getElem?_map, h]; rfl)]
  obtain ⟨hj, rfl⟩ := List.getElem?_eq_some_iff.1 h
  rw [List.drop_eq_getElem_cons hj]
  rfl
theorem ckMs_done {ps : List Pk} {l : List Mem} {j : Nat} (h : l.length ≤ j) {p : Option Int} : ckMs ps p (l.drop j) = 0 := by
  rw [List.drop_eq_nil_of_le h]; rfl
/-- A right member. -/
def MemOk (ps : List Pk) (m : Mem) : Prop := 0 ≤ m.pl ∧ m.pl < ps.length ∧ m.on.length = (pkOf ps m.pl).fs.length
theorem ckMs_mem {ps : List Pk} : ∀ {l : List Mem} {prev : Option Int}, ckMs ps prev l = 0 → ∀ m ∈ l, MemOk ps m
  | [], _, _, m, hm => by cases hm
  | x :: r, prev, h, m, hm => by
    simp only [ckMs] at h
    split at h
    · cases h
    · rename_i h1
      split at h
      · cases h
      · split at h
        · cases h
        · rename_i h3
          rcases List.mem_cons.1 hm with rfl | hm
          · exact ⟨by omega, by omega, by simpa using h3⟩
          · exact ckMs_mem h m hm
/-- Right members rise. -/
theorem ckMs_rises {ps : List Pk} : ∀ {l : List Mem} {prev : Option Int}, ckMs ps prev l = 0 → (∀ q, prev = some q → ∀ m ∈ l, q < m.pl) ∧ (l.map Mem.pl).Pairwise (· < ·)
  | [], _, _ => ⟨fun _ _ m hm => (by cases hm), List.Pairwise.nil⟩
  | x :: r, prev, h => by
    simp only [ckMs] at h
    split at h
    · cases h
    · split at h
      · cases h
      · rename_i h2
        split at h
        · cases h
        · obtain ⟨i1, i2⟩ := ckMs_rises h
          have hx : ∀ q, prev = some q → q < x.pl := fun q hq => by
            subst hq
            simp only [badPl, decide_eq_true_eq] at h2
            omega
          refine ⟨fun q hq m hm => ?_, ?_⟩
          · rcases List.mem_cons.1 hm with rfl | hm
            · exact hx q hq
            · exact Int.lt_trans (hx q hq) (i1 _ rfl m hm)
          · rw [List.map_cons, List.pairwise_cons]
            refine ⟨fun b hb => ?_, i2⟩
            obtain ⟨m, hm, rfl⟩ := List.mem_map.1 hb
            exact i1 _ rfl m hm
/-! ### what an atom asks of a member -/
def ixOf (f : Qm.W) : List Qm.W → Option Nat
  | [] => none
  | g :: r => if g = f then some 0 else (ixOf f r).map (· + 1)
def onOf (on : List Bool) (k : Nat) : Bool := on.getD k false
def flagIs (p : Pk) (m : Mem) (a : At) : Bool := match ixOf a.fl p.fs with
  | some k => onOf m.on k == a.on
  | none => false
def isA (ps : List Pk) (m : Mem) (a : At) : Bool :=
  decide ((pkOf ps m.pl).nm = a.nm) && (fitsP a (pkOf ps m.pl).ver (pkOf ps m.pl).slot && (decide (a.fl = []) || flagIs (pkOf ps m.pl) m a))
theorem ixOf_lt {f : Qm.W} : ∀ {l : List Qm.W} {k : Nat}, ixOf f l = some k → k < l.length
  | [], k, h => by cases h
  | g :: r, k, h => by
    simp only [ixOf] at h
    split at h
    · simp only [Option.some.injEq] at h; subst h; simp
    · cases hr : ixOf f r with
      | none => rw [hr] at h; cases h
      | some j =>
        rw [hr] at h
        simp only [Option.map_some, Option.some.injEq] at h
        have := ixOf_lt hr
        simp only [List.length_cons]; omega
theorem ixOf_none {f : Qm.W} : ∀ {l : List Qm.W}, ixOf f l = none ↔ f ∉ l
  | [] => by simp [ixOf]
  | g :: r => by
    simp only [ixOf]
    by_cases hg : g = f
    · rw [if_pos hg]; simp [hg]
    · rw [if_neg hg]
      have := ixOf_none (f := f) (l := r)
      simp only [Option.map_eq_none_iff, List.mem_cons, not_or, this]
      exact ⟨fun h => ⟨fun e => hg e.symm, h⟩, fun h => h.2⟩

/-! ### whether a need holds -/
def ifOff (ps : List Pk) (m : Mem) (f : Qm.W) (no : Bool) : Bool := match ixOf f (pkOf ps m.pl).fs with
  | some j => onOf m.on j == no
  | none => false
def memAt (l : List Mem) (k : Nat) : Mem := l.getD k ⟨0, []⟩
/-! ### wishes -/
structure Ws where
  ts : List At
  ins : List Mem
  ms : List Int
  on : List (Int × Int)
/-! ### less is asked -/
end Go.Proofs.YtpipgffbhpnmkaaGreatDoor

/- Plain: which one comes to which, in one step or more; Warshall's rounds; a plan. No program in sight. -/
namespace Qm

inductive Comes (e : Nat → Nat → Bool) : Nat → Nat → Prop
  | one {i j : Nat} : e i j = true → Comes e i j
  | more {i j k : Nat} : e i j = true → Comes e j k → Comes e i k
theorem Comes.trans {e : Nat → Nat → Bool} {i j k : Nat} (h : Comes e i j) (h2 : Comes e j k) : Comes e i k := by
  induction h with
  | one h => exact .more h h2
  | more h _ ih => exact .more h (ih h2)

/-- Warshall: with the first k as stations. -/
def RB (e : Nat → Nat → Bool) : Nat → Nat → Nat → Bool
  | 0, a, b => e a b
  | k + 1, a, b => RB e k a b || (RB e k a k && RB e k k b)
theorem RB_sound {e : Nat → Nat → Bool} : ∀ {k a b : Nat}, RB e k a b = true → Comes e a b
  | 0, _, _, h => .one h
  | k + 1, a, b, h => by
    simp only [RB, Bool.or_eq_true, Bool.and_eq_true] at h
    rcases h with h | ⟨h1, h2⟩
    · exact RB_sound h
    · exact (RB_sound h1).trans (RB_sound h2)
theorem RB_up {e : Nat → Nat → Bool} {k a b : Nat} (h : RB e k a b = true) : RB e (k + 1) a b = true := by
  simp only [RB, Bool.or_eq_true]; exact .inl h
theorem RB_row {e : Nat → Nat → Bool} {k a : Nat} : RB e (k + 1) a k = RB e k a k := by
  simp only [RB]; cases RB e k a k <;> simp
theorem RB_col {e : Nat → Nat → Bool} {k b : Nat} : RB e (k + 1) k b = RB e k k b := by
  simp only [RB]; cases RB e k k b <;> simp
theorem RB_via {e : Nat → Nat → Bool} : ∀ {k a b c : Nat}, c < k → RB e k a c = true → RB e k c b = true → RB e k a b = true
  | 0, _, _, _, h, _, _ => by omega
  | k + 1, a, b, c, hc, h1, h2 => by
    by_cases e0 : c = k
    · subst e0
      rw [RB_row] at h1; rw [RB_col] at h2
      simp only [RB, h1, h2]; simp
    · have hk : c < k := by omega
      simp only [RB, Bool.or_eq_true, Bool.and_eq_true] at h1 h2 ⊢
      rcases h1 with h1 | ⟨h1, h1'⟩
      · rcases h2 with h2 | ⟨h2, h2'⟩
        · exact .inl (RB_via hk h1 h2)
        · exact .inr ⟨RB_via hk h1 h2, h2'⟩
      · rcases h2 with h2 | ⟨h2, h2'⟩
        · exact .inr ⟨h1, RB_via hk h1' h2⟩
        · exact .inr ⟨h1, h2'⟩
theorem RB_zero {e : Nat → Nat → Bool} {a b : Nat} : ∀ {k : Nat}, e a b = true → RB e k a b = true
  | 0, h => h
  | k + 1, h => RB_up (RB_zero h)
theorem RB_full {e : Nat → Nat → Bool} {n : Nat} (hn : ∀ i j, e i j = true → i < n ∧ j < n) {a b : Nat} (h : Comes e a b) : RB e n a b = true := by
  induction h with
  | one h => exact RB_zero h
  | more h _ ih => exact RB_via (hn _ _ h).2 (RB_zero h) ih
theorem RB_trans {e : Nat → Nat → Bool} {n : Nat} (hn : ∀ i j, e i j = true → i < n ∧ j < n) {a b c : Nat} (h : RB e n a b = true) (h2 : RB e n b c = true) : RB e n a c = true :=
  RB_full hn ((RB_sound h).trans (RB_sound h2))
theorem Comes.lt {e : Nat → Nat → Bool} {n : Nat} (hn : ∀ i j, e i j = true → i < n ∧ j < n) {a b : Nat} (h : Comes e a b) : a < n ∧ b < n := by
  induction h with
  | one h => exact hn _ _ h
  | more h _ ih => exact ⟨(hn _ _ h).1, ih.2⟩
/-- A set that holds all that comes next, and not the goal. -/
theorem Comes.shut {e : Nat → Nat → Bool} {K : Nat → Prop} {a b : Nat} (h : Comes e a b) (h1 : ∀ j, e a j = true → j ≠ b ∧ K j) (h2 : ∀ i, K i → ∀ j, e i j = true → j ≠ b ∧ K j) : False := by
  have : ∀ i b, Comes e i b → (∀ j, e i j = true → j ≠ b ∧ K j) → (∀ i, K i → ∀ j, e i j = true → j ≠ b ∧ K j) → False := by
    intro i b h
    induction h with
    | one h => intro h1 _; exact (h1 _ h).1 rfl
    | more h _ ih => intro h1 h2; exact ih (fun j hj => h2 _ (h1 _ h).2 j hj) h2
  exact this a b h h1 h2

/-! ### a plan -/
def readyB (r : Nat → Nat → Bool) (n : Nat) (done : Nat → Bool) (k : Nat) : Bool := (List.range n).all fun i => !(r k i && !r i k && !done i)
def pickO (r : Nat → Nat → Bool) (n : Nat) (done : Nat → Bool) : Option Nat := (List.range n).find? fun i => !done i && readyB r n done i
def loopsB (r : Nat → Nat → Bool) (n : Nat) (old : Nat → Bool) (i : Nat) : Bool := (List.range n).any fun k => decide (k ≠ i) && !old k && r i k && r k i
structure PSt where
  done : Nat → Bool
  num : Nat → Nat
  cyc : Nat
def ringB (r : Nat → Nat → Bool) (i k : Nat) : Bool := decide (k = i) || (r i k && r k i)
def stepP (r : Nat → Nat → Bool) (n : Nat) (old : Nat → Bool) (s : PSt) (i : Nat) : PSt :=
  if s.num i = 0 ∧ loopsB r n old i = true then ⟨fun k => decide (k = i) || s.done k, fun k => if ringB r i k = true then s.cyc + 1 else s.num k, s.cyc + 1⟩
  else ⟨fun k => decide (k = i) || s.done k, s.num, s.cyc⟩
theorem stepP_done {r : Nat → Nat → Bool} {n : Nat} {old : Nat → Bool} {s : PSt} {i : Nat} : (stepP r n old s i).done = fun k => decide (k = i) || s.done k := by
  unfold stepP; split <;> rfl
def planGo (r : Nat → Nat → Bool) (n : Nat) (old : Nat → Bool) : Nat → PSt → List (Nat × Nat)
  | 0, _ => []
  | g + 1, s => match pickO r n s.done with
    | none => []
    | some i => (i, (stepP r n old s i).num i) :: planGo r n old g (stepP r n old s i)
def leftO (n : Nat) (done : Nat → Bool) : Nat := ((List.range n).filter fun k => !done k).length

theorem readyB_iff {r : Nat → Nat → Bool} {n : Nat} {done : Nat → Bool} {k : Nat} : readyB r n done k = true ↔ ∀ i, i < n → r k i = true → r i k = false → done i = true := by
  unfold readyB
  rw [List.all_eq_true]
  constructor
  · intro h i hi h1 h2
    have := h i (List.mem_range.2 hi)
    rw [h1, h2] at this
    simpa using this
  · intro h i hi
    have hi := List.mem_range.1 hi
    cases h1 : r k i
    · rfl
    · cases h2 : r i k
      · rw [h i hi h1 h2]; rfl
      · rfl
theorem pickO_some {r : Nat → Nat → Bool} {n : Nat} {done : Nat → Bool} {i : Nat} (h : pickO r n done = some i) : i < n ∧ done i = false ∧ readyB r n done i = true := by
  unfold pickO at h
  have h1 := List.find?_some h
  have h2 := List.mem_range.1 (List.mem_of_find?_eq_some h)
  simp only [Bool.and_eq_true, Bool.not_eq_true'] at h1
  exact ⟨h2, h1.1, h1.2⟩
theorem length_filter_lt {α : Type} {p q : α → Bool} (hpq : ∀ k, p k = true → q k = true) {x : α} (hx : p x = false) (hy : q x = true) : ∀ {l : List α}, x ∈ l → (l.filter p).length < (l.filter q).length
  | y :: l, hm => by
    have hle : ∀ l : List α, (l.filter p).length ≤ (l.filter q).length := by
      intro l
      induction l with
      | nil => exact Nat.le_refl _
      | cons z l ih =>
        simp only [List.filter_cons]
        cases hp : p z
        · cases q z <;> simp <;> omega
        · rw [hpq z hp]; simp; omega
    simp only [List.filter_cons]
    rcases List.mem_cons.1 hm with rfl | hm
    · rw [hx, hy]
      have := hle l
      simp; omega
    · have ih := length_filter_lt hpq hx hy hm
      cases hp : p y
      · cases q y <;> simp <;> omega
      · rw [hpq y hp]; simp; omega
/-- Where something is left, something is ready. -/
theorem pickO_none {r : Nat → Nat → Bool} {n : Nat} {done : Nat → Bool} (ht : ∀ a b c, r a b = true → r b c = true → r a c = true) (h : pickO r n done = none) : ∀ i, i < n → done i = true := by
  have hall : ∀ i, i < n → done i = false → readyB r n done i = false := by
    intro i hi hd
    unfold pickO at h
    have := List.find?_eq_none.1 h i (List.mem_range.2 hi)
    simp only [hd, Bool.not_false, Bool.true_and] at this
    simpa using this
  have : ∀ m i, i < n → ((List.range n).filter fun k => r i k && !r k i).length ≤ m → done i = false → False := by
    intro m
    induction m with
    | zero =>
      intro i hi hm hd
      have hr := hall i hi hd
      have hl : (List.range n).filter (fun k => r i k && !r k i) = [] := List.length_eq_zero_iff.1 (by omega)
      have : readyB r n done i = true := readyB_iff.2 fun k hk h1 h2 => by
        have : k ∈ (List.range n).filter (fun k => r i k && !r k i) := List.mem_filter.2 ⟨List.mem_range.2 hk, by simp [h1, h2]⟩
        rw [hl] at this; cases this
      rw [hr] at this; cases this
    | succ m ih =>
      intro i hi hm hd
      have hr := hall i hi hd
      obtain ⟨k, hk, h1, h2, h3⟩ : ∃ k, k < n ∧ r i k = true ∧ r k i = false ∧ done k = false := by
        by_cases hex : ∃ k, k < n ∧ r i k = true ∧ r k i = false ∧ done k = false
        · exact hex
        · have : readyB r n done i = true := readyB_iff.2 fun k hk h1 h2 => by
            cases hdk : done k
            · exact absurd ⟨k, hk, h1, h2, hdk⟩ hex
            · rfl
          rw [hr] at this; cases this
      refine ih k hk ?_ h3
      have := length_filter_lt (p := fun j => r k j && !r j k) (q := fun j => r i j && !r j i) (l := List.range n) (x := k) (fun j hj => by
        simp only [Bool.and_eq_true, Bool.not_eq_true'] at hj ⊢
        refine ⟨ht _ _ _ h1 hj.1, ?_⟩
        cases hji : r j i
        · rfl
        · have := ht _ _ _ hji h1
          rw [hj.2] at this; cases this) (by simp) (by simp [h1, h2]) (List.mem_range.2 hk)
      omega
  intro i hi
  cases hd : done i
  · exact (this _ i hi (Nat.le_refl _) hd).elim
  · rfl
theorem leftO_step {r : Nat → Nat → Bool} {n : Nat} {old : Nat → Bool} {s : PSt} {i : Nat} (h : pickO r n s.done = some i) : leftO n (stepP r n old s i).done < leftO n s.done := by
  obtain ⟨hi, hd, _⟩ := pickO_some h
  unfold leftO
  rw [stepP_done]
  exact length_filter_lt (x := i) (fun k hk => by simp only [Bool.not_eq_true', Bool.or_eq_false_iff] at hk ⊢; exact hk.2) (by simp) (by simp [hd]) (List.mem_range.2 hi)
end Qm

/- Plain: what a plan does: each new one once, what it comes to ahead of it, cycles of two at least. -/
namespace Qm

structure PInv (r : Nat → Nat → Bool) (n : Nat) (old : Nat → Bool) (s : PSt) : Prop where
  od : ∀ k, old k = true → s.done k = true
  eq : ∀ a b, r a b = true → r b a = true → s.num a = s.num b
  two : ∀ a, a < n → old a = false → s.num a ≠ 0 → loopsB r n old a = true
  no : ∀ a, a < n → old a = false → s.done a = true → s.num a = 0 → loopsB r n old a = false
theorem loopsB_iff {r : Nat → Nat → Bool} {n : Nat} {old : Nat → Bool} {i : Nat} : loopsB r n old i = true ↔ ∃ k, k < n ∧ k ≠ i ∧ old k = false ∧ r i k = true ∧ r k i = true := by
  unfold loopsB
  rw [List.any_eq_true]
  constructor
  · rintro ⟨k, hk, h⟩
    simp only [Bool.and_eq_true, decide_eq_true_eq, Bool.not_eq_true'] at h
    exact ⟨k, List.mem_range.1 hk, h.1.1.1, h.1.1.2, h.1.2, h.2⟩
  · rintro ⟨k, hk, h1, h2, h3, h4⟩
    exact ⟨k, List.mem_range.2 hk, by simp [h1, h2, h3, h4]⟩
theorem ringB_iff {r : Nat → Nat → Bool} {i k : Nat} : ringB r i k = true ↔ k = i ∨ (r i k = true ∧ r k i = true) := by
  unfold ringB; simp
section
variable {r : Nat → Nat → Bool} {n : Nat} {old : Nat → Bool} {s : PSt} {i : Nat} (ht : ∀ a b c, r a b = true → r b c = true → r a c = true)
include ht
theorem PInv.step (h : PInv r n old s) (hp : pickO r n s.done = some i) : PInv r n old (stepP r n old s i) ∧ (∀ a, s.num a ≠ 0 → (stepP r n old s i).num a = s.num a) ∧
    (∀ a, a < n → old a = false → s.done a = true → (stepP r n old s i).num a = s.num a) ∧ (loopsB r n old i = true → (stepP r n old s i).num i ≠ 0) := by
  obtain ⟨hi, hd, hr⟩ := pickO_some hp
  have hio : old i = false := by
    cases ho : old i
    · rfl
    · rw [h.od i ho] at hd; cases hd
  by_cases hc : s.num i = 0 ∧ loopsB r n old i = true
  · obtain ⟨h0, hl⟩ := hc
    have hs : stepP r n old s i = ⟨fun k => decide (k = i) || s.done k, fun k => if ringB r i k = true then s.cyc + 1 else s.num k, s.cyc + 1⟩ := by
      unfold stepP; rw [if_pos ⟨h0, hl⟩]
    rw [hs]
    have hring : ∀ a, ringB r i a = true → s.num a = 0 := by
      intro a ha
      rcases ringB_iff.1 ha with rfl | ⟨h1, h2⟩
      · exact h0
      · rw [← h.eq _ _ h1 h2]; exact h0
    refine ⟨⟨fun k hk => ?_, fun a b h1 h2 => ?_, fun a ha hao hn => ?_, fun a ha hao hda hn => ?_⟩, fun a ha => ?_, fun a ha hao hda => ?_, fun _ => ?_⟩
    · show (decide (k = i) || s.done k) = true
      rw [h.od k hk, Bool.or_true]
    · show (if ringB r i a = true then s.cyc + 1 else s.num a) = (if ringB r i b = true then s.cyc + 1 else s.num b)
      have : ringB r i a = true ↔ ringB r i b = true := by
        rw [ringB_iff, ringB_iff]
        constructor
        · rintro (rfl | ⟨g1, g2⟩)
          · exact .inr ⟨h1, h2⟩
          · exact .inr ⟨ht _ _ _ g1 h1, ht _ _ _ h2 g2⟩
        · rintro (rfl | ⟨g1, g2⟩)
          · exact .inr ⟨h2, h1⟩
          · exact .inr ⟨ht _ _ _ g1 h2, ht _ _ _ h1 g2⟩
      by_cases hra : ringB r i a = true
      · rw [if_pos hra, if_pos (this.1 hra)]
      · rw [if_neg hra, if_neg (fun hb => hra (this.2 hb))]
        exact h.eq _ _ h1 h2
    · dsimp only at hn
      by_cases hra : ringB r i a = true
      · rcases ringB_iff.1 hra with rfl | ⟨g1, g2⟩
        · exact hl
        · by_cases hai : a = i
          · subst hai; exact hl
          · exact loopsB_iff.2 ⟨i, hi, fun e => hai e.symm, hio, g2, g1⟩
      · rw [if_neg hra] at hn
        exact h.two a ha hao hn
    · dsimp only at hn hda
      by_cases hra : ringB r i a = true
      · rw [if_pos hra] at hn; omega
      · rw [if_neg hra] at hn
        have hai : a ≠ i := fun e => hra (ringB_iff.2 (.inl e))
        simp only [Bool.or_eq_true, decide_eq_true_eq] at hda
        exact h.no a ha hao (hda.resolve_left hai) hn
    · show (if ringB r i a = true then s.cyc + 1 else s.num a) = s.num a
      rw [if_neg (fun hra => ha (hring a hra))]
    · show (if ringB r i a = true then s.cyc + 1 else s.num a) = s.num a
      by_cases hra : ringB r i a = true
      · exfalso
        have hai : a ≠ i := fun e => by rw [e, hd] at hda; cases hda
        have := h.no a ha hao hda (hring a hra)
        rw [loopsB_iff.2 ⟨i, hi, fun e => hai e.symm, hio, ((ringB_iff.1 hra).resolve_left hai).2, ((ringB_iff.1 hra).resolve_left hai).1⟩] at this
        cases this
      · rw [if_neg hra]
    · show (if ringB r i i = true then s.cyc + 1 else s.num i) ≠ 0
      rw [if_pos (ringB_iff.2 (.inl rfl))]; omega
  · have hs : stepP r n old s i = ⟨fun k => decide (k = i) || s.done k, s.num, s.cyc⟩ := by
      unfold stepP; rw [if_neg hc]
    rw [hs]
    refine ⟨⟨fun k hk => ?_, h.eq, h.two, fun a ha hao hda hn => ?_⟩, fun a _ => rfl, fun a _ _ _ => rfl, fun hl hn => hc ⟨hn, hl⟩⟩
    · show (decide (k = i) || s.done k) = true
      rw [h.od k hk, Bool.or_true]
    · by_cases hai : a = i
      · subst hai
        cases hl : loopsB r n old a
        · rfl
        · exact absurd ⟨hn, hl⟩ hc
      · simp only [Bool.or_eq_true, decide_eq_true_eq] at hda
        exact h.no a ha hao (hda.resolve_left hai) hn
/-- The whole plan. -/
theorem planGo_all : ∀ (g : Nat) (s : PSt), PInv r n old s → leftO n s.done < g → ∃ (ks : List Nat) (f : Nat → Nat), planGo r n old g s = ks.map (fun k => (k, f k)) ∧ ks.Nodup ∧ (∀ k, k ∈ ks ↔ k < n ∧ s.done k = false) ∧
    (∀ a, s.num a ≠ 0 → f a = s.num a) ∧ (∀ a, a < n → old a = false → s.done a = true → f a = s.num a) ∧ (∀ a b, r a b = true → r b a = true → f a = f b) ∧ (∀ a, a < n → old a = false → f a ≠ 0 → loopsB r n old a = true) ∧
    ks.Pairwise (fun a b => r a b = true → r b a = true ∧ f a ≠ 0)
  | 0, _, _, h => by omega
  | g + 1, s, hI, hg => by
    rw [planGo]
    cases hp : pickO r n s.done with
    | none =>
      refine ⟨[], s.num, rfl, List.nodup_nil, fun k => ⟨fun h => (by cases h), fun h => ?_⟩, fun _ _ => rfl, fun _ _ _ _ => rfl, hI.eq, hI.two, List.Pairwise.nil⟩
      rw [pickO_none ht hp k h.1] at h
      exact absurd h.2 (by simp)
    | some i =>
      obtain ⟨hi, hd, hr⟩ := pickO_some hp
      obtain ⟨h1, h2, h3, h4⟩ := hI.step ht hp
      have hl := leftO_step (old := old) hp
      obtain ⟨ks, f, e1, e2, e3, e4, e5, e6, e7, e8⟩ := planGo_all g _ h1 (by omega)
      have hio : old i = false := by
        cases ho : old i
        · rfl
        · rw [hI.od i ho] at hd; cases hd
      have hdi : (stepP r n old s i).done i = true := by rw [stepP_done]; simp
      have hfi : f i = (stepP r n old s i).num i := e5 i hi hio hdi
      have hik : i ∉ ks := fun hm => by have := ((e3 i).1 hm).2; rw [hdi] at this; cases this
      refine ⟨i :: ks, f, ?_, List.nodup_cons.2 ⟨hik, e2⟩, fun k => ?_, fun a ha => ?_, fun a ha hao hda => ?_, e6, e7, List.pairwise_cons.2 ⟨fun b hb hib => ?_, e8⟩⟩
      · dsimp only
        rw [e1, List.map_cons, hfi]
      · rw [List.mem_cons, e3 k]
        rw [stepP_done]
        constructor
        · rintro (rfl | ⟨g1, g2⟩)
          · exact ⟨hi, hd⟩
          · simp only [Bool.or_eq_false_iff, decide_eq_false_iff_not] at g2
            exact ⟨g1, g2.2⟩
        · rintro ⟨g1, g2⟩
          by_cases hki : k = i
          · exact .inl hki
          · exact .inr ⟨g1, by simp [hki, g2]⟩
      · rw [e4 a (by rw [h2 a ha]; exact ha), h2 a ha]
      · rw [e5 a ha hao (by rw [stepP_done]; simp [hda]), h3 a ha hao hda]
      · obtain ⟨hbn, hbd⟩ := (e3 b).1 hb
        rw [stepP_done] at hbd
        simp only [Bool.or_eq_false_iff, decide_eq_false_iff_not] at hbd
        have hbi : r b i = true := by
          cases hbi : r b i
          · have := readyB_iff.1 hr b hbn hib hbi
            rw [hbd.2] at this; cases this
          · rfl
        have hbo : old b = false := by
          cases ho : old b
          · rfl
          · rw [hI.od b ho] at hbd; exact absurd hbd.2 (by simp)
        refine ⟨hbi, ?_⟩
        rw [hfi]
        exact h4 (loopsB_iff.2 ⟨b, hbn, hbd.1, hbo, hib, hbi⟩)
end
end Qm

/- What a member leans on, and what makes a set: in plain words (no program in sight). -/
namespace Go.Proofs.YtpipgffbhpnmkaaGreatDoor
open Go.RowKit Qm

/-! ### what a member's needs want now -/
mutual
def asksN (ps : List Pk) (me : Mem) : Nd → List At
  | .mk kd a f no ks => if kd = 1 then [a] else if kd = 5 ∧ ifOff ps me f no = true then [] else asksL ps me ks
def asksL (ps : List Pk) (me : Mem) : List Nd → List At
  | [] => []
  | x :: r => asksN ps me x ++ asksL ps me r
end
theorem asksL_eq {ps : List Pk} {me : Mem} : ∀ {ks : List Nd}, asksL ps me ks = (ks.map (asksN ps me)).flatten
  | [] => rfl
  | x :: r => by rw [asksL, asksL_eq, List.map_cons, List.flatten_cons]
/-- Whether some of a member's needs may be met by another one. -/
def leanB (ps : List Pk) (l : List Mem) (i k : Nat) : Bool := (asksN ps (memAt l i) (pkOf ps (memAt l i).pl).nd).any fun a => isA ps (memAt l k) a
def leansAt (ps : List Pk) (l : List Mem) (i : Nat) : List Nat := (List.range l.length).filter (leanB ps l i)
def leansL (ps : List Pk) (l : List Mem) : List (List Int) := (List.range l.length).map fun i => (leansAt ps l i).map fun (k : Nat) => (k : Int)
def edgeB (ps : List Pk) (l : List Mem) (i k : Nat) : Bool := decide (i < l.length) && (decide (k < l.length) && leanB ps l i k)
theorem edgeB_lt {ps : List Pk} {l : List Mem} : ∀ i j, edgeB ps l i j = true → i < l.length ∧ j < l.length := by
  intro i j h
  unfold edgeB at h
  simp only [Bool.and_eq_true, decide_eq_true_eq] at h
  exact ⟨h.1, h.2.1⟩
def reachB (ps : List Pk) (l : List Mem) : Nat → Nat → Bool := RB (edgeB ps l) l.length
theorem reachB_trans {ps : List Pk} {l : List Mem} (a b c : Nat) (h : reachB ps l a b = true) (h2 : reachB ps l b c = true) : reachB ps l a c = true := RB_trans edgeB_lt h h2
theorem mem_leansAt {ps : List Pk} {l : List Mem} {i k : Nat} : k ∈ leansAt ps l i ↔ k < l.length ∧ leanB ps l i k = true := by
  unfold leansAt; rw [List.mem_filter, List.mem_range]
theorem edge_iff {ps : List Pk} {l : List Mem} {i k : Nat} (hi : i < l.length) : edgeB ps l i k = true ↔ k ∈ leansAt ps l i := by
  rw [mem_leansAt]; unfold edgeB; simp [hi]

/-! ### a plan -/
structure Ac where
  out : Bool
  m : Mem
  cyc : Int
def keyOfM (ps : List Pk) (m : Mem) : Qm.W × Int := ((pkOf ps m.pl).nm, (pkOf ps m.pl).slot)
def sameKey (ps : List Pk) (a b : Mem) : Bool := decide ((pkOf ps b.pl).nm = (pkOf ps a.pl).nm) && decide ((pkOf ps b.pl).slot = (pkOf ps a.pl).slot)
def goneL (ps : List Pk) (there l : List Mem) : List Mem := there.filter fun m => !l.any (sameKey ps m)
def oldB (there l : List Mem) (i : Nat) : Bool := there.any fun o => decide (memAt l i = o)
def planN (ps : List Pk) (there l : List Mem) : List (Nat × Nat) := planGo (reachB ps l) l.length (oldB there l) (l.length + 1) ⟨oldB there l, fun _ => 0, 0⟩
def planL (ps : List Pk) (there l : List Mem) : List Ac := (goneL ps there l).map (fun m => ⟨true, m, 0⟩) ++ (planN ps there l).map fun q => ⟨false, memAt l q.1, (q.2 : Int)⟩
def planE (ps : List Pk) (there l : List Mem) : Int := if ckSet ps l ≠ 0 then ckSet ps l else ckSet ps there

theorem leftO_le {n : Nat} {done : Nat → Bool} : leftO n done ≤ n := by
  unfold leftO
  have := List.length_filter_le (fun k => !done k) (List.range n)
  simpa using this
theorem PInv.start {r : Nat → Nat → Bool} {n : Nat} {old : Nat → Bool} : PInv r n old ⟨old, fun _ => 0, 0⟩ :=
  ⟨fun _ h => h, fun _ _ _ _ => rfl, fun _ _ _ h => absurd rfl h, fun _ _ h1 h2 => by rw [show old _ = true from h2] at h1; cases h1⟩
/-- What is put in: each new one once; what it comes to ahead of it, or of its cycle. -/
theorem planN_all (ps : List Pk) (there l : List Mem) : ∃ (ks : List Nat) (f : Nat → Nat), planN ps there l = ks.map (fun k => (k, f k)) ∧ ks.Nodup ∧ (∀ k, k ∈ ks ↔ k < l.length ∧ oldB there l k = false) ∧
    (∀ a b, reachB ps l a b = true → reachB ps l b a = true → f a = f b) ∧ (∀ a, a < l.length → oldB there l a = false → f a ≠ 0 → loopsB (reachB ps l) l.length (oldB there l) a = true) ∧
    ks.Pairwise (fun a b => reachB ps l a b = true → reachB ps l b a = true ∧ f a ≠ 0) := by
  obtain ⟨ks, f, h1, h2, h3, _, _, h6, h7, h8⟩ := planGo_all (r := reachB ps l) (n := l.length) (old := oldB there l) reachB_trans (l.length + 1) ⟨oldB there l, fun _ => 0, 0⟩ PInv.start (Nat.lt_succ_of_le leftO_le)
  exact ⟨ks, f, h1, h2, h3, h6, h7, h8⟩
end Go.Proofs.YtpipgffbhpnmkaaGreatDoor
