import Derived.Lib.AtoiAll
import Derived.Lib.ItoaNum
import Derived.Lib.IndexAny
import Derived.Lib.IndexLaws
namespace Qm
open Go

/-! Atoms, in plain words: no program in sight. -/

structure At where
  nm : List UInt8
  op : Int
  ver : Int
  slot : Int
  fl : List UInt8
  on : Bool
deriving DecidableEq

def At.zero : At := ⟨[], 0, 0, 0, [], false⟩

def lowB (c : UInt8) : Bool := decide (97 ≤ c.toNat ∧ c.toNat ≤ 122)
def digB (c : UInt8) : Bool := decide (48 ≤ c.toNat ∧ c.toNat ≤ 57)
def okAt (i : Nat) (c : UInt8) : Bool := lowB c || (decide (0 < i) && digB c)
def okFrom : Nat → List UInt8 → Bool
  | _, [] => true
  | i, c :: r => okAt i c && okFrom (i + 1) r
/-- A name. -/
def isName (l : List UInt8) : Bool := decide (1 ≤ l.length ∧ l.length ≤ 8) && okFrom 0 l

def ckAtom (a : At) : Int :=
  if isName a.nm = false ∨ a.fl ≠ [] ∧ isName a.fl = false then 1
  else if a.op < 0 ∨ 3 < a.op ∨ a.slot < 0 ∨ 9 < a.slot then 3
  else if a.op = 0 ∧ a.ver ≠ 0 ∨ a.op ≠ 0 ∧ (a.ver < 1 ∨ 99 < a.ver) then 3
  else if a.fl = [] ∧ a.on = true then 4 else 0

def opText (o : Int) : List UInt8 := if o = 1 then [61] else if o = 2 then [62, 61] else if o = 3 then [60] else []
def textOf (a : At) : List UInt8 :=
  a.nm ++ (if a.op ≠ 0 then opText a.op ++ Lib.itoa a.ver else []) ++ (if 0 < a.slot then 58 :: Lib.itoa a.slot else []) ++
    (if a.fl ≠ [] then (if a.on then 43 else 45) :: a.fl else [])

def number (l : List UInt8) : Option Int :=
  match Lib.atoiAll l with
  | .ok v => if Lib.itoa v = l then some v else none
  | _ => none

def cutAt (p : UInt8 → Bool) : List UInt8 → Option (List UInt8 × UInt8 × List UInt8)
  | [] => none
  | c :: r => if p c then some ([], c, r) else match cutAt p r with
    | some (a, b, d) => some (c :: a, b, d)
    | none => none

def signB (c : UInt8) : Bool := c == 43 || c == 45
def opB (c : UInt8) : Bool := c == 61 || c == 60 || c == 62

def fin (a : At) : At × Int := if ckAtom a = 0 then (a, 0) else (At.zero, ckAtom a)
def badAt : At × Int := (At.zero, 1)
def opNum (c : UInt8) (d : List UInt8) : Option (Int × Int) :=
  if c = 61 then (number d).map fun v => (1, v)
  else if c = 60 then (number d).map fun v => (3, v)
  else match d with
    | [] => none
    | e :: r => if e = 61 then (number r).map fun v => (2, v) else none
def parseOp (l fl : List UInt8) (on : Bool) (slot : Int) : At × Int :=
  match cutAt opB l with
  | none => fin ⟨l, 0, 0, slot, fl, on⟩
  | some (a, c, d) => match opNum c d with
    | some (o, v) => fin ⟨a, o, v, slot, fl, on⟩
    | none => badAt
def parseSlot (l fl : List UInt8) (on : Bool) : At × Int :=
  match cutAt (· == 58) l with
  | none => parseOp l fl on 0
  | some (a, _, d) => match number d with
    | some n => if n = 0 then badAt else parseOp a fl on n
    | none => badAt
def parseFew (l : List UInt8) : At × Int :=
  match cutAt signB l with
  | none => parseSlot l [] false
  | some (a, c, d) => if d = [] then badAt else parseSlot a d (c == 43)
def parseAt (l : List UInt8) : At × Int := if 20000 < l.length then (At.zero, 2) else parseFew l

/-! ### Cutting -/

theorem cutAt_none {p : UInt8 → Bool} : ∀ {l : List UInt8}, (∀ c ∈ l, p c = false) → cutAt p l = none
  | [], _ => rfl
  | c :: r, h => by
    have h1 := h c (List.mem_cons_self ..)
    have h2 := cutAt_none (p := p) (l := r) fun x hx => h x (List.mem_cons_of_mem _ hx)
    simp [cutAt, h1, h2]

theorem cutAt_some {p : UInt8 → Bool} {c : UInt8} {d : List UInt8} (hc : p c = true) : ∀ {a : List UInt8}, (∀ x ∈ a, p x = false) → cutAt p (a ++ c :: d) = some (a, c, d)
  | [], _ => by simp [cutAt, hc]
  | x :: r, h => by
    have h1 := h x (List.mem_cons_self ..)
    have h2 := cutAt_some (d := d) hc (a := r) fun y hy => h y (List.mem_cons_of_mem _ hy)
    simp [cutAt, h1, h2]

theorem of_cutAt_some {p : UInt8 → Bool} : ∀ {l a : List UInt8} {c : UInt8} {d : List UInt8}, cutAt p l = some (a, c, d) → l = a ++ c :: d ∧ p c = true ∧ ∀ x ∈ a, p x = false
  | [], _, _, _, h => by simp [cutAt] at h
  | x :: r, a, c, d, h => by
    unfold cutAt at h
    by_cases hx : p x = true
    · simp only [hx, if_true, Option.some.injEq, Prod.mk.injEq] at h
      obtain ⟨rfl, rfl, rfl⟩ := h
      exact ⟨rfl, hx, by simp⟩
    · simp only [hx, Bool.false_eq_true, if_false] at h
      cases hr : cutAt p r with
      | none => rw [hr] at h; cases h
      | some t =>
        obtain ⟨a', c', d'⟩ := t
        rw [hr] at h
        simp only [Option.some.injEq, Prod.mk.injEq] at h
        obtain ⟨rfl, rfl, rfl⟩ := h
        obtain ⟨h1, h2, h3⟩ := of_cutAt_some hr
        refine ⟨by rw [h1]; rfl, h2, ?_⟩
        intro y hy
        rcases List.mem_cons.1 hy with rfl | hy
        · simpa using hx
        · exact h3 y hy

theorem of_cutAt_none {p : UInt8 → Bool} : ∀ {l : List UInt8}, cutAt p l = none → ∀ x ∈ l, p x = false
  | [], _, x, hx => by cases hx
  | y :: r, h, x, hx => by
    unfold cutAt at h
    by_cases hy : p y = true
    · simp [hy] at h
    · simp only [hy, Bool.false_eq_true, if_false] at h
      have hr : cutAt p r = none := by
        cases hr : cutAt p r with
        | none => rfl
        | some t => rw [hr] at h; cases h
      rcases List.mem_cons.1 hx with rfl | hx
      · simpa using hy
      · exact of_cutAt_none hr x hx

theorem cutAt_indexAny (cs : List UInt8) : ∀ (l : List UInt8), Lib.indexAny l cs = match cutAt (fun c => cs.contains c) l with | none => -1 | some (a, _, _) => (a.length : Int)
  | [] => rfl
  | c :: r => by
    have ih := cutAt_indexAny cs r
    by_cases hc : cs.contains c = true
    · simp only [Lib.indexAny, cutAt, hc, if_true]
      rfl
    · simp only [Lib.indexAny, cutAt, hc, Bool.false_eq_true, if_false]
      cases hr : cutAt (fun c => cs.contains c) r with
      | none => rw [hr] at ih; simp [ih]
      | some t =>
        obtain ⟨a, b, d⟩ := t
        rw [hr] at ih
        simp only [] at ih
        simp only [List.length_cons]
        rw [ih]
        have : ((a.length : Int) == -1) = false := by simp
        rw [this]
        simp

/-! ### What stands in a name, and in a numeral -/

theorem okFrom_mem : ∀ {i : Nat} {l : List UInt8}, okFrom i l = true → ∀ c ∈ l, lowB c = true ∨ digB c = true
  | _, [], _, c, hc => by cases hc
  | i, x :: r, h, c, hc => by
    simp only [okFrom, Bool.and_eq_true] at h
    rcases List.mem_cons.1 hc with rfl | hc
    · have := h.1
      simp only [okAt, Bool.or_eq_true, Bool.and_eq_true] at this
      rcases this with h1 | h1
      · exact .inl h1
      · exact .inr h1.2
    · exact okFrom_mem h.2 c hc

theorem isName_mem {l : List UInt8} (h : isName l = true) : ∀ c ∈ l, lowB c = true ∨ digB c = true := by
  simp only [isName, Bool.and_eq_true] at h
  exact okFrom_mem h.2

theorem isName_len {l : List UInt8} (h : isName l = true) : 1 ≤ l.length ∧ l.length ≤ 8 := by
  simp only [isName, Bool.and_eq_true, decide_eq_true_eq] at h
  exact h.1

theorem decDigits_mem (u : Nat) : ∀ c ∈ Lib.decDigits u, digB c = true := by
  induction u using Nat.strongRecOn with
  | _ u ih =>
    intro c hc
    rw [Lib.decDigits] at hc
    split at hc
    · rename_i h
      simp only [List.mem_singleton] at hc
      subst hc
      simp only [digB, decide_eq_true_eq, UInt8.toNat_ofNat']
      omega
    · rename_i h
      rcases List.mem_append.1 hc with hc | hc
      · exact ih (u / 10) (by omega) c hc
      · simp only [List.mem_singleton] at hc
        subst hc
        simp only [digB, decide_eq_true_eq, UInt8.toNat_ofNat']
        omega

theorem itoa_mem {n : Int} (h : 0 ≤ n) : ∀ c ∈ Lib.itoa n, digB c = true := by
  unfold Lib.itoa
  rw [if_neg (by omega)]
  exact decDigits_mem _

theorem decDigits_one {n : Nat} (h : n < 10) : Lib.decDigits n = [UInt8.ofNat (48 + n)] := by rw [Lib.decDigits, dif_pos h]
theorem decDigits_two {n : Nat} (h : ¬ n < 10) (h2 : n < 100) : Lib.decDigits n = [UInt8.ofNat (48 + n / 10), UInt8.ofNat (48 + n % 10)] := by
  rw [Lib.decDigits, dif_neg h, decDigits_one (by omega)]; rfl

theorem itoa_len {n : Int} (h0 : 0 ≤ n) (h : n ≤ 99) : 1 ≤ (Lib.itoa n).length ∧ (Lib.itoa n).length ≤ 2 := by
  unfold Lib.itoa
  rw [if_neg (by omega)]
  by_cases h1 : n.toNat < 10
  · rw [decDigits_one h1]; simp
  · rw [decDigits_two h1 (by omega)]; simp

theorem number_itoa {n : Int} (h0 : 0 ≤ n) (h : n ≤ 99) : number (Lib.itoa n) = some n := by
  have key : Lib.atoiAll (Lib.itoa n) = .ok n := by
    have e : Lib.itoa n = Lib.decDigits n.toNat := by unfold Lib.itoa; rw [if_neg (by omega)]
    rw [e]
    obtain ⟨m, rfl⟩ : ∃ m : Nat, n = m := ⟨n.toNat, by omega⟩
    simp only [Int.toNat_natCast]
    have hm : m < 100 := by omega
    by_cases h1 : m < 10
    · rw [decDigits_one h1]
      have : ∀ m : Fin 10, Lib.atoiAll [UInt8.ofNat (48 + m.val)] = .ok (m.val : Int) := by decide
      exact this ⟨m, h1⟩
    · rw [decDigits_two h1 hm]
      have : ∀ m : Fin 100, 10 ≤ m.val → Lib.atoiAll [UInt8.ofNat (48 + m.val / 10), UInt8.ofNat (48 + m.val % 10)] = .ok (m.val : Int) := by decide
      exact this ⟨m, hm⟩ (by show 10 ≤ m; omega)
  unfold number
  rw [key]
  simp

theorem of_number {l : List UInt8} {v : Int} (h : number l = some v) : Lib.itoa v = l := by
  unfold number at h
  split at h
  · split at h
    · cases h; assumption
    · cases h
  · cases h

end Qm
