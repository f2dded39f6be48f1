/-
  Needs in memory: ten cells that read as a need in plain words, its kids a slice of such.
-/
import Derived.Test.YtnkmonmkhmcgaaaGreatDoorBase
import Derived.Test.YtnkmonmkhmcgaaaGreatDoorNPlain3
namespace Go.Proofs.YtnkmonmkhmcgaaaGreatDoor
open Go.RowKit Qm

/-- The ten cells of a need. -/
def ndRow (k : Int) (a : At) (f : Qm.W) (no : Bool) (A : Option Addr) (n c : Nat) : List Value :=
  [.int .i64 k, .string ⟨a.nm.toArray⟩, .int .i64 a.op, .int .i64 a.ver, .int .i64 a.slot, .string ⟨a.fl.toArray⟩, .bool a.on, .string ⟨f.toArray⟩, .bool no, .slice A n c]

inductive RNd (w : World) (S : Nat → Prop) : List Value → Nd → Prop
  | mk (k : Int) (a : At) (f : Qm.W) (no : Bool) (A : Option Addr) (n c : Nat) (ks : List Nd) (cs : List (List Value))
    (hnc : n ≤ c) (hc : c ≤ maxLen) (h1 : a.nm.length ≤ maxLen) (h2 : a.fl.length ≤ maxLen) (h3 : f.length ≤ maxLen)
    (hk : ks.length = n) (hcs : cs.length = n) (hrow : Row w S A (n * 10) cs.flatten)
    (hr : ∀ (j : Nat) (x : List Value) (y : Nd), cs[j]? = some x → ks[j]? = some y → RNd w S x y) : RNd w S (ndRow k a f no A n c) (.mk k a f no ks)

theorem RNd.ten {w : World} {S : Nat → Prop} {x : List Value} {y : Nd} (h : RNd w S x y) : x.length = 10 := by cases h; rfl

/-- Kids in memory. -/
def RKids (w : World) (S : Nat → Prop) (A : Option Addr) (n : Nat) (ks : List Nd) : Prop :=
  ∃ cs : List (List Value), ks.length = n ∧ cs.length = n ∧ Row w S A (n * 10) cs.flatten ∧ ∀ (j : Nat) (x : List Value) (y : Nd), cs[j]? = some x → ks[j]? = some y → RNd w S x y

theorem RNd.open_ {w : World} {S : Nat → Prop} {x : List Value} {k : Int} {a : At} {f : Qm.W} {no : Bool} {ks : List Nd} (h : RNd w S x (.mk k a f no ks)) :
    ∃ A n c, x = ndRow k a f no A n c ∧ n ≤ c ∧ c ≤ maxLen ∧ a.nm.length ≤ maxLen ∧ a.fl.length ≤ maxLen ∧ f.length ≤ maxLen ∧ RKids w S A n ks := by
  cases h with
  | mk k a f no A n c ks cs hnc hc h1 h2 h3 hk hcs hrow hr => exact ⟨A, n, c, rfl, hnc, hc, h1, h2, h3, cs, hk, hcs, hrow, hr⟩
theorem RNd.shut {w : World} {S : Nat → Prop} {k : Int} {a : At} {f : Qm.W} {no : Bool} {ks : List Nd} {A : Option Addr} {n c : Nat}
    (hnc : n ≤ c) (hc : c ≤ maxLen) (h1 : a.nm.length ≤ maxLen) (h2 : a.fl.length ≤ maxLen) (h3 : f.length ≤ maxLen) (h : RKids w S A n ks) : RNd w S (ndRow k a f no A n c) (.mk k a f no ks) := by
  obtain ⟨cs, hk, hcs, hrow, hr⟩ := h
  exact .mk k a f no A n c ks cs hnc hc h1 h2 h3 hk hcs hrow hr

theorem RNd.keep {w w' : World} {S : Nat → Prop} (hw : ∀ p : Addr, S p.block → w'.cell? p = w.cell? p) {x : List Value} {y : Nd} (h : RNd w S x y) : RNd w' S x y := by
  induction h with
  | mk k a f no A n c ks cs hnc hc h1 h2 h3 hk hcs hrow hr ih => exact .mk k a f no A n c ks cs hnc hc h1 h2 h3 hk hcs (hrow.keep hw) ih
theorem RNd.more {w : World} {S S' : Nat → Prop} (hS : ∀ k, S k → S' k) {x : List Value} {y : Nd} (h : RNd w S x y) : RNd w S' x y := by
  induction h with
  | mk k a f no A n c ks cs hnc hc h1 h2 h3 hk hcs hrow hr ih => exact .mk k a f no A n c ks cs hnc hc h1 h2 h3 hk hcs (hrow.more hS) ih
theorem RNd.under {w w' : World} {S : Nat → Prop} {B : Nat} {x : List Value} {y : Nd} (h : RNd w S x y) (hb : Below B w w') (hS : ∀ k, S k → k < B) : RNd w' S x y := h.keep fun _ hp => hb.cell (hS _ hp)
theorem RKids.keep {w w' : World} {S : Nat → Prop} {A : Option Addr} {n : Nat} {ks : List Nd} (h : RKids w S A n ks) (hw : ∀ p : Addr, S p.block → w'.cell? p = w.cell? p) : RKids w' S A n ks := by
  obtain ⟨cs, hk, hcs, hrow, hr⟩ := h
  exact ⟨cs, hk, hcs, hrow.keep hw, fun j x y h1 h2 => (hr j x y h1 h2).keep hw⟩
theorem RKids.more {w : World} {S S' : Nat → Prop} (hS : ∀ k, S k → S' k) {A : Option Addr} {n : Nat} {ks : List Nd} (h : RKids w S A n ks) : RKids w S' A n ks := by
  obtain ⟨cs, hk, hcs, hrow, hr⟩ := h
  exact ⟨cs, hk, hcs, hrow.more hS, fun j x y h1 h2 => (hr j x y h1 h2).more hS⟩
theorem RKids.under {w w' : World} {S : Nat → Prop} {B : Nat} {A : Option Addr} {n : Nat} {ks : List Nd} (h : RKids w S A n ks) (hb : Below B w w') (hS : ∀ k, S k → k < B) : RKids w' S A n ks := h.keep fun _ hp => hb.cell (hS _ hp)
theorem RKids.len {w : World} {S : Nat → Prop} {A : Option Addr} {n : Nat} {ks : List Nd} (h : RKids w S A n ks) : ks.length = n := by obtain ⟨_, h, _⟩ := h; exact h
theorem RKids.nil_ {w : World} {S : Nat → Prop} {A : Option Addr} : RKids w S A 0 [] := ⟨[], rfl, rfl, by simpa using Row.nil_, fun j x y h _ => by simp at h⟩

theorem flat_at {cs : List (List Value)} (h : ∀ x ∈ cs, x.length = 10) : ∀ {j : Nat} {x : List Value}, cs[j]? = some x → ∀ i, i < 10 → cs.flatten[j * 10 + i]? = x[i]? := by
  induction cs with
  | nil => intro j x hj; simp at hj
  | cons c r ih =>
    intro j x hj i hi
    have hc := h c (List.mem_cons_self ..)
    rw [List.flatten_cons]
    cases j with
    | zero =>
      simp only [List.getElem?_cons_zero, Option.some.injEq] at hj
      subst hj
      rw [List.getElem?_append_left (by omega)]; congr 1; omega
    | succ j =>
      rw [List.getElem?_cons_succ] at hj
      rw [List.getElem?_append_right (by omega)]
      rw [← ih (fun y hy => h y (List.mem_cons_of_mem _ hy)) hj i hi]
      congr 1; omega

/-- The kid at a place. -/
theorem RKids.at_ {w : World} {S : Nat → Prop} {A : Option Addr} {n : Nat} {ks : List Nd} (h : RKids w S A n ks) {j : Nat} (hj : j < n) :
    ∃ b o x y, A = some ⟨b, o, none⟩ ∧ S b ∧ ks[j]? = some y ∧ RNd w S x y ∧ ∀ i, i < 10 → w.cell? ⟨b, o + j * 10 + i, none⟩ = x[i]? := by
  obtain ⟨cs, hk, hcs, hrow, hr⟩ := h
  obtain ⟨b, o, hA, hb, hc⟩ := hrow.2 (by omega)
  have e1 : cs[j]? = some (cs[j]'(by omega)) := List.getElem?_eq_getElem (by omega)
  have e2 : ks[j]? = some (ks[j]'(by omega)) := List.getElem?_eq_getElem (by omega)
  refine ⟨b, o, _, _, hA, hb, e2, hr j _ _ e1 e2, fun i hi => ?_⟩
  rw [Nat.add_assoc, hc (j * 10 + i) (by omega)]
  refine flat_at (fun x hx => ?_) e1 i hi
  obtain ⟨i', hi', e⟩ := List.mem_iff_getElem.1 hx
  exact (hr i' x (ks[i']'(by omega)) (by rw [← e]; exact List.getElem?_eq_getElem hi') (List.getElem?_eq_getElem (by omega))).ten
end Go.Proofs.YtnkmonmkhmcgaaaGreatDoor
