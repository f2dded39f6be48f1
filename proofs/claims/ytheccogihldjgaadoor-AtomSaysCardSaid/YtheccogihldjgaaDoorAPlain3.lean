/- Names, cut and told by membership: plain. -/
import Derived.Test.YtheccogihldjgaaDoorAPlain2
import Derived.Lib.SlTrimSet
namespace Qm
open Go

def letters : List UInt8 := [97, 98, 99, 100, 101, 102, 103, 104, 105, 106, 107, 108, 109, 110, 111, 112, 113, 114, 115, 116, 117, 118, 119, 120, 121, 122]
def alnum : List UInt8 := [97, 98, 99, 100, 101, 102, 103, 104, 105, 106, 107, 108, 109, 110, 111, 112, 113, 114, 115, 116, 117, 118, 119, 120, 121, 122, 48, 49, 50, 51, 52, 53, 54, 55, 56, 57]

theorem byte_all {p : UInt8 → Prop} (h : ∀ n : Fin 256, p (UInt8.ofNat n.val)) (c : UInt8) : p c := by
  have h1 := h ⟨c.toNat, c.toNat_lt⟩
  simpa using h1
theorem letters_low (c : UInt8) : decide (0 ≤ Lib.indexByte letters c) = lowB c :=
  byte_all (p := fun c => decide (0 ≤ Lib.indexByte letters c) = lowB c) (by decide +kernel) c
theorem alnum_mem (c : UInt8) : alnum.contains c = (lowB c || digB c) :=
  byte_all (p := fun c => alnum.contains c = (lowB c || digB c)) (by decide +kernel) c

theorem mem_dropWhile {α : Type} {p : α → Bool} {x : α} (hx : p x = false) : ∀ {l : List α}, x ∈ l → x ∈ l.dropWhile p
  | [], h => by cases h
  | y :: r, h => by
    rw [List.dropWhile_cons]
    by_cases hy : p y = true
    · rw [if_pos hy]
      rcases List.mem_cons.1 h with rfl | h
      · rw [hx] at hy; cases hy
      · exact mem_dropWhile hx h
    · rw [if_neg hy]; exact h
theorem dropWhile_all {α : Type} {p : α → Bool} : ∀ {l : List α}, (∀ x ∈ l, p x = true) → l.dropWhile p = []
  | [], _ => rfl
  | y :: r, h => by
    rw [List.dropWhile_cons, if_pos (h y (List.mem_cons_self ..))]
    exact dropWhile_all fun x hx => h x (List.mem_cons_of_mem _ hx)
theorem trim_all {l cs : List UInt8} (h : ∀ x ∈ l, cs.contains x = true) : Lib.trimS l cs = [] := by
  unfold Lib.trimS Lib.trimRightS
  rw [dropWhile_all fun x hx => h x (List.mem_reverse.1 hx)]
  rfl
theorem trim_some {l cs : List UInt8} {x : UInt8} (hx : x ∈ l) (h : cs.contains x = false) : Lib.trimS l cs ≠ [] := by
  intro e
  have h1 : x ∈ Lib.trimRightS l cs := List.mem_reverse.2 (mem_dropWhile h (List.mem_reverse.2 hx))
  have h2 : x ∈ Lib.trimS l cs := mem_dropWhile h h1
  rw [e] at h2
  cases h2

theorem okFrom_iff : ∀ {i : Nat} {l : List UInt8}, 0 < i → (okFrom i l = true ↔ ∀ x ∈ l, alnum.contains x = true)
  | _, [], _ => by simp [okFrom]
  | i, c :: r, h => by
    have ih := okFrom_iff (i := i + 1) (l := r) (by omega)
    simp only [okFrom, okAt, Bool.and_eq_true, ih, List.forall_mem_cons]
    have : (lowB c || decide (0 < i) && digB c) = alnum.contains c := by
      rw [alnum_mem, decide_eq_true h, Bool.true_and]
    rw [this]

/-- The other telling of a name. -/
theorem isName_told {c : UInt8} {r : List UInt8} (h : (c :: r).length ≤ 8) : isName (c :: r) = (lowB c && (Lib.trimS (c :: r) alnum).isEmpty) := by
  unfold isName
  rw [decide_eq_true (by simp at h ⊢; omega), Bool.true_and]
  have e : okFrom 0 (c :: r) = (lowB c && okFrom 1 r) := by simp [okFrom, okAt]
  rw [e]
  cases hc : lowB c
  · rfl
  · rw [Bool.true_and, Bool.true_and]
    by_cases hr : okFrom 1 r = true
    · rw [hr]
      have h1 := (okFrom_iff (by decide)).1 hr
      rw [trim_all]
      · rfl
      · intro x hx
        rcases List.mem_cons.1 hx with rfl | hx
        · rw [alnum_mem, hc]; rfl
        · exact h1 x hx
    · have h1 : ¬ ∀ x ∈ r, alnum.contains x = true := fun h => hr ((okFrom_iff (by decide)).2 h)
      have h2 : okFrom 1 r = false := by simpa using hr
      rw [h2]
      obtain ⟨x, hx, hn⟩ : ∃ x, x ∈ r ∧ alnum.contains x = false := by
        apply Classical.byContradiction
        intro hno
        exact h1 fun x hx => by
          cases hh : alnum.contains x
          · exact absurd ⟨x, hx, hh⟩ hno
          · rfl
      have := trim_some (List.mem_cons_of_mem c hx) hn
      cases e : Lib.trimS (c :: r) alnum
      · exact absurd e this
      · rfl
end Qm
