import Derived.Test.YtnkmonmkhmcgaaaGreatDoorNPlain2
import Derived.Lib.Split
import Derived.Lib.Join
import Derived.Lib.IndexBytes
namespace Qm
open Go

/-! The library's words for splitting and joining, and ours. -/

theorem index_cut (c : UInt8) : ∀ (l : List UInt8), Lib.index l [c] = match cutAt (· == c) l with | none => -1 | some (a, _, _) => (a.length : Int) := by
  intro l
  rw [Lib.index_one]
  induction l with
  | nil => rfl
  | cons b l ih =>
    unfold Lib.indexByte cutAt
    by_cases h : (b == c) = true
    · simp [h]
    · simp only [h, Bool.false_eq_true, if_false, ih]
      cases hr : cutAt (· == c) l with
      | none => simp
      | some t =>
        obtain ⟨a, d, e⟩ := t
        simp only [List.length_cons]
        have : ((a.length : Int) == -1) = false := by simp
        rw [this]; simp
theorem splitB_cut {c : UInt8} {l : W} : splitB c l = match cutAt (· == c) l with | none => [l] | some (a, _, d) => a :: splitB c d := by
  cases h : cutAt (· == c) l with
  | none =>
    have := of_cutAt_none h
    unfold splitB
    rw [splitGo_none fun x hx => by have := this x hx; simpa using this]; rfl
  | some t =>
    obtain ⟨a, b, d⟩ := t
    obtain ⟨e, hb, ha⟩ := of_cutAt_some h
    have hb' : b = c := by simpa using hb
    subst hb'
    unfold splitB
    rw [e, splitGo_some fun x hx => by have := ha x hx; simpa using this]; rfl
theorem splitK_eq (c : UInt8) : ∀ (k : Nat) (l : W), Lib.count l [c] ≤ k → Lib.splitK [c] 0 k l = splitB c l
  | k, l, hk => by
    rw [splitB_cut]
    have hi := index_cut c l
    cases h : cutAt (· == c) l with
    | none =>
      rw [h] at hi
      cases k with
      | zero => rfl
      | succ k => unfold Lib.splitK; rw [hi]; rfl
    | some t =>
      obtain ⟨a, b, d⟩ := t
      obtain ⟨e, hb, ha⟩ := of_cutAt_some h
      rw [h] at hi
      simp only [] at hi
      have hc := Lib.count_hit (by simp) hi
      have hd : l.drop (a.length + [c].length) = d := by rw [e]; simp [List.drop_append]
      rw [hd] at hc
      obtain ⟨k, rfl⟩ : ∃ j, k = j + 1 := ⟨k - 1, by omega⟩
      unfold Lib.splitK
      rw [hi]
      have h1 : ((a.length : Int) == -1) = false := by simp
      rw [h1]
      simp only [Bool.false_eq_true, if_false, Int.toNat_natCast, Nat.add_zero]
      rw [hd, splitK_eq c k d (by omega)]
      rw [e]; simp
theorem split_eq (c : UInt8) (l : W) : Lib.split l [c] = splitB c l := splitK_eq c _ l (Nat.le_refl _)
theorem splitB_bytes (c : UInt8) (s s' : ByteArray) : (Lib.splitB s' 0 (Lib.countB s s') s).map (·.data.toList) = splitB c s.data.toList ∨ s'.data.toList ≠ [c] := by
  by_cases h : s'.data.toList = [c]
  · left
    rw [Lib.splitB_data, h]
    have : Lib.countB s s' = Lib.count s.data.toList [c] := by unfold Lib.countB; rw [h]
    rw [this]; exact split_eq c _
  · exact .inr h
theorem join_eq (c : UInt8) : ∀ (ws : List W), Lib.join ws [c] = joinB c ws
  | [] => rfl
  | [w] => Lib.join_one w [c]
  | w :: v :: r => by
    have ih := join_eq c (v :: r)
    rw [Lib.join_cons] at ih ⊢
    rw [join_cons (by simp), ← ih]
    simp [Lib.joinTail]

/-! ### alike -/
mutual
def sameNd : Nd → Nd → Bool
  | .mk k a f no ks, m => decide (k = m.kind) && (decide (a = m.a) && (decide (f = m.fl) && (decide (no = m.no) && sameL ks m.kids)))
def sameL : List Nd → List Nd → Bool
  | [], ms => ms.isEmpty
  | n :: r, ms => match ms with
    | [] => false
    | m :: s => sameNd n m && sameL r s
end
theorem sameL_len : ∀ {ks ls : List Nd}, ks.length ≠ ls.length → sameL ks ls = false
  | [], [], h => absurd rfl h
  | [], _ :: _, _ => rfl
  | _ :: _, [], _ => rfl
  | _ :: r, _ :: s, h => by
    simp only [sameL]
    rw [sameL_len (ks := r) (ls := s) (by simpa using h), Bool.and_false]
theorem same_iff : ∀ n m, sameNd n m = true ↔ n = m := by
  refine Nd.ind fun k a f no ks ih => ?_
  intro m
  obtain ⟨k', a', f', no', ks'⟩ := m
  have hL : ∀ {l l' : List Nd}, (∀ x ∈ l, ∀ m, sameNd x m = true ↔ x = m) → (sameL l l' = true ↔ l = l') := by
    intro l
    induction l with
    | nil => intro l' _; cases l' <;> simp [sameL]
    | cons x r ihr =>
      intro l' h
      cases l' with
      | nil => simp [sameL]
      | cons y s =>
        simp only [sameL, Bool.and_eq_true, List.cons.injEq]
        rw [h x (List.mem_cons_self ..) y, ihr fun z hz => h z (List.mem_cons_of_mem _ hz)]
  show (decide (k = k') && (decide (a = a') && (decide (f = f') && (decide (no = no') && sameL ks ks')))) = true ↔ _
  rw [Bool.and_eq_true, Bool.and_eq_true, Bool.and_eq_true, Bool.and_eq_true, hL ih, Nd.mk.injEq, decide_eq_true_eq, decide_eq_true_eq, decide_eq_true_eq, decide_eq_true_eq]
end Qm
