/- Parts of the proof: walks and plain laws, side by side. -/
import Derived.Test.YtedbhlgjcnnknaaGreatDoorM5
import Derived.Test.YtedbhlgjcnnknaaGreatDoorM9
import Derived.Test.YtedbhlgjcnnknaaGreatDoorM24
import Derived.Test.YtedbhlgjcnnknaaGreatDoorM25
import Derived.Test.YtedbhlgjcnnknaaGreatDoorM2
import Derived.Test.YtedbhlgjcnnknaaGreatDoorM12
import Derived.Test.YtedbhlgjcnnknaaGreatDoorM16
import Derived.Test.YtedbhlgjcnnknaaGreatDoorM18
import Derived.Test.YtedbhlgjcnnknaaGreatDoorM15
import Derived.Test.YtedbhlgjcnnknaaGreatDoorM11
set_option linter.unusedVariables false
set_option linter.unusedSimpArgs false
set_option linter.unusedSectionVars false
/- What Resolve gives: the best set, or a proof that there is none. No program in sight. -/
namespace Go.Proofs.YtedbhlgjcnnknaaGreatDoor
open Go.RowKit Qm

def slvE (ps : List Pk) (v : Ws) (s : Int) : Int := solveErr (encN ps v : Int) (encC ps v) s
def slvM (ps : List Pk) (v : Ws) (s : Int) : List Bool := solveM (encN ps v : Int) (encC ps v) s
def slvP (ps : List Pk) (v : Ws) (s : Int) : List (List Int) := solveP (encN ps v : Int) (encC ps v) s
def resE (ps : List Pk) (v : Ws) (s : Int) : Int := if ckWish ps v ≠ 0 then ckWish ps v else if slvE ps v s ≠ 0 then slvE ps v s else if 0 < (slvP ps v s).length then 7 else 0
def resM (ps : List Pk) (v : Ws) (s : Int) : List Mem := if resE ps v s = 0 then setOfM (chW ps v) ps (slvM ps v s) else []
def resP (ps : List Pk) (v : Ws) (s : Int) : List (List Int) := if ckWish ps v ≠ 0 ∨ slvE ps v s ≠ 0 then [] else slvP ps v s
theorem encN_of {ps : List Pk} {v : Ws} (h : ckWish ps v = 0) : encN ps v = (encW ps v).vars ∧ encC ps v = (encW ps v).cls := by
  unfold encN encC; rw [if_pos h, if_pos h]; exact ⟨rfl, rfl⟩
theorem slv_steps {ps : List Pk} {v : Ws} (h : ckWish ps v = 0) : slvE ps v 40000 = 0 := by
  have E := encW_ok h
  have hp := pow_le E.many14
  have hcl : ∀ c ∈ (encW ps v).cls, Qm.IsCl (encW ps v).vars c := fun c hc => (E.cl c hc).1
  have hW := Qm.searchR_steps hcl E.many (by have := E.many14; omega) E.settles (manyC ps) ((encW ps v).vars + 1) 40000 [] [] (fun n hn => by cases hn) (fun v _ => Qm.openM_le) (by simp) (by simp) (by omega)
  unfold slvE
  rw [(encN_of h).1, (encN_of h).2]
  unfold solveErr
  rw [if_neg (by rw [enc_formula h]; simp), if_neg (by omega)]
  simp only [Int.toNat_natCast]
  have e4 : (40000 : Int).toNat = 40000 := rfl
  rw [e4, resOf_eq hcl]
  revert hW
  cases searchR (encW ps v).vars (encW ps v).cls ((encW ps v).vars + 1) 40000 [] [] with
  | out => intro h; exact h.elim
  | found m => intro _; rfl
  | no a b => intro _; rfl
theorem slv_tells {ps : List Pk} {v : Ws} {s : Int} (h : ckWish ps v = 0) (hs : slvE ps v s = 0) :
    (slvP ps v s = [] ∧ (slvM ps v s).length = encN ps v ∧ Best ps v (setOfM (chW ps v) ps (slvM ps v s))) ∨
    (0 < (slvP ps v s).length ∧ slvM ps v s = [] ∧ (slvP ps v s).length ≤ 40000 ∧ refOk (encN ps v : Int) (encC ps v) (slvP ps v s) = true ∧ badErr (encN ps v : Int) (encC ps v) (slvP ps v s) = 0 ∧ ¬ May ps v) := by
  have E := encW_ok h
  have W := wish_parts h
  unfold slvE at hs
  obtain ⟨N, hN, _, _, _, _, hT⟩ := solve_tells hs
  have hN : N = encN ps v := by omega
  subst hN
  rw [← (encN_of h).1, ← (encN_of h).2] at E
  rcases hT with ⟨h1, h2, h3, h4⟩ | ⟨h1, h2, h3, h4, h5, h6⟩
  · exact .inl ⟨h1, h2, best_of E W.ok h3 h4⟩
  · exact .inr ⟨h1, h2, h3, h4, h5, none_of E W.ok h6⟩
theorem res_all {ps : List Pk} {v : Ws} {s : Int} (h : ckWish ps v = 0) (hs : slvE ps v s = 0) :
    (resE ps v s = 0 ∧ Best ps v (resM ps v s) ∧ resP ps v s = []) ∨
    (resE ps v s = 7 ∧ ¬ May ps v ∧ resM ps v s = [] ∧ 0 < (resP ps v s).length ∧ (resP ps v s).length ≤ 40000 ∧ refOk (encN ps v : Int) (encC ps v) (resP ps v s) = true ∧ badErr (encN ps v : Int) (encC ps v) (resP ps v s) = 0) := by
  have hP : resP ps v s = slvP ps v s := by unfold resP; rw [if_neg (by rw [h, hs]; simp)]
  rcases slv_tells h hs with ⟨h1, h2, h3⟩ | ⟨h1, h2, h3, h4, h5, h6⟩
  · have e : resE ps v s = 0 := by unfold resE; rw [if_neg (by rw [h]; simp), if_neg (by rw [hs]; simp), if_neg (by rw [h1]; simp)]
    refine .inl ⟨e, ?_, by rw [hP, h1]⟩
    unfold resM; rw [if_pos e]; exact h3
  · have e : resE ps v s = 7 := by unfold resE; rw [if_neg (by rw [h]; simp), if_neg (by rw [hs]; simp), if_pos h1]
    refine .inr ⟨e, h6, ?_, by rw [hP]; exact h1, by rw [hP]; exact h3, by rw [hP]; exact h4, by rw [hP]; exact h5⟩
    unfold resM; rw [if_neg (by rw [e]; decide)]
theorem res_max {ps : List Pk} {v : Ws} (h : ckWish ps v = 0) :
    (resE ps v 40000 = 0 ∧ Best ps v (resM ps v 40000) ∧ resP ps v 40000 = []) ∨
    (resE ps v 40000 = 7 ∧ ¬ May ps v ∧ resM ps v 40000 = [] ∧ 0 < (resP ps v 40000).length ∧ (resP ps v 40000).length ≤ 40000 ∧ refOk (encN ps v : Int) (encC ps v) (resP ps v 40000) = true ∧ badErr (encN ps v : Int) (encC ps v) (resP ps v 40000) = 0) := res_all h (slv_steps h)
theorem res_may {ps : List Pk} {v : Ws} (h : ckWish ps v = 0) : resE ps v 40000 = 0 ↔ May ps v := by
  rcases res_max h with ⟨h1, h2, _⟩ | ⟨h1, h2, _⟩
  · exact ⟨fun _ => h2.may, fun _ => h1⟩
  · exact ⟨fun g => (by rw [g] at h1; cases h1), fun g => absurd g h2⟩
theorem res_none {ps : List Pk} {v : Ws} (h : ckWish ps v = 0) : resE ps v 40000 = 7 ↔ ¬ May ps v := by
  rcases res_max h with ⟨h1, h2, _⟩ | ⟨h1, h2, _⟩
  · exact ⟨fun g => (by rw [g] at h1; cases h1), fun g => absurd h2.may g⟩
  · exact ⟨fun _ => h2, fun _ => h1⟩
theorem res_bad {ps : List Pk} {v : Ws} {s : Int} (h : ckWish ps v ≠ 0) : resE ps v s = ckWish ps v ∧ resM ps v s = [] ∧ resP ps v s = [] := by
  have e : resE ps v s = ckWish ps v := by unfold resE; rw [if_pos h]
  refine ⟨e, ?_, ?_⟩
  · unfold resM; rw [if_neg (by rw [e]; exact h)]
  · unfold resP; rw [if_pos (.inl h)]
theorem res_set {ps : List Pk} {v : Ws} {l : List Mem} (h : ckWish ps v = 0) (hb : Best ps v l) : resE ps v 40000 = 0 ∧ resM ps v 40000 = l := by
  rcases res_max h with ⟨h1, h2, _⟩ | ⟨_, h2, _⟩
  · exact ⟨h1, h2.eq (wish_parts h).ok hb⟩
  · exact absurd hb.may h2
theorem res_setE {ps : List Pk} {v : Ws} {s : Int} (h : ckWish ps v = 0) (hs : slvE ps v s = 0) (hp : slvP ps v s = []) : setE ps v (slvM ps v s) = 0 ∧ setV ps v (slvM ps v s) = resM ps v s ∧ resE ps v s = 0 := by
  have E := encW_ok h
  have e : resE ps v s = 0 := by unfold resE; rw [if_neg (by rw [h]; simp), if_neg (by rw [hs]; simp), if_neg (by rw [hp]; simp)]
  rcases slv_tells h hs with ⟨_, h2, _⟩ | ⟨h1, _⟩
  · have h0 : setE ps v (slvM ps v s) = 0 := by
      unfold setE
      rw [if_neg (by rw [h]; simp), if_neg]
      rw [h2, (encN_of h).1]
      have := E.many; have := E.n400; omega
    exact ⟨h0, by unfold setV resM; rw [if_pos h0, if_pos e], e⟩
  · rw [hp] at h1; cases h1

/-! ### what would have to be unmasked -/
def qMay (ps : List Pk) (v : Ws) (ms : List Int) : Bool := decide (resE ps { v with ms := v.ms.filter fun k => ms.contains k } 40000 = 0)
theorem mem_only {a b : List Int} {k : Int} : (k ∈ a.filter fun k => b.contains k) ↔ k ∈ a ∧ k ∈ b := by rw [List.mem_filter, List.contains_iff_mem]
theorem May.masks {ps : List Pk} {v : Ws} {a b : List Int} (hab : ∀ k ∈ b, k ∈ a) (h : May ps { v with ms := a }) : May ps { v with ms := b } := by
  obtain ⟨l, h1, h2⟩ := h
  exact ⟨l, h1, validP_mono (fun _ h => h) hab h2⟩
theorem qMay_iff {ps : List Pk} {v : Ws} (h : ckWish ps v = 0) {ms : List Int} (hs : ∀ k ∈ ms, k ∈ v.ms) : qMay ps v ms = true ↔ May ps { v with ms := ms } := by
  unfold qMay
  rw [decide_eq_true_eq, res_may (wish_mask h List.filter_sublist)]
  exact ⟨fun g => g.masks fun k hk => mem_only.2 ⟨hs k hk, hk⟩, fun g => g.masks fun k hk => (mem_only.1 hk).2⟩
theorem qMay_res {ps : List Pk} {v : Ws} (h : ckWish ps v = 0) {ms : List Int} (hs : ms.Sublist v.ms) : qMay ps v ms = true ↔ resE ps { v with ms := ms } 40000 = 0 := by
  rw [qMay_iff h hs.subset, res_may (wish_mask h hs)]
theorem qMay_mono {ps : List Pk} {v : Ws} (h : ckWish ps v = 0) : ∀ a b : List Int, (∀ k ∈ b, k ∈ a) → qMay ps v a = true → qMay ps v b = true := by
  intro a b hab
  unfold qMay
  rw [decide_eq_true_eq, decide_eq_true_eq, res_may (wish_mask h List.filter_sublist), res_may (wish_mask h List.filter_sublist)]
  exact fun g => g.masks fun k hk => mem_only.2 ⟨(mem_only.1 hk).1, hab k (mem_only.1 hk).2⟩
def unmE (ps : List Pk) (v : Ws) : Int := if ckWish ps v ≠ 0 then ckWish ps v else resE ps { v with ms := [] } 40000
def unmL (ps : List Pk) (v : Ws) : List Int := if unmE ps v = 0 then (unmAll (qMay ps v) v.ms).2 else []
theorem unmE_zero {ps : List Pk} {v : Ws} (h : unmE ps v = 0) : ckWish ps v = 0 ∧ qMay ps v [] = true := by
  unfold unmE at h
  split at h
  · rename_i g; exact absurd h g
  · rename_i g
    have g : ckWish ps v = 0 := by simpa using g
    exact ⟨g, (qMay_res g (List.nil_sublist _)).2 h⟩
theorem unm_at {ps : List Pk} {v : Ws} (h : unmE ps v = 0) (j : Nat) : UnmOk (qMay ps v) (v.ms.take j) (unmAll (qMay ps v) (v.ms.take j)) := by
  obtain ⟨h1, h2⟩ := unmE_zero h
  exact unm_ok (qMay_mono h1) h2 v.ms j
theorem unm_step {ps : List Pk} {v : Ws} (h : unmE ps v = 0) {j : Nat} {k : Int} (hj : v.ms[j]? = some k) :
    ckWish ps { v with ms := (unmAll (qMay ps v) (v.ms.take j)).1 ++ [k] } = 0 ∧
    ((resE ps { v with ms := (unmAll (qMay ps v) (v.ms.take j)).1 ++ [k] } 40000 = 0 ∧ unmAll (qMay ps v) (v.ms.take (j + 1)) = ((unmAll (qMay ps v) (v.ms.take j)).1 ++ [k], (unmAll (qMay ps v) (v.ms.take j)).2)) ∨
     (resE ps { v with ms := (unmAll (qMay ps v) (v.ms.take j)).1 ++ [k] } 40000 = 7 ∧ unmAll (qMay ps v) (v.ms.take (j + 1)) = ((unmAll (qMay ps v) (v.ms.take j)).1, (unmAll (qMay ps v) (v.ms.take j)).2 ++ [k]))) := by
  obtain ⟨h1, _⟩ := unmE_zero h
  have U := unm_at h j
  have hsub : ((unmAll (qMay ps v) (v.ms.take j)).1 ++ [k]).Sublist v.ms := by
    have e : v.ms.take (j + 1) = v.ms.take j ++ [k] := by
      obtain ⟨hj', rfl⟩ := List.getElem?_eq_some_iff.1 hj
      rw [List.take_succ_eq_append_getElem hj']
    have := (U.s1.append (List.Sublist.refl [k]))
    rw [← e] at this
    exact this.trans (List.take_sublist _ _)
  have hw := wish_mask h1 hsub
  refine ⟨hw, ?_⟩
  rw [unmAll_take hj]
  unfold unmStep
  by_cases hq : qMay ps v ((unmAll (qMay ps v) (v.ms.take j)).1 ++ [k]) = true
  · rw [if_pos hq]
    exact .inl ⟨(qMay_res h1 hsub).1 hq, rfl⟩
  · rw [if_neg hq]
    refine .inr ⟨?_, rfl⟩
    rw [res_none hw, ← qMay_iff h1 hsub.subset]
    exact hq
end Go.Proofs.YtedbhlgjcnnknaaGreatDoor

namespace Qm
open Go

/-! The library's Cut and SplitN are cutAt and cut4. -/

theorem cut_one (c : UInt8) (l : W) : Lib.cut l [c] = match cutAt (· == c) l with | none => (l, [], false) | some (a, _, d) => (a, d, true) := by
 have hi := index_cut c l
 unfold Lib.cut
 cases h : cutAt (· == c) l with
 | none => rw [h] at hi; rw [hi]; rfl
 | some t =>
  obtain ⟨a, b, d⟩ := t
  obtain ⟨e, hb, ha⟩ := of_cutAt_some h
  rw [h] at hi
  simp only [] at hi
  rw [hi, if_pos (by omega)]
  have h1 : l.take ((a.length : Int).toNat) = a := by rw [e]; simp
  have h2 : l.drop ((a.length : Int).toNat + [c].length) = d := by rw [e]; simp [List.drop_append]
  rw [h1, h2]
theorem splitK_step (c : UInt8) (k : Nat) (l : W) : Lib.splitK [c] 0 (k + 1) l = match cutAt (· == c) l with | none => [l] | some (a, _, d) => a :: Lib.splitK [c] 0 k d := by
 have hi := index_cut c l
 rw [Lib.splitK]
 cases h : cutAt (· == c) l with
 | none => rw [h] at hi; rw [hi]; rfl
 | some t =>
  obtain ⟨a, b, d⟩ := t
  obtain ⟨e, hb, ha⟩ := of_cutAt_some h
  rw [h] at hi
  simp only [] at hi
  have h0 : ((a.length : Int) == -1) = false := by simp
  have h1 : l.take ((a.length : Int).toNat + 0) = a := by rw [e]; simp
  have h2 : l.drop ((a.length : Int).toNat + [c].length) = d := by rw [e]; simp [List.drop_append]
  rw [hi, h0, h1, h2]; rfl
theorem splitK_len (c : UInt8) : ∀ (k : Nat) (l : W), (Lib.splitK [c] 0 k l).length ≤ k + 1
 | 0, l => by simp [Lib.splitK]
 | k + 1, l => by
  rw [splitK_step]
  cases cutAt (· == c) l with
  | none => simp
  | some t =>
   obtain ⟨a, b, d⟩ := t
   have := splitK_len c k d
   simp only [List.length_cons]; omega
theorem splitN_some {l a b c d e : W} (h : cut4 l = some (a, b, c, d, e)) : Lib.splitK [32] 0 (min 5 (l.length + 1) - 1) l = [a, b, c, d, e] := by
 have hl : 4 ≤ l.length := by rw [cut4_back h]; simp; omega
 rw [show min 5 (l.length + 1) - 1 = 3 + 1 by omega]
 unfold cut4 at h
 split at h
 ·cases h
 ·rename_i a' x1 l1 h1
  split at h
  ·cases h
  ·rename_i b' x2 l2 h2
   split at h
   ·cases h
   ·rename_i c' x3 l3 h3
    split at h
    ·cases h
    ·rename_i d' x4 l4 h4
     simp only [Option.some.injEq, Prod.mk.injEq] at h
     obtain ⟨rfl, rfl, rfl, rfl, rfl⟩ := h
     rw [splitK_step, h1]
     simp only []
     rw [splitK_step, h2]
     simp only []
     rw [splitK_step, h3]
     simp only []
     rw [splitK_step, h4]
     rfl
theorem splitN_none {l : W} (h : cut4 l = none) : (Lib.splitK [32] 0 (min 5 (l.length + 1) - 1) l).length ≠ 5 := by
 by_cases hl : l.length < 4
 ·have := splitK_len 32 (min 5 (l.length + 1) - 1) l
  omega
 ·rw [show min 5 (l.length + 1) - 1 = 3 + 1 by omega, splitK_step]
  unfold cut4 at h
  cases h1 : cutAt (· == 32) l with
  | none => simp
  | some t1 =>
   obtain ⟨a, x1, l1⟩ := t1
   rw [h1] at h
   simp only [] at h ⊢
   rw [splitK_step]
   cases h2 : cutAt (· == 32) l1 with
   | none => simp
   | some t2 =>
    obtain ⟨b, x2, l2⟩ := t2
    rw [h2] at h
    simp only [] at h ⊢
    rw [splitK_step]
    cases h3 : cutAt (· == 32) l2 with
    | none => simp
    | some t3 =>
     obtain ⟨c, x3, l3⟩ := t3
     rw [h3] at h
     simp only [] at h ⊢
     rw [splitK_step]
     cases h4 : cutAt (· == 32) l3 with
     | none => simp
     | some t4 =>
      obtain ⟨d, x4, l4⟩ := t4
      rw [h4] at h
      cases h
end Qm

/- strings.Cut at a line's end, strings.SplitN into five. -/
namespace Go.Proofs.YtedbhlgjcnnknaaGreatDoor
open Go.RowKit Qm

theorem cut_some {l a d : Qm.W} {x : UInt8} (h : cutAt (· == 10) l = some (a, x, d)) (w : World) (hs : l.length < 4294967281) (hM : MaxW w) :
  Calls Tryz.prog 105 #[.string ⟨l.toArray⟩, .string ⟨#[10]⟩] w fun e w' => e = .returned (.tuple #[.string ⟨a.toArray⟩, .string ⟨d.toArray⟩, .bool true]) ∧ Below w.heap.size w w' := by
 obtain ⟨m, hm⟩ := hM
 have hc := cut_one 10 l
 rw [h] at hc
 refine (Tryz.strings_Cut ⟨l.toArray⟩ ⟨#[10]⟩ m w (by rw [bsz]; exact hs) hm).mono ?_
 rintro e w' ⟨he, n, rfl⟩
 have hc' : Lib.cut (⟨l.toArray⟩ : ByteArray).data.toList (⟨#[10]⟩ : ByteArray).data.toList = (a, d, true) := hc
 rw [hc'] at he
 exact ⟨he, below_drewN (Below.refl _ _) n⟩
theorem cut_none {l : Qm.W} (h : cutAt (· == 10) l = none) (w : World) (hs : l.length < 4294967281) (hM : MaxW w) :
  Calls Tryz.prog 105 #[.string ⟨l.toArray⟩, .string ⟨#[10]⟩] w fun e w' => e = .returned (.tuple #[.string ⟨l.toArray⟩, .string ⟨#[]⟩, .bool false]) ∧ Below w.heap.size w w' := by
 obtain ⟨m, hm⟩ := hM
 have hc := cut_one 10 l
 rw [h] at hc
 refine (Tryz.strings_Cut ⟨l.toArray⟩ ⟨#[10]⟩ m w (by rw [bsz]; exact hs) hm).mono ?_
 rintro e w' ⟨he, n, rfl⟩
 have hc' : Lib.cut (⟨l.toArray⟩ : ByteArray).data.toList (⟨#[10]⟩ : ByteArray).data.toList = (l, [], false) := hc
 rw [hc'] at he
 exact ⟨he, below_drewN (Below.refl _ _) n⟩

theorem splitN_bytes (l : Qm.W) (k : Nat) : (Lib.splitB ⟨#[32]⟩ 0 k ⟨l.toArray⟩).map (·.data.toList) = Lib.splitK [32] 0 k l := Lib.splitB_data ⟨#[32]⟩ 0 k ⟨l.toArray⟩
theorem splitN_five {l a b c d f : Qm.W} (h : cut4 l = some (a, b, c, d, f)) (w : World) (hs : l.length < 4294967281) (hM : MaxW w) :
  Calls Tryz.prog 106 #[.string ⟨l.toArray⟩, .string ⟨#[32]⟩, .int .i64 5] w fun e w' => e = .returned (.slice (some ⟨w.heap.size, 0, none⟩) 5 5) ∧ w' = w.alloc (.cells (strs [a, b, c, d, f]).toArray 9) := by
 obtain ⟨m, hm⟩ := hM
 have hp := splitN_some h
 have hl : 4 ≤ l.length := by rw [cut4_back h]; simp; omega
 have hb := splitN_bytes l (min 5 (l.length + 1) - 1)
 rw [hp] at hb
 refine (Tryz.strings_SplitN ⟨l.toArray⟩ ⟨#[32]⟩ 5 m w (by rw [bsz]; exact hs) hm (by decide) (by decide) (by decide)).mono ?_
 rw [bsz]
 rintro e w' ⟨he, hw⟩
 have hn : min 5 (l.length + 1) = 5 := by omega
 have hlen : (Lib.splitB ⟨#[32]⟩ 0 (min 5 (l.length + 1) - 1) ⟨l.toArray⟩).length = 5 := by rw [← List.length_map (f := (·.data.toList)), hb]; rfl
 rw [hlen, hn] at he
 refine ⟨he, ?_⟩
 rw [hw]
 unfold Lib.cellsOf
 rw [hlen, strs_of hb, hn]
 simp
theorem splitN_not {l : Qm.W} (h : cut4 l = none) (w : World) (hs : l.length < 4294967281) (hM : MaxW w) :
  Calls Tryz.prog 106 #[.string ⟨l.toArray⟩, .string ⟨#[32]⟩, .int .i64 5] w fun e w' => (∃ m cap : Nat, e = .returned (.slice (some ⟨w.heap.size, 0, none⟩) m cap) ∧ m ≠ 5 ∧ m ≤ 5) ∧ Below w.heap.size w w' := by
 obtain ⟨m, hm⟩ := hM
 have hp := splitN_none h
 have hb := splitN_bytes l (min 5 (l.length + 1) - 1)
 have hk := splitK_len 32 (min 5 (l.length + 1) - 1) l
 refine (Tryz.strings_SplitN ⟨l.toArray⟩ ⟨#[32]⟩ 5 m w (by rw [bsz]; exact hs) hm (by decide) (by decide) (by decide)).mono ?_
 rw [bsz]
 rintro e w' ⟨he, rfl⟩
 have hlen : (Lib.splitB ⟨#[32]⟩ 0 (min 5 (l.length + 1) - 1) ⟨l.toArray⟩).length = (Lib.splitK [32] 0 (min 5 (l.length + 1) - 1) l).length := by rw [← List.length_map (f := (·.data.toList)), hb]
 exact ⟨⟨_, _, he, by rw [hlen]; exact hp, by rw [hlen]; omega⟩, (Below.refl _ _).alloc (qr _) _⟩
end Go.Proofs.YtedbhlgjcnnknaaGreatDoor

/- What tree.Parse gathers: the box of the tree, from the next block on the packages. -/
namespace Go.Proofs.YtedbhlgjcnnknaaGreatDoor
open Go.RowKit Qm

theorem RPk.far {D : Nat → Prop} {w w' : World} {S : Nat → Prop} {x : List Value} {p : Pk} (h : RPk w S x p) (hf : Far D w w') (hS : ∀ k, S k → k < w.heap.size ∧ ¬ D k) : RPk w' S x p :=
 h.keep fun _ hp => hf.cell (hS _ hp).1 (hS _ hp).2
structure Td (w : World) (A : Option Addr) (c : Nat) (cs : List (List Value)) (ps : List Pk) (wx : World) : Prop where
 below : Below w.heap.size w wx
 t : Whole wx w.heap.size 24 [.slice A ps.length c]
 len : cs.length = ps.length
 own : wx.ownsRow (w.heap.size + 1) 101 14 (.slice A ps.length c) ps.length cs.flatten
 pk : ∀ (j : Nat) (x : List Value) (y : Pk), cs[j]? = some x → ps[j]? = some y → RPk wx (fun i => w.heap.size + 1 ≤ i ∧ i < wx.heap.size ∧ (Value.slice A ps.length c).ownBlock ≠ some i) x y
section
variable {w wx wy : World} {A : Option Addr} {c : Nat} {cs : List (List Value)} {ps : List Pk}
theorem Td.size (h : Td w A c cs ps wx) : w.heap.size + 1 ≤ wx.heap.size := h.t.lt
theorem Td.new (w : World) : Td w none 0 [] [] (w.alloc (.cells #[.slice none 0 0] 24)) :=
 ⟨(Below.refl _ w).alloc (qr _) _, Whole.new w _ _ [.slice none 0 0] rfl, rfl, World.ownsRow_nil _ _ _ _, fun j x y h _ => by simp at h⟩
theorem Td.move (h : Td w A c cs ps wx) (hb : Below wx.heap.size wx wy) : Td w A c cs ps wy where
 below := h.below.trans (hb.mono h.below.size)
 t := h.t.below hb h.t.lt
 len := h.len
 own := (Far.of_below (fun _ => False) hb).own h.own fun _ _ h => h
 pk := fun j x y h1 h2 => ((h.pk j x y h1 h2).far (Far.of_below (fun _ => False) hb) fun i hi => ⟨hi.2.1, fun h => h⟩).more fun i hi => ⟨hi.1, ql hi.2.1 hb.size, hi.2.2⟩
theorem Td.push (h : Td w A c cs ps wx) {x : List Value} {y : Pk} {A' : Option Addr} {c' : Nat}
  (hx : RPk wx (fun i => w.heap.size + 1 ≤ i ∧ i < wx.heap.size ∧ (Value.slice A ps.length c).ownBlock ≠ some i) x y)
  (hown : wy.ownsRow (w.heap.size + 1) 101 14 (.slice A' (ps.length + 1) c') (ps.length + 1) (cs.flatten ++ x)) (hg : wx.grownBy wy (Value.slice A ps.length c).ownBlock)
  (hv : (Value.slice A' (ps.length + 1) c').ownBlock = (Value.slice A ps.length c).ownBlock ∨ (Value.slice A' (ps.length + 1) c').ownBlock = some wx.heap.size) :
  Td w A' c' (cs ++ [x]) (ps ++ [y]) (wy.setCell ⟨w.heap.size, 0, none⟩ (.slice A' (ps.length + 1) c')) := by
 have hD : ∀ i, some i = (Value.slice A ps.length c).ownBlock → w.heap.size + 1 ≤ i := fun i hi => (h.own.lt i hi.symm).1
 have f1 : Far (fun i => w.heap.size + 1 ≤ i ∧ some i = (Value.slice A ps.length c).ownBlock) wx wy := Far.of_grown hg fun i hi => ⟨hD i hi, hi⟩
 have f2 : Far (fun i => i = w.heap.size) wy (wy.setCell ⟨w.heap.size, 0, none⟩ (.slice A' (ps.length + 1) c')) := Far.set_ (D := fun i => i = w.heap.size) rfl 0 _
 have hlen : (ps ++ [y]).length = ps.length + 1 := by simp
 have hsz := f1.size
 have hsz2 := h.size
 have kk : ∀ (j : Nat) (x : List Value) (y : Pk), cs[j]? = some x → ps[j]? = some y → RPk wy (fun i => w.heap.size + 1 ≤ i ∧ i < wx.heap.size ∧ (Value.slice A ps.length c).ownBlock ≠ some i) x y := fun j x y h1 h2 => (h.pk j x y h1 h2).far f1 fun i hi => ⟨hi.2.1, fun e => hi.2.2 e.2.symm⟩
 have kx := hx.far f1 fun i hi => ⟨hi.2.1, fun e => hi.2.2 e.2.symm⟩
 have fin : ∀ {x2 : List Value} {y2 : Pk}, RPk wy (fun i => w.heap.size + 1 ≤ i ∧ i < wx.heap.size ∧ (Value.slice A ps.length c).ownBlock ≠ some i) x2 y2 →
   RPk (wy.setCell ⟨w.heap.size, 0, none⟩ (.slice A' (ps.length + 1) c')) (fun i => w.heap.size + 1 ≤ i ∧ i < (wy.setCell ⟨w.heap.size, 0, none⟩ (.slice A' (ps.length + 1) c')).heap.size ∧ (Value.slice A' (ps ++ [y]).length c').ownBlock ≠ some i) x2 y2 := fun hh => by
  refine (hh.far f2 fun i hi => ⟨by omega, by omega⟩).more fun i hi => ⟨hi.1, by rw [set_len]; omega, ?_⟩
  rw [hlen]
  rcases hv with e | e
  ·rw [e]; exact hi.2.2
  ·rw [e]; intro e'; injection e' with e'; omega
 exact {
  below := ⟨f2.base.os.trans (f1.base.os.trans h.below.os), f2.base.tape.trans (f1.base.tape.trans h.below.tape), f2.base.output.trans (f1.base.output.trans h.below.output), Nat.le_trans h.below.size (Nat.le_trans f1.size f2.size),
   fun i hi => (f2.block i (by omega) (by omega)).trans ((f1.block i (by omega) (fun e => by omega)).trans (h.below.block i hi))⟩
  t := by rw [hlen]; exact (f1.whole h.t (fun e => by omega)).set_ 0 _
  len := by simp [h.len]
  own := by
   rw [hlen, flat_snoc]
   exact f2.own hown fun g hg => by have := (hown.lt g hg).1; omega
  pk := fun j x' y' h1 h2 => by
   have hl := h.len
   by_cases hj : j < cs.length
   ·rw [List.getElem?_append_left hj] at h1
    rw [List.getElem?_append_left (by omega)] at h2
    have := kk j x' y' h1 h2
    exact fin this
   ·have hj' : j = cs.length := by have := (List.getElem?_eq_some_iff.1 h1).1; simp at this; omega
    subst hj'
    rw [List.getElem?_append_right (qr _), Nat.sub_self] at h1
    rw [hl, List.getElem?_append_right (qr _), Nat.sub_self] at h2
    simp only [List.getElem?_cons_zero, Option.some.injEq] at h1 h2
    subst h1 h2
    exact fin kx }
theorem Td.cap (h : Td w A c cs ps wx) : ps.length ≤ c ∧ c ≤ maxLen := by
 obtain ⟨A', c', he, h1, h2, hr⟩ := own_formK h.own
 injection he with e1 _ e2
 subst e1 e2
 exact ⟨h1, h2⟩
theorem Td.tree (h : Td w A c cs ps wx) : RTree wx (fun i => w.heap.size + 1 ≤ i ∧ i < wx.heap.size) A ps.length ps := by
 obtain ⟨A', c', he, h1, h2, hr⟩ := own_formK h.own
 injection he with e1 _ e2
 subst e1 e2
 have hrd : ∀ (j : Nat) (x : List Value) (y : Pk), cs[j]? = some x → ps[j]? = some y → RPk wx (fun i => w.heap.size + 1 ≤ i ∧ i < wx.heap.size) x y := fun j x y h1 h2 => (h.pk j x y h1 h2).more fun i hi => by omega
 refine ⟨cs, rfl, h.len, hr.more fun i hi => by have := h.own.lt i hi; omega, fun x hx => ?_, hrd⟩
 obtain ⟨j, hj, rfl⟩ := List.mem_iff_getElem.1 hx
 exact (hrd j _ (ps[j]'(by rw [← h.len]; exact hj)) (List.getElem?_eq_getElem hj) (List.getElem?_eq_getElem _)).len
end
end Go.Proofs.YtedbhlgjcnnknaaGreatDoor

namespace Qm
open Go

/-! The reader of trees, line by line. -/

def prepT (ps : List Pk) : Except (Nat × Int) (List Pk) → Except (Nat × Int) (List Pk)
 | .error e => .error e
 | .ok qs => .ok (ps ++ qs)
theorem prepT_nil (r : Except (Nat × Int) (List Pk)) : prepT [] r = r := by cases r <;> rfl
theorem prepT_snoc (ps : List Pk) (p : Pk) (r : Except (Nat × Int) (List Pk)) : prepT ps (match r with | .error e => .error e | .ok qs => .ok (p :: qs)) = prepT (ps ++ [p]) r := by
 cases r <;> simp [prepT]
theorem lines_nil {f i : Nat} : parseLines f i [] = .ok [] := by
 cases f with
 | zero => rfl
 | succ f => unfold parseLines; rw [if_pos rfl]
theorem lines_cut {f i : Nat} {s : W} (h : s ≠ []) (hc : cutAt (· == 10) s = none) : parseLines (f + 1) i s = .error (i, 1) := by
 unfold parseLines
 rw [if_neg h, hc]
theorem lines_bad {f i : Nat} {s l rest : W} {x : UInt8} {e : Int} (h : s ≠ []) (hc : cutAt (· == 10) s = some (l, x, rest)) (hp : parseLine l = .error e) : parseLines (f + 1) i s = .error (i, e) := by
 unfold parseLines
 rw [if_neg h, hc]
 simp only []
 rw [hp]
theorem lines_good {f i : Nat} {s l rest : W} {x : UInt8} {p : Pk} (h : s ≠ []) (hc : cutAt (· == 10) s = some (l, x, rest)) (hp : parseLine l = .ok p) (ps : List Pk) :
  prepT ps (parseLines (f + 1) i s) = prepT (ps ++ [p]) (parseLines f (i + 1) rest) := by
 rw [← prepT_snoc, parseLines, if_neg h, hc]
 simp only []
 rw [hp]
 cases parseLines f (i + 1) rest <;> rfl
theorem parse_many {s : W} (h : 20000 < s.length) : parseTree s = ([], 0, 2) := by unfold parseTree; rw [if_pos h]
theorem parse_err {s : W} (h : ¬ 20000 < s.length) {i : Nat} {e : Int} (hl : parseLines (s.length + 1) 0 s = .error (i, e)) : parseTree s = ([], i, e) := by unfold parseTree; rw [if_neg h, hl]
theorem parse_ok {s : W} (h : ¬ 20000 < s.length) {ps : List Pk} (hl : parseLines (s.length + 1) 0 s = .ok ps) : parseTree s = if ckTree ps = 0 then (ps, 0, 0) else ([], 0, ckTree ps) := by unfold parseTree; rw [if_neg h, hl]
theorem line_cut {l : W} (h : cut4 l = none) : parseLine l = .error 1 := by unfold parseLine; rw [h]
theorem line_num {l a b c d e : W} (h : cut4 l = some (a, b, c, d, e)) (hn : number b = none ∨ number c = none) : parseLine l = .error 1 := by
 unfold parseLine
 rw [h]
 simp only []
 rcases hn with hn | hn
 ·rw [hn]
 ·rw [hn]; cases number b <;> rfl
theorem line_need {l a b c d e : W} (h : cut4 l = some (a, b, c, d, e)) {v k : Int} (hv : number b = some v) (hk : number c = some k) (hn : (parseNd e).2 ≠ 0) : parseLine l = .error (parseNd e).2 := by
 unfold parseLine
 rw [h]
 simp only []
 rw [hv, hk]
 simp only []
 by_cases h1 : (parseNd e).2 = 1
 ·rw [if_pos h1, h1]
 ·rw [if_neg h1, if_pos hn]
theorem line_good {l a b c d e : W} (h : cut4 l = some (a, b, c, d, e)) {v k : Int} (hv : number b = some v) (hk : number c = some k) (hn : (parseNd e).2 = 0) : parseLine l = .ok ⟨a, v, k, fsOf d, (parseNd e).1⟩ := by
 unfold parseLine
 rw [h]
 simp only []
 rw [hv, hk]
 simp only []
 rw [if_neg (by omega), if_neg (by omega)]
end Qm

/- tree.number, walked. -/
namespace Go.Proofs.YtedbhlgjcnnknaaGreatDoor
open Go.RowKit Qm
set_option maxHeartbeats 3200000 in
theorem tnumber_any (s : ByteArray) (w : World) (hs : s.size ≤ 140737488355328) (hL : LaidV w) :
  Calls Tryz.prog 107 #[.string s] w fun e w' => ∃ n, e = .returned (.tuple #[.int .i64 n, .bool (number s.data.toList).isSome]) ∧ (∀ v, number s.data.toList = some v → n = v) ∧ Below w.heap.size w w' := by
 obtain ⟨⟨tp, p, h1⟩, ⟨tp2, p2, h2⟩, h3⟩ := hL
 rcases h : Lib.atoiAll s.data.toList with v | _ | _
 ·skip
  have hat := Tryz.strconv_Atoi_ok s (by omega) v h w
  obtain ⟨hv0, hv1⟩ := Lib.atoiAll_bounds h
  go_enter Tryz.func107, Tryz.ntmps107
  go_wp2_with (first | (go_at_call 127; refine hat.mono ?_; rintro e w1 ⟨rfl, hw1⟩; refine Hid.out ?_))
  have hb1 : Hid (Below w.heap.size w w1) := qh (by
   rcases hw1 with rfl | ⟨t, rfl⟩
   ·exact Below.refl _ _
   ·exact Lib.bytesWorld_below _ _ _)
  clear hw1
  have hit := Tryz.strconv_Itoa v (by omega) (by omega) w1 (var_below h3 hb1.out)
  have Hit := qh hit
  clear hit
  have hcmp := bs_eq (Lib.itoa v) s
  have HV := qh (show number s.data.toList = if Lib.itoa v = s.data.toList then some v else none by unfold number; rw [h])
  clear h
  generalize Lib.itoa v = T at hcmp HV Hit
  by_cases e1 : T = s.data.toList
  ·rw [decide_eq_true e1] at hcmp
   have E1 := qh e1; clear e1
   refine qh ?_
   go_wp2_with (first | (go_at_call 100; refine Hit.out.mono ?_; rintro e w2 ⟨rfl, k, os, hw2⟩))
   go_ret2
   refine ⟨v, ?_, ?_, hb1.out.trans (by subst hw2; exact (Lib.below_grow _ _ (qr _) _ _).mono hb1.out.size)⟩
   ·rw [HV.out, if_pos E1.out]; rfl
   ·rw [HV.out, if_pos E1.out]; intro u hu; injection hu
  ·rw [decide_eq_false e1] at hcmp
   have E1 := qh e1; clear e1
   refine qh ?_
   go_wp2_with (first | (go_at_call 100; refine Hit.out.mono ?_; rintro e w2 ⟨rfl, k, os, hw2⟩))
   go_ret2
   refine ⟨v, ?_, ?_, hb1.out.trans (by subst hw2; exact (Lib.below_grow _ _ (qr _) _ _).mono hb1.out.size)⟩
   ·rw [HV.out, if_neg E1.out]; rfl
   ·rw [HV.out, if_neg E1.out]; intro u hu; cases hu
 ·have hat := Any.strconv_Atoi_syntax_var Tryz.laysC172 s (by omega) h tp p w h1
  go_enter Tryz.func107, Tryz.ntmps107
  go_wp2_with (first | (go_at_call 127; refine hat.mono ?_; rintro e w1 ⟨N, rfl, -, -, hb⟩))
  go_ret2
  have hn : number s.data.toList = none := by unfold number; rw [h]
  exact ⟨_, by rw [hn]; rfl, (by rw [hn]; intro v hv; cases hv), hb⟩
 ·have hat := Tryz.strconv_Atoi_range_var s (by omega) h tp2 p2 w h2
  go_enter Tryz.func107, Tryz.ntmps107
  go_wp2_with (first | (go_at_call 127; refine hat.mono ?_; rintro e w1 ⟨N, rfl, -, -, hb⟩))
  go_ret2
  have hn : number s.data.toList = none := by unfold number; rw [h]
  exact ⟨_, by rw [hn]; rfl, (by rw [hn]; intro v hv; cases hv), hb⟩
end Go.Proofs.YtedbhlgjcnnknaaGreatDoor
