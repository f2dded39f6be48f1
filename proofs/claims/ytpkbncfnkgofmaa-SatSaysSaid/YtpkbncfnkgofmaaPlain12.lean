/- Plain: what Solve tells: the least model, or a proof. -/
import Derived.Test.YtpkbncfnkgofmaaW33
import Derived.Test.YtpkbncfnkgofmaaPlain9
import Derived.Test.YtpkbncfnkgofmaaW16
namespace Go.Proofs.Ytpkbncfnkgofmaa
open Go.RowKit
theorem ckClause_of {N : Nat} {c : List Int} (h : Qm.IsCl N c) (hl : c.length ≤ 60) : ckClause c (N : Int) = 0 := by
  unfold ckClause
  rw [if_neg (by omega), if_neg]
  intro h2
  obtain ⟨x, hx, hb⟩ := List.any_eq_true.1 h2
  have h3 := h x hx
  have h4 := h3.1
  have h5 := h3.2
  rw [badLit_no (by omega)] at hb
  cases hb
theorem resOf_eq {N : Nat} {cs : List (List Int)} (hc : ∀ c ∈ cs, Qm.IsCl N c) (st : Nat) : resOf N cs st = Qm.searchR N cs (N + 1) st [] [] :=
  Qm.search_eq hc _ _ _ _ _ (fun n hn => by simp at hn) rfl
theorem solveErr_ok {vars : Int} {cs : List (List Int)} {steps : Int} (hE : solveErr vars cs steps = 0) : ∃ N st : Nat, vars = N ∧ steps = st ∧ N ≤ 400 ∧ st ≤ 40000 ∧ ckFormula vars cs = 0 ∧ cs.length ≤ 4000 ∧ (∀ c ∈ cs, Qm.IsCl N c ∧ c.length ≤ 60) ∧ resOf N cs st ≠ .out ∧
    solveM vars cs steps = (match resOf N cs st with | .found m => m | _ => []) ∧ solveP vars cs steps = (match resOf N cs st with | .no _ pf => pf | _ => []) := by
  unfold solveErr at hE
  split at hE
  · rename_i h; exact absurd hE h
  · rename_i h
    have hck : ckFormula vars cs = 0 := by simpa using h
    obtain ⟨N, rfl, hN, hcl, hcs⟩ := ckFormula_ok hck
    split at hE
    · omega
    · rename_i h2
      obtain ⟨st, rfl⟩ : ∃ st : Nat, steps = st := ⟨steps.toNat, by omega⟩
      simp only [Int.toNat_natCast] at hE
      refine ⟨N, st, rfl, rfl, hN, by omega, hck, hcl, hcs, ?_, ?_, ?_⟩
      · intro e; rw [e] at hE; simp at hE
      · unfold solveM; rw [if_neg (by rw [hck]; simpa using h2)]; simp only [Int.toNat_natCast]; cases resOf N cs st <;> rfl
      · unfold solveP; rw [if_neg (by rw [hck]; simpa using h2)]; simp only [Int.toNat_natCast]; cases resOf N cs st <;> rfl
def TellsAll (N : Nat) (vars : Int) (cs : List (List Int)) (M : List Bool) (P : List (List Int)) : Prop :=
  (P = [] ∧ M.length = N ∧ Qm.holdsF M cs = true ∧ ∀ m' : List Bool, m'.length = N → Qm.holdsF m' cs = true → Qm.LexLe M m') ∨
  (0 < P.length ∧ M = [] ∧ P.length ≤ 40000 ∧ refOk vars cs P = true ∧ badErr vars cs P = 0 ∧ ∀ m' : List Bool, m'.length = N → Qm.holdsF m' cs = true → False)
theorem solve_tells {vars : Int} {cs : List (List Int)} {steps : Int} (hE : solveErr vars cs steps = 0) : ∃ N : Nat, vars = N ∧ N ≤ 400 ∧ ckFormula vars cs = 0 ∧ cs.length ≤ 4000 ∧ (∀ c ∈ cs, Qm.IsCl N c ∧ c.length ≤ 60) ∧ TellsAll N vars cs (solveM vars cs steps) (solveP vars cs steps) := by
  obtain ⟨N, st, rfl, rfl, hN, hst, hck, hcl, hcs, hne, hM, hP⟩ := solveErr_ok hE
  have hc : ∀ c ∈ cs, Qm.IsCl N c := fun c h => (hcs c h).1
  refine ⟨N, rfl, hN, hck, hcl, hcs, ?_⟩
  rw [hM, hP]
  have ht := Qm.searchR_tells hc (N + 1) st [] [] (fun n hn => by simp at hn)
  have hp := Qm.searchR_proves hc (N + 1) st [] [] (fun n hn => by simp at hn) (fun k hk => by simp at hk) (fun c h => by simp at h)
  rw [← resOf_eq hc st] at ht hp
  cases hr : resOf N cs st with
  | out => exact absurd hr hne
  | found m =>
    rw [hr] at ht
    obtain ⟨h1, h2, _, h4⟩ := ht
    exact .inl ⟨rfl, h1, h2, fun m' a b => h4 m' a b (fun n hn => by simp at hn)⟩
  | no st' pf =>
    rw [hr] at ht hp
    obtain ⟨p1, p2, p3, p4, p5⟩ := hp
    have hlen : 0 < pf.length := by
      cases pf with
      | nil => simp at p5
      | cons a l => simp
    have hl4 : ¬ 40000 < pf.length := by
      simp only [List.length_nil] at p3
      omega
    have hbe : badErr (N : Int) cs pf = 0 := by
      unfold badErr
      rw [if_neg (by rw [hck]; simp)]
      unfold ckProof
      rw [if_neg (by omega), if_neg hl4]
      exact ckClauses_zero fun c h => ckClause_of (p4 c h).1 (p4 c h).2
    refine .inr ⟨hlen, rfl, (by show pf.length ≤ 40000; omega), ?_, hbe, fun m' a b => ht m' a b (fun n hn => by simp at hn)⟩
    rw [refOk_parts hbe]
    refine ⟨p1, hlen, ?_⟩
    rw [List.getLast?_eq_getElem?] at p5
    rw [List.getD_eq_getElem?_getD, p5]; rfl
end Go.Proofs.Ytpkbncfnkgofmaa
