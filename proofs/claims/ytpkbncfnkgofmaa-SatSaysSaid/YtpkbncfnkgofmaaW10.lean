/- Walks: rup.Bad, rup.Refutes. -/
import Derived.Test.YtpkbncfnkgofmaaW9
import Derived.Test.YtpkbncfnkgofmaaW7
import Derived.StillTailTactics
import Derived.BigQuiet
namespace Go.Proofs.Ytpkbncfnkgofmaa
open Go.RowKit
/-- the first clause that does not follow; -1: none -/
def badFrom (N : Nat) (cs : List (List Int)) (pf : List (List Int)) : Nat → Nat → Int
  | _, 0 => -1
  | k, g + 1 => if Qm.rupStep N (cs ++ pf.take k) (pf.getD k []) then badFrom N cs pf (k + 1) g else k
def badOf (N : Nat) (cs pf : List (List Int)) : Int := badFrom N cs pf 0 pf.length
def badErr (vars : Int) (cs pf : List (List Int)) : Int := if ckFormula vars cs ≠ 0 then ckFormula vars cs else ckProof pf vars
def badK (vars : Int) (cs pf : List (List Int)) : Int := if badErr vars cs pf ≠ 0 then 0 else badOf vars.toNat cs pf
def refOk (vars : Int) (cs pf : List (List Int)) : Bool := decide (badErr vars cs pf = 0) && decide (badK vars cs pf < 0) && decide (0 < pf.length) && decide ((pf.getD (pf.length - 1) []).length = 0)

theorem ck_lits {vars : Int} {cs : List (List Int)} (h : ckClauses cs vars = 0) : ∀ c ∈ cs, ckClause c vars = 0 := by
  intro c hc
  unfold ckClauses at h
  split at h
  · rename_i d hd
    have := List.find?_some hd
    simp at this; exact absurd h this
  · rename_i hn
    have := List.find?_eq_none.1 hn c hc
    simpa using this
theorem ckClause_lit {N : Nat} {c : List Int} (h : ckClause c (N : Int) = 0) : Qm.IsCl N c ∧ c.length ≤ 60 := by
  unfold ckClause at h
  split at h
  · omega
  · split at h
    · omega
    · rename_i h1 h2
      refine ⟨fun x hx => ?_, by omega⟩
      have h3 : badLit (N : Int) x = false := by
        cases hb : badLit (N : Int) x
        · rfl
        · exact absurd (List.any_eq_true.2 ⟨x, hx, hb⟩) h2
      have h4 : ¬ ((N : Int) < 0 ∨ x = 0 ∨ x < -(N : Int) ∨ (N : Int) < x) := by
        intro h5
        rw [badLit_yes h5] at h3; cases h3
      exact ⟨by omega, by omega⟩
theorem ckFormula_ok {vars : Int} {cs : List (List Int)} (h : ckFormula vars cs = 0) : ∃ N : Nat, vars = N ∧ N ≤ 400 ∧ cs.length ≤ 4000 ∧ ∀ c ∈ cs, Qm.IsCl N c ∧ c.length ≤ 60 := by
  unfold ckFormula at h
  split at h
  · omega
  · split at h
    · omega
    · obtain ⟨N, rfl⟩ : ∃ N : Nat, vars = N := ⟨vars.toNat, by omega⟩
      exact ⟨N, rfl, by omega, by omega, fun c hc => ckClause_lit (ck_lits h c hc)⟩
theorem ckProof_ok {N : Nat} {cs : List (List Int)} (h : ckProof cs (N : Int) = 0) : cs.length ≤ 40000 ∧ ∀ c ∈ cs, Qm.IsCl N c ∧ c.length ≤ 60 := by
  unfold ckProof at h
  split at h
  · omega
  · split at h
    · omega
    · exact ⟨by omega, fun c hc => ckClause_lit (ck_lits h c hc)⟩

def BadRel (N : Nat) (cs pf : List (List Int)) (A : Option Addr) (n cap : Nat) (w wr : World) (k g : Nat) : Prop :=
  Whole wr w.heap.size 29 [.int .i64 (N : Int), .slice A n cap] ∧ Below w.heap.size w wr ∧ badOf N cs pf = badFrom N cs pf k g

set_option maxHeartbeats 2000000 in
theorem bad_any (A A' : Option Addr) (n cap n' cap' : Nat) (vars : Int) (cs pf : List (List Int)) (w : World) (S : Nat → Prop) (hS : ∀ k, S k → k < w.heap.size)
    (hr : RClauses w S A n cs) (hr' : RClauses w S A' n' pf) (hn : n ≤ cap ∧ cap ≤ maxLen) (hn' : n' ≤ cap' ∧ cap' ≤ maxLen) (hv : -9223372036854775808 ≤ vars) (hv' : vars ≤ 9223372036854775807) :
    Calls Try.prog 14 #[.agg #[.int .i64 vars, .slice A n cap], .slice A' n' cap'] w fun e w' => e = .returned (.tuple #[.int .i64 (badK vars cs pf), .int .i64 (badErr vars cs pf)]) ∧ Below w.heap.size w w' := by
  have Hr := Lib.hid hr; have Hr' := Lib.hid hr'; have Hn := Lib.hid hn; have Hn' := Lib.hid hn'
  clear hr hr' hn hn'
  obtain ⟨w0, hw0⟩ : ∃ x, x = w.alloc (.cells #[.int .i64 vars, .slice A n cap] 29) := ⟨_, rfl⟩
  have hb0 : Below w.heap.size w w0 := by rw [hw0]; exact (Below.refl _ _).alloc (Nat.le_refl _) _
  have hck := checkFormula_any A n cap cs vars w0 S (Hr.out.below hb0 hS) (fun k hk => by have := hS k hk; have := hb0.size; omega) (Nat.le_trans Hn.out.1 Hn.out.2) hv hv'
  have hz0 : w0.heap.size = w.heap.size + 1 := by rw [hw0]; simp
  rw [hw0] at hck
  have Hck := Lib.hid hck; have Hb0 := Lib.hid hb0; have Hw0 := Lib.hid hw0; have Hz0 := Lib.hid hz0
  clear hck hb0 hw0 hz0
  go_enter Try.func14, Try.ntmps14
  go_wp2_with fail
  refine Hck.out.mono ?_
  rintro e w1 ⟨rfl, hb1⟩
  have hb1' : Below w0.heap.size w0 w1 := by rw [Hw0.out]; exact hb1
  clear hb1
  have hW1 : Whole w1 w.heap.size 29 [.int .i64 vars, .slice A n cap] := by
    have : Whole w0 w.heap.size 29 [.int .i64 vars, .slice A n cap] := by rw [Hw0.out]; exact Whole.new w _ _ _ rfl
    exact this.below hb1' (by have := Hz0.out; omega)
  have Hbw1 := Lib.hid (Hb0.out.trans (hb1'.mono (by have := Hz0.out; omega)))
  clear hb1'
  have hf0 := hW1.cell 0
  have hf1 := hW1.cell 1
  have HW1 := Lib.hid hW1; clear hW1
  simp only [List.getElem?_cons_zero, List.getElem?_cons_succ] at hf0 hf1
  generalize he1 : ckFormula vars cs = e1
  have He1 := Lib.hid he1; clear he1
  by_cases h1 : e1 = 0
  · subst h1
    have hck2 := checkProof_any A' n' cap' pf vars w1 S (Hr'.out.below Hbw1.out hS) (Nat.le_trans Hn'.out.1 Hn'.out.2) hv hv'
    generalize he2 : ckProof pf vars = e2 at hck2
    have He2 := Lib.hid he2; clear he2
    have Hck2 := Lib.hid hck2; clear hck2
    have HE : Hid (badErr vars cs pf = e2) := by show _ = _; unfold badErr; rw [if_neg (by rw [He1.out]; simp), He2.out]
    by_cases h2 : e2 = 0
    · subst h2
      obtain ⟨N, rfl, hN, hcl, hcs⟩ := ckFormula_ok He1.out
      obtain ⟨hpl, hps⟩ := ckProof_ok He2.out
      have Hcs := Lib.hid hcs; have Hps := Lib.hid hps
      clear hcs hps
      have hn2 : n' ≤ 40000 := by rw [← Hr'.out.len]; exact hpl
      have HK : Hid (badK (N : Int) cs pf = badOf N cs pf) := by show _ = _; unfold badK; rw [if_neg (by rw [HE.out]; simp)]; simp
      go_wp2_with fail
      refine Hck2.out.mono ?_
      rintro e w' ⟨rfl, rfl⟩
      go_wp2_with fail
      go_loopg [23] n' (fun g i wr => ∃ (k : Nat), Hid (k + g = n') ∧ i = .int .i64 k ∧ BadRel N cs pf A n cap w wr k g)
      case atStart => exact ⟨0, Nat.zero_add _, rfl, HW1.out, Hbw1.out, by rw [← Hr'.out.len]; rfl⟩
      case round =>
        obtain ⟨k, Hk, rfl, H1⟩ := hrel
        have hg0 := H1.1.cell 0
        have hg1 := H1.1.cell 1
        simp only [List.getElem?_cons_zero, List.getElem?_cons_succ] at hg0 hg1
        clear hf0 hf1
        by_cases hk : k < n'
        · obtain ⟨g, rfl⟩ : ∃ g, gk = g + 1 := ⟨gk - 1, by have := Hk.out; omega⟩
          obtain ⟨bp, op, A2, n2, c2, rfl, hbp, hcell, hc, hnc, hcm⟩ := (Hr'.out.below H1.2.1 hS).at_ hk
          have Hpl := Lib.hid Hr'.out.len
          have hmem := Hps.out _ (getD_mem (l := pf) (k := k) (d := []) (by rw [Hpl.out]; exact hk))
          have hcall := fun d => step_any N A (some ⟨bp, op, none⟩) A2 n cap k cap' n2 c2 cs (pf.take k) (pf.getD k []) (wr.drewN d) S hN (fun j hj => by have := hS j hj; have := H1.2.1.size; show j < wr.heap.size; omega)
            (Hr.out.below (below_drewN H1.2.1 d) hS) ((Hr'.out.below (below_drewN H1.2.1 d) hS).take (Nat.le_of_lt hk)) hc Hn.out ⟨by have := Hn'.out.1; omega, Hn'.out.2⟩ (by omega)
            (fun l hl c hc1 => by
              rcases List.mem_cons.1 hl with rfl | hl
              · exact (Hcs.out c hc1).1
              · rw [List.mem_singleton] at hl; subst hl; exact (Hps.out c (List.mem_of_mem_take hc1)).1) hmem.1
          have Hcall := Lib.hid hcall; clear hcall hc hmem
          have hnk : (k : Int) ≤ cap' := by have := Hn'.out.1; omega
          go_wp2_with fail
          go_still_tail 8, (by kernel_rfl)
          change wpList _ _ _ _ _ (wr.drewN 1)
          go_wp2_with fail
          refine (Hcall.out 1).mono ?_
          rintro e w5 ⟨rfl, hb5⟩
          have hb6 := (below_drewN H1.2.1 1).trans (hb5.mono (by have := H1.2.1.size; show _ ≤ wr.heap.size; omega))
          have hW6 : Whole w5 w.heap.size 29 [.int .i64 (N : Int), .slice A n cap] := (H1.1.drewN 1).below hb5 (by show _ < wr.heap.size; exact H1.1.lt)
          have hfr := H1.2.2
          unfold badFrom at hfr
          have Hb6 := Lib.hid hb6; have HW6 := Lib.hid hW6
          clear hb5 hb6 hW6
          cases hst : Qm.rupStep N (cs ++ pf.take k) (pf.getD k [])
          · rw [hst] at hfr
            have Hfr := Lib.hid hfr; clear hfr
            have Hst := Lib.hid hst; clear hst
            go_wp2_with fail
            go_ret2
            exact ⟨ret2_ii (by rw [HK.out, Hfr.out]; rfl) HE.out.symm, Hb6.out⟩
          · rw [hst, if_pos rfl] at hfr
            have Hfr := Lib.hid hfr; clear hfr
            have Hst := Lib.hid hst; clear hst
            go_wp2_with fail
            go_roundg g
            case measure => omega
            case rel => exact ⟨k + 1, by have := Hk.out; show _ = _; omega, by go_num, HW6.out, Hb6.out, Hfr.out⟩
        · go_wp2_with fail
          go_ret2
          obtain rfl : gk = 0 := by have := Hk.out; omega
          exact ⟨ret2_ii (HK.out.trans H1.2.2).symm HE.out.symm, H1.2.1⟩
    · have h2' : (e2 != 0) = true := by simpa using h2
      have HK : Hid (badK vars cs pf = 0) := by show _ = _; unfold badK; rw [if_pos (by rw [HE.out]; exact h2)]
      clear h2
      go_wp2_with fail
      refine Hck2.out.mono ?_
      rintro e w' ⟨rfl, rfl⟩
      go_wp2_with fail
      go_ret2
      exact ⟨ret2_ii HK.out.symm HE.out.symm, Hbw1.out⟩
  · have h1' : (e1 != 0) = true := by simpa using h1
    have HE : Hid (badErr vars cs pf = e1) := by show _ = _; unfold badErr; rw [if_pos (by rw [He1.out]; exact h1), He1.out]
    have HK : Hid (badK vars cs pf = 0) := by show _ = _; unfold badK; rw [if_pos (by rw [HE.out]; exact h1)]
    clear h1
    go_wp2_with fail
    go_ret2
    exact ⟨ret2_ii HK.out.symm HE.out.symm, Hbw1.out⟩
end Go.Proofs.Ytpkbncfnkgofmaa
