/- The walk of SatSays. -/
import Derived.Test.YtpkbncfnkgofmaaW36
import Derived.Test.YtpkbncfnkgofmaaW37
import Derived.Test.YtpkbncfnkgofmaaPlain12
namespace Go.Proofs.Ytpkbncfnkgofmaa
open Go.RowKit
set_option maxHeartbeats 8000000 in
theorem satSays_any (A : Option Addr) (n cap : Nat) (vars steps : Int) (cs : List (List Int)) (w : World) (S : Nat → Prop) (hS : ∀ k, S k → k < w.heap.size)
    (hr : RClauses w S A n cs) (hn : n ≤ cap ∧ cap ≤ maxLen) (hv : -9223372036854775808 ≤ vars) (hv' : vars ≤ 9223372036854775807) (hs : -9223372036854775808 ≤ steps) (hs' : steps ≤ 9223372036854775807) :
    Calls Try.prog 9 #[.agg #[.int .i64 vars, .slice A n cap], .int .i64 steps] w fun e w' => e = .returned (.bool true) ∧ Below w.heap.size w w' := by
  have Hr := Lib.hid hr; have Hn := Lib.hid hn
  clear hr hn
  go_enter Try.func9, Try.ntmps9
  go_wp2_with fail
  have hb0 : Below w.heap.size w (w.alloc (.cells #[.int .i64 vars, .slice A n cap] 29)) := (Below.refl _ _).alloc (Nat.le_refl _) _
  refine (solve_any A n cap vars steps cs _ S (fun k hk => by have := hS k hk; simp; omega) (Hr.out.below hb0 hS) Hn.out hv hv' hs hs').mono ?_
  rintro e w1 ⟨AM, nM, cM, AP, nP, cP, he, hrM, hM, hrP, hP, hb1⟩
  subst he
  generalize hEv : solveErr vars cs steps = Ev
  generalize hLM : solveM vars cs steps = LM at hrM
  generalize hLP : solveP vars cs steps = LP at hrP
  have HEv := Lib.hid hEv; have HLM := Lib.hid hLM; have HLP := Lib.hid hLP; clear hEv hLM hLP
  have Hb1 := Lib.hid (hb0.trans (hb1.mono hb0.size))
  have hF1 : Whole w1 w.heap.size 29 [.int .i64 vars, .slice A n cap] := Whole.below (Whole.new w _ _ _ rfl) hb1 (by simp)
  have HF1 := Lib.hid hF1
  have HrM := Lib.hid hrM; have HrP := Lib.hid hrP; have HcM := Lib.hid hM; have HcP := Lib.hid hP
  have hwlt : w.heap.size < w1.heap.size := hF1.lt
  have hf0 := hF1.cell 0
  have hf1 := hF1.cell 1
  simp only [List.getElem?_cons_zero, List.getElem?_cons_succ] at hf0 hf1
  clear hb0 hb1 hF1 hrM hrP hM hP
  go_wp2_with fail
  have hbx : Below w1.heap.size w1 (w1.alloc (.cells #[.slice AM nM cM, .slice AP nP cP] 57)) := (Below.refl _ _).alloc (Nat.le_refl _) _
  refine (rcheckFormula_any A n cap cs vars _ S ((Hr.out.below Hb1.out hS).below hbx (fun k hk => by have := hS k hk; omega)) (fun k hk => by have := hS k hk; simp; omega) (Nat.le_trans Hn.out.1 Hn.out.2) hv hv').mono ?_
  rintro e w2 ⟨rfl, hb2⟩
  have hb12 : Below w1.heap.size w1 w2 := hbx.trans (hb2.mono hbx.size)
  have hA2 : Whole w2 w1.heap.size 57 [.slice AM nM cM, .slice AP nP cP] := Whole.below (Whole.new w1 _ _ _ rfl) hb2 (by simp)
  have HA2 := Lib.hid hA2
  have HF2 := Lib.hid (HF1.out.below hb12 HF1.out.lt)
  have Hb2 := Lib.hid (Hb1.out.trans (hb12.mono Hb1.out.size))
  have HrM2 : Hid (RBools w2 (fun k => w.heap.size + 1 ≤ k ∧ k < w2.heap.size) AM nM LM) := ((HrM.out).below hb12 (fun k hk => hk.2)).more (fun k hk => ⟨by have := hk.1; simp at this; omega, by have := hk.2; have := hb12.size; omega⟩)
  have HrP2 : Hid (RClauses w2 (fun k => w.heap.size + 1 ≤ k ∧ k < w2.heap.size) AP nP LP) := ((HrP.out).below hb12 (fun k hk => hk.2)).more (fun k hk => ⟨by have := hk.1; simp at this; omega, by have := hk.2; have := hb12.size; omega⟩)
  have hw12 : w1.heap.size < w2.heap.size := hA2.lt
  clear hbx hb2 hb12 hA2 hf0 hf1
  generalize hck : ckFormula vars cs = E
  have Hck := Lib.hid hck; clear hck
  by_cases hE0 : E = 0
  · subst hE0
    by_cases hst : steps < 1 ∨ 40000 < steps
    · have hEv3 : Ev = 3 := by rw [← HEv.out]; unfold solveErr; rw [if_neg (by rw [Hck.out]; simp), if_pos hst]
      have HM0 : Hid (LM = []) := by show _ = _; rw [← HLM.out]; unfold solveM; rw [if_pos (.inr hst)]
      have HP0 : Hid (LP = []) := by show _ = _; rw [← HLP.out]; unfold solveP; rw [if_pos (.inr hst)]
      have hc : decide (steps < 1) = true ∨ (decide (steps < 1) = false ∧ decide (40000 < steps) = true) := by
        by_cases h : steps < 1
        · exact .inl (by simpa using h)
        · exact .inr ⟨by simpa using h, by simp; omega⟩
      clear hst
      subst hEv3
      obtain ⟨Ev, hEvv⟩ : ∃ x : Int, x = 3 := ⟨_, rfl⟩
      have HEvv := Lib.hid hEvv; clear hEvv
      rcases hc with h | ⟨h, h'⟩
      all_goals
        go_wp2_with fail
        have HW : Hid (Whole (w2.alloc (.cells #[.slice none 0 0, .slice none 0 0] 57)) w2.heap.size 57 [.slice none 0 0, .slice none 0 0]) := Whole.new w2 _ _ _ rfl
        have HA := Lib.hid (HA2.out.alloc (.cells #[.slice none 0 0, .slice none 0 0] 57))
        have hbw : Below w2.heap.size w2 (w2.alloc (.cells #[.slice none 0 0, .slice none 0 0] 57)) := (Below.refl _ _).alloc (Nat.le_refl _) _
        have Hbt := Lib.hid (Hb2.out.trans (hbw.mono Hb2.out.size))
        generalize w2.alloc (.cells #[.slice none 0 0, .slice none 0 0] 57) = wt at *
        have hrM0 := HrM2.out.below hbw (fun k hk => hk.2)
        have hrP0 := HrP2.out.below hbw (fun k hk => hk.2)
        have hs2t : w2.heap.size ≤ wt.heap.size := hbw.size
        obtain ⟨BM, hBM⟩ : ∃ x : Option Addr, x = none := ⟨_, rfl⟩
        obtain ⟨M, hM0⟩ : ∃ x : List Bool, x = [] := ⟨_, rfl⟩
        obtain ⟨PP, hP0⟩ : ∃ x : List (List Int), x = [] := ⟨_, rfl⟩
        have HrMt : Hid (RBools wt (fun k => k < wt.heap.size) AM nM M) := by rw [hM0, ← HM0.out]; exact hrM0.more (fun k hk => by omega)
        have HrPt : Hid (RClauses wt (fun k => k < wt.heap.size) AP nP PP) := by rw [hP0, ← HP0.out]; exact hrP0.more (fun k hk => by omega)
        obtain ⟨BP, hBP⟩ : ∃ x : Option Addr, x = none := ⟨_, rfl⟩
        obtain ⟨mM, hmM⟩ : ∃ x : Nat, x = 0 := ⟨_, rfl⟩
        obtain ⟨dM, hdM⟩ : ∃ x : Nat, x = 0 := ⟨_, rfl⟩
        obtain ⟨mP, hmP⟩ : ∃ x : Nat, x = 0 := ⟨_, rfl⟩
        obtain ⟨dP, hdP⟩ : ∃ x : Nat, x = 0 := ⟨_, rfl⟩
        have HsMt : Hid (RBools wt (fun k => k < wt.heap.size) BM mM M) := by rw [hM0, hmM]; exact Row.nil_
        have HsPt : Hid (RClauses wt (fun k => k < wt.heap.size) BP mP PP) := by rw [hP0, hmP]; exact RClauses.nil_
        have HW : Hid (Whole wt w2.heap.size 57 [.slice BM mM dM, .slice BP mP dP]) := by rw [hBM, hmM, hdM, hBP, hmP, hdP]; exact HW.out
        have HdM : Hid (mM ≤ dM ∧ dM ≤ maxLen) := by rw [hmM, hdM]; exact ⟨Nat.le_refl _, Nat.zero_le _⟩
        have HdP : Hid (mP ≤ dP ∧ dP ≤ maxLen) := by rw [hmP, hdP]; exact ⟨Nat.le_refl _, Nat.zero_le _⟩
        clear hbw hrM0 hrP0 hM0 hP0 hBM hBP hmM hdM hmP hdP
        refine (solved_any _).mono ?_
        rintro e wu ⟨rfl, hbu⟩
        have hAu := HA.out.below hbu HA.out.lt
        have hWu := HW.out.below hbu HW.out.lt
        have hau0 := hAu.cell 0
        have hau1 := hAu.cell 1
        have hwu0 := hWu.cell 0
        have hwu1 := hWu.cell 1
        simp only [List.getElem?_cons_zero, List.getElem?_cons_succ] at hau0 hau1 hwu0 hwu1
        have HrMu := Lib.hid (HrMt.out.below hbu (fun k hk => hk)); have HsMu := Lib.hid (HsMt.out.below hbu (fun k hk => hk))
        have HrPu := Lib.hid (HrPt.out.below hbu (fun k hk => hk)); have HsPu := Lib.hid (HsPt.out.below hbu (fun k hk => hk))
        have Hbu := Lib.hid (Hbt.out.trans (hbu.mono Hbt.out.size))
        have hEE : (Ev == Ev) = true := by simp
        clear hbu hAu hWu
        go_wp2_with fail
        refine (equal_bool AM BM nM mM cM dM M M wu _ HrMu.out HsMu.out (Nat.le_trans HcM.out.1 HcM.out.2) (Nat.le_trans HdM.out.1 HdM.out.2)).mono ?_
        rintro e wy ⟨he, q, rfl⟩
        obtain rfl : e = .returned (.bool true) := he.trans (by rw [beq_self_eq_true])
        go_wp2_with fail
        refine (sameClauses_any AP BP nP mP cP dP PP PP (wu.drewN q) _ (HrPu.out.keep (fun _ _ => rfl)) (HsPu.out.keep (fun _ _ => rfl)) (Nat.le_trans HcP.out.1 HcP.out.2) (Nat.le_trans HdP.out.1 HdP.out.2)).mono ?_
        rintro e wy ⟨he, q2, rfl⟩
        obtain rfl : e = .returned (.bool true) := he.trans (by rw [beq_self_eq_true])
        go_wp2_with fail
        go_ret
        exact ⟨rfl, below_drewN Hbu.out _⟩
    · obtain ⟨N, rfl, hN, hcl, hcs⟩ := ckFormula_ok Hck.out
      obtain ⟨st, rfl⟩ : ∃ st : Nat, steps = st := ⟨steps.toNat, by omega⟩
      have hst0 : 1 ≤ st ∧ st ≤ 40000 := by omega
      have hd1 : decide ((st : Int) < 1) = false := by simp; omega
      have hd2 : decide ((40000 : Int) < (st : Int)) = false := by simp; omega
      have hcc : ∀ c ∈ cs, Qm.IsCl N c := fun c hc => (hcs c hc).1
      have Hcc := Lib.hid hcc
      have hEq : resR N cs st = resOf N cs st := (resOf_eq hcc st).symm
      have HE1 : Hid (Ev = errOf (resR N cs st)) := by
        show _ = _
        rw [← HEv.out, hEq]; unfold solveErr; rw [if_neg (by rw [Hck.out]; simp), if_neg hst]; simp only [Int.toNat_natCast]; cases resOf N cs st <;> rfl
      have HM1 : Hid (LM = mOf (resR N cs st)) := by
        show _ = _
        rw [← HLM.out, hEq]; unfold solveM; rw [if_neg (by rw [Hck.out]; simpa using hst)]; simp only [Int.toNat_natCast]; cases resOf N cs st <;> rfl
      have HP1 : Hid (LP = pOf (resR N cs st)) := by
        show _ = _
        rw [← HLP.out, hEq]; unfold solveP; rw [if_neg (by rw [Hck.out]; simpa using hst)]; simp only [Int.toNat_natCast]; cases resOf N cs st <;> rfl
      have hf0 := HF2.out.cell 0
      have hf1 := HF2.out.cell 1
      have hwl2 : w.heap.size < w2.heap.size := HF2.out.lt
      simp only [List.getElem?_cons_zero, List.getElem?_cons_succ] at hf0 hf1
      clear hst hcc hEq hcs hcl
      go_wp2_with fail
      have hbz : Below w2.heap.size w2 (w2.alloc (.cells #[.slice none 0 0, .slice none 0 0] 57)) := (Below.refl _ _).alloc (Nat.le_refl _) _
      refine (rsolved_any A n cap N st cs _ S (fun k hk => by have := hS k hk; simp; omega) ((Hr.out.below Hb2.out hS).below hbz (fun k hk => by have := hS k hk; omega)) Hn.out hN Hcc.out (by omega)).mono ?_
      rintro e w3 ⟨BM, mM, dM, BP, mP, dP, he, hsM, hdM, hsP, hdP, hb3⟩
      rw [← HE1.out] at he
      rw [← HM1.out] at hsM
      rw [← HP1.out] at hsP
      subst he
      have hb23 : Below w2.heap.size w2 w3 := hbz.trans (hb3.mono hbz.size)
      have hX3 : Whole w3 w2.heap.size 57 [.slice none 0 0, .slice none 0 0] := Whole.below (Whole.new w2 _ _ _ rfl) hb3 (by simp)
      have hx0 := hX3.cell 0
      have hx1 := hX3.cell 1
      have hxf0 := hX3.free 0
      have hxf1 := hX3.free 1
      simp only [List.getElem?_cons_zero, List.getElem?_cons_succ] at hx0 hx1
      have HX3 := Lib.hid hX3; have Hb23 := Lib.hid hb23; have HsM := Lib.hid hsM; have HsP := Lib.hid hsP; have HdM := Lib.hid hdM; have HdP := Lib.hid hdP
      clear hbz hb3 hb23 hX3 hsM hsP hdM hdP hf0 hf1
      go_wp2_with fail
      have hfz : Far (fun i => i = w2.heap.size) w3 ((w3.setCell ⟨w2.heap.size, 0, none⟩ (.slice BM mM dM)).setCell ⟨w2.heap.size, 1, none⟩ (.slice BP mP dP)) := (Far.set_ (D := fun i => i = w2.heap.size) rfl 0 _).trans (Far.set_ (D := fun i => i = w2.heap.size) rfl 1 _) (fun i _ h => h)
      have hW := (HX3.out.set_ 0 (.slice BM mM dM)).set_ 1 (.slice BP mP dP)
      simp only [List.set_cons_succ, List.set_cons_zero] at hW
      generalize (World.setCell (World.setCell _ _ _) _ _) = wt at hfz hW ⊢
      have HW := Lib.hid hW
      have HA := Lib.hid (hfz.whole (HA2.out.below Hb23.out HA2.out.lt) (by omega))
      have Hbt := Lib.hid ((Hb2.out.trans (Hb23.out.mono Hb2.out.size)).trans (hfz.below (by have := Hb2.out.size; have := Hb23.out.size; omega) (fun i h => by have := Hb2.out.size; omega)))
      have hs3 := hfz.size
      have hs23 := Hb23.out.size
      have HrMt : Hid (RBools wt (fun k => k < wt.heap.size) AM nM LM) := (hfz.bools (HrM2.out.below Hb23.out (fun k hk => hk.2)) (fun k hk => ⟨by omega, by omega⟩)).more (fun k hk => by omega)
      have HrPt : Hid (RClauses wt (fun k => k < wt.heap.size) AP nP LP) := (hfz.clauses (HrP2.out.below Hb23.out (fun k hk => hk.2)) (fun k hk => ⟨by omega, by omega⟩)).more (fun k hk => by omega)
      have HsMt : Hid (RBools wt (fun k => k < wt.heap.size) BM mM LM) := (hfz.bools HsM.out (fun k hk => ⟨hk.2, by have := hk.1; simp at this; omega⟩)).more (fun k hk => by omega)
      have HsPt : Hid (RClauses wt (fun k => k < wt.heap.size) BP mP LP) := (hfz.clauses HsP.out (fun k hk => ⟨hk.2, by have := hk.1; simp at this; omega⟩)).more (fun k hk => by omega)
      obtain ⟨M, hM0⟩ : ∃ x, x = LM := ⟨_, rfl⟩
      obtain ⟨PP, hP0⟩ : ∃ x, x = LP := ⟨_, rfl⟩
      rw [← hM0] at HrMt HsMt
      rw [← hP0] at HrPt HsPt
      clear hfz hW hM0 hP0 hx0 hx1 hxf0 hxf1
      refine (solved_any _).mono ?_
      rintro e wu ⟨rfl, hbu⟩
      have hAu := HA.out.below hbu HA.out.lt
      have hWu := HW.out.below hbu HW.out.lt
      have hau0 := hAu.cell 0
      have hau1 := hAu.cell 1
      have hwu0 := hWu.cell 0
      have hwu1 := hWu.cell 1
      simp only [List.getElem?_cons_zero, List.getElem?_cons_succ] at hau0 hau1 hwu0 hwu1
      have HrMu := Lib.hid (HrMt.out.below hbu (fun k hk => hk)); have HsMu := Lib.hid (HsMt.out.below hbu (fun k hk => hk))
      have HrPu := Lib.hid (HrPt.out.below hbu (fun k hk => hk)); have HsPu := Lib.hid (HsPt.out.below hbu (fun k hk => hk))
      have Hbu := Lib.hid (Hbt.out.trans (hbu.mono Hbt.out.size))
      have hEE : (Ev == Ev) = true := by simp
      clear hbu hAu hWu
      go_wp2_with fail
      refine (equal_bool AM BM nM mM cM dM M M wu _ HrMu.out HsMu.out (Nat.le_trans HcM.out.1 HcM.out.2) (Nat.le_trans HdM.out.1 HdM.out.2)).mono ?_
      rintro e wy ⟨he, q, rfl⟩
      obtain rfl : e = .returned (.bool true) := he.trans (by rw [beq_self_eq_true])
      go_wp2_with fail
      refine (sameClauses_any AP BP nP mP cP dP PP PP (wu.drewN q) _ (HrPu.out.keep (fun _ _ => rfl)) (HsPu.out.keep (fun _ _ => rfl)) (Nat.le_trans HcP.out.1 HcP.out.2) (Nat.le_trans HdP.out.1 HdP.out.2)).mono ?_
      rintro e wy ⟨he, q2, rfl⟩
      obtain rfl : e = .returned (.bool true) := he.trans (by rw [beq_self_eq_true])
      go_wp2_with fail
      go_ret
      exact ⟨rfl, below_drewN Hbu.out _⟩
  · have hE1 : (E == 0) = false := by simpa using hE0
    obtain rfl : Ev = E := by rw [← HEv.out]; unfold solveErr; rw [if_pos (by rw [Hck.out]; exact hE0), Hck.out]
    have HM0 : Hid (LM = []) := by show _ = _; rw [← HLM.out]; unfold solveM; rw [if_pos (.inl (by rw [Hck.out]; exact hE0))]
    have HP0 : Hid (LP = []) := by show _ = _; rw [← HLP.out]; unfold solveP; rw [if_pos (.inl (by rw [Hck.out]; exact hE0))]
    clear hE0
    go_wp2_with fail
    have HW : Hid (Whole (w2.alloc (.cells #[.slice none 0 0, .slice none 0 0] 57)) w2.heap.size 57 [.slice none 0 0, .slice none 0 0]) := Whole.new w2 _ _ _ rfl
    have HA := Lib.hid (HA2.out.alloc (.cells #[.slice none 0 0, .slice none 0 0] 57))
    have hbw : Below w2.heap.size w2 (w2.alloc (.cells #[.slice none 0 0, .slice none 0 0] 57)) := (Below.refl _ _).alloc (Nat.le_refl _) _
    have Hbt := Lib.hid (Hb2.out.trans (hbw.mono Hb2.out.size))
    generalize w2.alloc (.cells #[.slice none 0 0, .slice none 0 0] 57) = wt at *
    have hrM0 := HrM2.out.below hbw (fun k hk => hk.2)
    have hrP0 := HrP2.out.below hbw (fun k hk => hk.2)
    have hs2t : w2.heap.size ≤ wt.heap.size := hbw.size
    obtain ⟨BM, hBM⟩ : ∃ x : Option Addr, x = none := ⟨_, rfl⟩
    obtain ⟨M, hM0⟩ : ∃ x : List Bool, x = [] := ⟨_, rfl⟩
    obtain ⟨PP, hP0⟩ : ∃ x : List (List Int), x = [] := ⟨_, rfl⟩
    have HrMt : Hid (RBools wt (fun k => k < wt.heap.size) AM nM M) := by rw [hM0, ← HM0.out]; exact hrM0.more (fun k hk => by omega)
    have HrPt : Hid (RClauses wt (fun k => k < wt.heap.size) AP nP PP) := by rw [hP0, ← HP0.out]; exact hrP0.more (fun k hk => by omega)
    obtain ⟨BP, hBP⟩ : ∃ x : Option Addr, x = none := ⟨_, rfl⟩
    obtain ⟨mM, hmM⟩ : ∃ x : Nat, x = 0 := ⟨_, rfl⟩
    obtain ⟨dM, hdM⟩ : ∃ x : Nat, x = 0 := ⟨_, rfl⟩
    obtain ⟨mP, hmP⟩ : ∃ x : Nat, x = 0 := ⟨_, rfl⟩
    obtain ⟨dP, hdP⟩ : ∃ x : Nat, x = 0 := ⟨_, rfl⟩
    have HsMt : Hid (RBools wt (fun k => k < wt.heap.size) BM mM M) := by rw [hM0, hmM]; exact Row.nil_
    have HsPt : Hid (RClauses wt (fun k => k < wt.heap.size) BP mP PP) := by rw [hP0, hmP]; exact RClauses.nil_
    have HW : Hid (Whole wt w2.heap.size 57 [.slice BM mM dM, .slice BP mP dP]) := by rw [hBM, hmM, hdM, hBP, hmP, hdP]; exact HW.out
    have HdM : Hid (mM ≤ dM ∧ dM ≤ maxLen) := by rw [hmM, hdM]; exact ⟨Nat.le_refl _, Nat.zero_le _⟩
    have HdP : Hid (mP ≤ dP ∧ dP ≤ maxLen) := by rw [hmP, hdP]; exact ⟨Nat.le_refl _, Nat.zero_le _⟩
    clear hbw hrM0 hrP0 hM0 hP0 hBM hBP hmM hdM hmP hdP
    refine (solved_any _).mono ?_
    rintro e wu ⟨rfl, hbu⟩
    have hAu := HA.out.below hbu HA.out.lt
    have hWu := HW.out.below hbu HW.out.lt
    have hau0 := hAu.cell 0
    have hau1 := hAu.cell 1
    have hwu0 := hWu.cell 0
    have hwu1 := hWu.cell 1
    simp only [List.getElem?_cons_zero, List.getElem?_cons_succ] at hau0 hau1 hwu0 hwu1
    have HrMu := Lib.hid (HrMt.out.below hbu (fun k hk => hk)); have HsMu := Lib.hid (HsMt.out.below hbu (fun k hk => hk))
    have HrPu := Lib.hid (HrPt.out.below hbu (fun k hk => hk)); have HsPu := Lib.hid (HsPt.out.below hbu (fun k hk => hk))
    have Hbu := Lib.hid (Hbt.out.trans (hbu.mono Hbt.out.size))
    have hEE : (Ev == Ev) = true := by simp
    clear hbu hAu hWu
    go_wp2_with fail
    refine (equal_bool AM BM nM mM cM dM M M wu _ HrMu.out HsMu.out (Nat.le_trans HcM.out.1 HcM.out.2) (Nat.le_trans HdM.out.1 HdM.out.2)).mono ?_
    rintro e wy ⟨he, q, rfl⟩
    obtain rfl : e = .returned (.bool true) := he.trans (by rw [beq_self_eq_true])
    go_wp2_with fail
    refine (sameClauses_any AP BP nP mP cP dP PP PP (wu.drewN q) _ (HrPu.out.keep (fun _ _ => rfl)) (HsPu.out.keep (fun _ _ => rfl)) (Nat.le_trans HcP.out.1 HcP.out.2) (Nat.le_trans HdP.out.1 HdP.out.2)).mono ?_
    rintro e wy ⟨he, q2, rfl⟩
    obtain rfl : e = .returned (.bool true) := he.trans (by rw [beq_self_eq_true])
    go_wp2_with fail
    go_ret
    exact ⟨rfl, below_drewN Hbu.out _⟩
end Go.Proofs.Ytpkbncfnkgofmaa
