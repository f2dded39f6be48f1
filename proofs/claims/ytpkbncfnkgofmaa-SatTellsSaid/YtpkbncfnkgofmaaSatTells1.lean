/- The walk of SatTells. -/
import Derived.Test.YtpkbncfnkgofmaaW36
import Derived.Test.YtpkbncfnkgofmaaPlain12
import Derived.Test.YtpkbncfnkgofmaaW11
import Derived.Test.YtpkbncfnkgofmaaW18
namespace Go.Proofs.Ytpkbncfnkgofmaa
open Go.RowKit
set_option maxHeartbeats 8000000 in
theorem satTells_any (A Am : Option Addr) (n cap nm cm : Nat) (vars : Int) (cs : List (List Int)) (m : List Bool) (w : World) (S : Nat → Prop) (hS : ∀ k, S k → k < w.heap.size)
    (hr : RClauses w S A n cs) (hm : RBools w S Am nm m) (hn : n ≤ cap ∧ cap ≤ maxLen) (hnm : nm ≤ maxLen) (hv : -9223372036854775808 ≤ vars) (hv' : vars ≤ 9223372036854775807) :
    Calls Try.prog 12 #[.agg #[.int .i64 vars, .slice A n cap], .slice Am nm cm] w fun e w' => e = .returned (.bool true) ∧ Below w.heap.size w w' := by
  have Hr := Lib.hid hr; have Hm := Lib.hid hm; have Hn := Lib.hid hn; have Hnm := Lib.hid hnm
  clear hr hm hn hnm
  go_enter Try.func12, Try.ntmps12
  go_wp2_with fail
  have hb0 : Below w.heap.size w (w.alloc (.cells #[.int .i64 vars, .slice A n cap] 29)) := (Below.refl _ _).alloc (Nat.le_refl _) _
  refine (solve_any A n cap vars 3000 cs _ S (fun k hk => by have := hS k hk; simp; omega) (Hr.out.below hb0 hS) Hn.out hv hv' (by omega) (by omega)).mono ?_
  rintro e w1 ⟨AM, nM, cM, AP, nP, cP, he, hrM, hM, hrP, hP, hb1⟩
  subst he
  generalize hE : solveErr vars cs 3000 = E
  generalize hLM : solveM vars cs 3000 = LM at hrM
  generalize hLP : solveP vars cs 3000 = LP at hrP
  have HE := Lib.hid hE; have HLM := Lib.hid hLM; have HLP := Lib.hid hLP; clear hE hLM hLP
  have Hb1 := Lib.hid (hb0.trans (hb1.mono hb0.size))
  have hF1 : Whole w1 w.heap.size 29 [.int .i64 vars, .slice A n cap] := Whole.below (Whole.new w _ _ _ rfl) hb1 (by simp)
  have HF1 := Lib.hid hF1
  have HrM := Lib.hid hrM; have HrP := Lib.hid hrP; have HM := Lib.hid hM; have HP := Lib.hid hP
  have hwlt : w.heap.size < w1.heap.size := hF1.lt
  clear hb0 hb1 hF1 hrM hrP hM hP
  go_wp2_with fail
  have hbx : Below w1.heap.size w1 (w1.alloc (.cells #[.slice AM nM cM, .slice AP nP cP] 57)) := (Below.refl _ _).alloc (Nat.le_refl _) _
  refine (solved_any _).mono ?_
  rintro e w2 ⟨rfl, hb2⟩
  have hb12 : Below w1.heap.size w1 w2 := hbx.trans (hb2.mono hbx.size)
  have hA2 : Whole w2 w1.heap.size 57 [.slice AM nM cM, .slice AP nP cP] := Whole.below (Whole.new w1 _ _ _ rfl) hb2 (by simp)
  have HA2 := Lib.hid hA2
  have HF2 := Lib.hid (HF1.out.below hb12 HF1.out.lt)
  have Hb2 := Lib.hid (Hb1.out.trans (hb12.mono Hb1.out.size))
  have HrM2 : Hid (RBools w2 (fun k => k < w1.heap.size) AM nM LM) := (HrM.out.more (fun k hk => hk.2)).below hb12 (fun k hk => hk)
  have HrP2 : Hid (RClauses w2 (fun k => k < w1.heap.size) AP nP LP) := (HrP.out.more (fun k hk => hk.2)).below hb12 (fun k hk => hk)
  have hw12 : w1.heap.size < w2.heap.size := hA2.lt
  clear hbx hb2 hb12 hA2
  by_cases hE0 : E = 0
  · subst hE0
    obtain ⟨N, rfl, hN, hck, hcl, hcs, htell⟩ := solve_tells HE.out
    rw [HLM.out, HLP.out] at htell
    have Htell := Lib.hid htell; have Hck := Lib.hid hck; have Hcs := Lib.hid hcs
    clear htell hck hcl hcs
    have hf0 := HF2.out.cell 0
    have hf1 := HF2.out.cell 1
    simp only [List.getElem?_cons_zero, List.getElem?_cons_succ] at hf0 hf1
    go_wp2_with fail
    refine (holds_any A Am n cap nm cm (N : Int) cs m w2 S (fun k hk => by have := hS k hk; have := Hb2.out.size; omega) (Hr.out.below Hb2.out hS) (Hm.out.below Hb2.out hS) Hn.out Hnm.out hv hv').mono ?_
    generalize hO : holdsOk (N : Int) cs m = O
    generalize hQ : holdsErr (N : Int) cs m = Q
    have HO := Lib.hid hO; have HQ := Lib.hid hQ; clear hO hQ
    rintro e w3 ⟨rfl, hb3⟩
    have HA3 := Lib.hid (HA2.out.below hb3 HA2.out.lt)
    have HF3 := Lib.hid (HF2.out.below hb3 HF2.out.lt)
    have Hb3 := Lib.hid (Hb2.out.trans (hb3.mono Hb2.out.size))
    have HrM3 := Lib.hid (HrM2.out.below hb3 (fun k hk => by omega))
    have HrP3 := Lib.hid (HrP2.out.below hb3 (fun k hk => by omega))
    have hw23 : w1.heap.size < w3.heap.size := HA3.out.lt
    -- what Holds says of the other model
    have Hoth : Hid (Q = 0 → m.length = N ∧ O = Qm.holdsF m cs) := fun h => by
      have hq := HQ.out
      rw [h] at hq
      unfold holdsErr at hq
      rw [if_neg (by rw [Hck.out]; simp)] at hq
      by_cases hl : (m.length : Int) = N
      · refine ⟨by omega, ?_⟩
        have := HO.out
        unfold holdsOk at this
        rw [HQ.out, h] at this
        simpa using this.symm
      · rw [if_pos hl] at hq; omega
    clear hb3 hf0 hf1
    have hf0 := HF3.out.cell 0
    have hf1 := HF3.out.cell 1
    have ha0 := HA3.out.cell 0
    have ha1 := HA3.out.cell 1
    simp only [List.getElem?_cons_zero, List.getElem?_cons_succ] at hf0 hf1 ha0 ha1
    rcases Htell.out with ⟨hP0, hMl, hMh, hMle⟩ | ⟨hPl, hM0, hP4, hRf, hBe, hNo⟩
    · subst hP0
      obtain rfl : nP = 0 := HrP.out.len.symm
      obtain rfl : nM = N := by rw [← HrM.out.len]; exact hMl
      have hh := holds_any A AM n cap nM cM (nM : Int) cs LM w3 (fun k => k < w3.heap.size) (fun k hk => hk) ((Hr.out.below Hb3.out hS).more (fun k hk => by have := hS k hk; have := Hb3.out.size; omega)) (HrM3.out.more (fun k hk => by omega)) Hn.out (Nat.le_trans HM.out.1 HM.out.2) hv hv'
      have hq : holdsErr (nM : Int) cs LM = 0 := by unfold holdsErr; rw [if_neg (by rw [Hck.out]; simp), if_neg (by rw [hMl]; simp)]
      have ho : holdsOk (nM : Int) cs LM = true := by unfold holdsOk; rw [hq]; simpa using hMh
      rw [hq, ho] at hh
      have Hh := Lib.hid hh; have HMle := Lib.hid hMle; have HMl := Lib.hid hMl
      clear hh hq ho hMh hMle hMl
      go_wp2_with fail
      refine Hh.out.mono ?_
      rintro e w4 ⟨rfl, hb4⟩
      have HA4 := Lib.hid (HA3.out.below hb4 HA3.out.lt)
      have Hb4 := Lib.hid (Hb3.out.trans (hb4.mono Hb3.out.size))
      have HrM4 := Lib.hid (HrM3.out.below hb4 (fun k hk => by omega))
      clear hb4 hf0 hf1 ha0 ha1
      by_cases hQ0 : Q = 0
      · subst hQ0
        cases O with
        | false =>
          go_wp2_with fail
          go_ret
          exact ⟨rfl, Hb4.out⟩
        | true =>
          obtain ⟨hml, hmh⟩ := Hoth.out rfl
          obtain rfl : nm = nM := by rw [← Hm.out.len]; exact hml
          have Hle := Lib.hid (HMle.out m hml hmh.symm)
          have Hml := Lib.hid hml
          clear hml hmh
          have ha0 := HA4.out.cell 0
          simp only [List.getElem?_cons_zero, List.getElem?_cons_succ] at ha0
          go_wp2_with fail
          clear ha0
          go_loopg [84] nm (fun g i wr => ∃ k : Nat, Hid (k + g = nm) ∧ i = .int .i64 k ∧ Hid (w4 = wr) ∧ Hid (∀ j, j < k → LM.getD j false = m.getD j false))
          case atStart => exact ⟨0, Nat.zero_add _, rfl, rfl, fun j hj => by omega⟩
          case round =>
            obtain ⟨k, Hk, rfl, Hw, Hsame⟩ := hrel
            obtain rfl := Hw.out
            by_cases hk : k < nm
            · obtain ⟨b1, o1, rfl, _, hc1⟩ := HrM4.out.at_ hk
              obtain ⟨b2, o2, rfl, _, hc2⟩ := (Hm.out.below Hb4.out hS).at_ hk
              generalize hx : LM.getD k false = x at hc1
              generalize hy : m.getD k false = y at hc2
              have Hx := Lib.hid hx; have Hy := Lib.hid hy
              clear hx hy
              have hcase : (x = y) ∨ (x = false ∧ y = true) := by
                by_cases h : x = y
                · exact .inl h
                · have := Hle.out k Hsame.out (by rw [Hx.out, Hy.out]; exact h)
                  rw [Hx.out] at this
                  subst this
                  cases y
                  · exact absurd rfl h
                  · exact .inr ⟨rfl, rfl⟩
              rcases hcase with h | ⟨h, h'⟩
              · subst h
                cases x
                all_goals
                  go_wp2_with fail
                  go_roundg (gk - 1)
                  case measure => have := Hk.out; omega
                  case rel => exact ⟨k + 1, by have := Hk.out; show _ = _; omega, by go_num, rfl, fun j hj => by
                    by_cases e : j = k
                    · rw [e, Hx.out, Hy.out]
                    · exact Hsame.out j (by omega)⟩
              · subst h h'
                go_wp2_with fail
                go_ret
                exact ⟨rfl, Hb4.out⟩
            · go_wp2_with fail
              go_ret
              exact ⟨rfl, Hb4.out⟩
      · have hQ1 : (Q != 0) = true := by simpa using hQ0
        clear hQ0
        go_wp2_with fail
        go_ret
        exact ⟨rfl, Hb4.out⟩
    · subst hM0
      obtain rfl : nM = 0 := HrM.out.len.symm
      have hPl2 : nP = LP.length := HrP.out.len.symm
      have hpos : (0 : Int) < (nP : Int) := by omega
      have hh := refutes_any A AP n cap nP cP (N : Int) cs LP w3 (fun k => k < w3.heap.size) (fun k hk => hk) ((Hr.out.below Hb3.out hS).more (fun k hk => by have := hS k hk; have := Hb3.out.size; omega)) (HrP3.out.more (fun k hk => by omega)) Hn.out HP.out hv hv'
      rw [hRf, hBe] at hh
      have Hh := Lib.hid hh; have HNo := Lib.hid hNo
      clear hh hNo hRf hBe hPl hPl2
      go_wp2_with fail
      refine Hh.out.mono ?_
      rintro e w4 ⟨rfl, hb4⟩
      have HA4 := Lib.hid (HA3.out.below hb4 HA3.out.lt)
      have Hb4 := Lib.hid (Hb3.out.trans (hb4.mono Hb3.out.size))
      clear hb4 hf0 hf1 ha0 ha1
      have ha0 := HA4.out.cell 0
      simp only [List.getElem?_cons_zero, List.getElem?_cons_succ] at ha0
      by_cases hQ0 : Q = 0
      · subst hQ0
        cases O with
        | false =>
          go_wp2_with fail
          go_ret
          exact ⟨rfl, Hb4.out⟩
        | true =>
          obtain ⟨hml, hmh⟩ := Hoth.out rfl
          exact absurd (HNo.out m hml hmh.symm) id
      · have hQ1 : (Q != 0) = true := by simpa using hQ0
        clear hQ0
        go_wp2_with fail
        go_ret
        exact ⟨rfl, Hb4.out⟩
  · have hE1 : (E != 0) = true := by simpa using hE0
    clear hE0
    go_wp2_with fail
    refine (solved_any _).mono ?_
    rintro e w5 ⟨rfl, hb5⟩
    go_wp2_with fail
    go_ret
    exact ⟨rfl, Hb2.out.trans (hb5.mono Hb2.out.size)⟩
end Go.Proofs.Ytpkbncfnkgofmaa
