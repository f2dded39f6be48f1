/- The walk of CnfSays: the law. -/
import Derived.Test.YtpkbncfnkgofmaaCnfSays1
namespace Go.Proofs.Ytpkbncfnkgofmaa
open Go.RowKit
theorem beq_cmp {a b : Bool} : (!(a != b)) = (a == b) := by cases a <;> cases b <;> rfl
set_option maxHeartbeats 4000000 in
theorem cnfSays_any (A A' Am A3 : Option Addr) (n cap n' cap' nm cm n3 c3 : Nat) (vars vars2 : Int) (cs : List (List Int)) (m : List Bool) (asm cl : List Int) (w : World) (S : Nat → Prop) (hS : ∀ k, S k → k < w.heap.size)
    (hr : RClauses w S A n cs) (hm : RBools w S Am nm m) (hr' : RInts w S A' n' asm) (h3 : RInts w S A3 n3 cl) (hn : n ≤ cap ∧ cap ≤ maxLen) (hnm : nm ≤ maxLen) (hn' : n' ≤ maxLen) (hn3 : n3 ≤ maxLen)
    (hv : -9223372036854775808 ≤ vars) (hv' : vars ≤ 9223372036854775807) (hu : -9223372036854775808 ≤ vars2) (hu' : vars2 ≤ 9223372036854775807) :
    Calls Try.prog 6 #[.agg #[.int .i64 vars, .slice A n cap], .slice Am nm cm, .slice A' n' cap', .slice A3 n3 c3, .int .i64 vars2] w fun e w' => e = .returned (.bool true) ∧ Below w.heap.size w w' := by
  have Hr := Lib.hid hr; have Hm := Lib.hid hm; have Hr' := Lib.hid hr'; have H3 := Lib.hid h3; have Hn := Lib.hid hn; have Hnm := Lib.hid hnm; have Hn' := Lib.hid hn'; have Hn3 := Lib.hid hn3
  clear hr hm hr' h3 hn hnm hn' hn3
  go_enter Try.func6, Try.ntmps6
  go_wp2_with fail
  have hb0 : Below w.heap.size w (w.alloc (.cells #[.int .i64 vars, .slice A n cap] 29)) := (Below.refl _ _).alloc (Nat.le_refl _) _
  refine (holds_any A Am n cap nm cm vars cs m _ S (fun k hk => by have := hS k hk; simp; omega) (Hr.out.below hb0 hS) (Hm.out.below hb0 hS) Hn.out Hnm.out hv hv').mono ?_
  generalize hO : holdsOk vars cs m = O
  generalize hQ : holdsErr vars cs m = Q
  have HO := Lib.hid hO; have HQ := Lib.hid hQ; clear hO hQ
  rintro e w1 ⟨rfl, hb1⟩
  have Hb1 := Lib.hid (boxed_below hb1)
  have hW1 : Whole w1 w.heap.size 29 [.int .i64 vars, .slice A n cap] := boxed_whole hb1
  have HW1 := Lib.hid hW1
  have hf0 := hW1.cell 0
  have hf1 := hW1.cell 1
  simp only [List.getElem?_cons_zero, List.getElem?_cons_succ] at hf0 hf1
  clear hb0 hb1 hW1
  go_wp2_with fail
  refine (follows_any A A' n cap n' cap' vars cs asm _ S (fun k hk => by have := hS k hk; have := Hb1.out.size; omega) (Hr.out.below Hb1.out hS) (Hr'.out.below Hb1.out hS) Hn.out Hn'.out hv hv').mono ?_
  rintro e w2 ⟨Al, nl, cl2, he, hrl, hnl, hcl2, hb2⟩
  subst he
  generalize hK : folOk vars cs asm = K
  generalize hE : folErr vars cs asm = E
  generalize hL : folL vars cs asm = L at hrl
  have HK := Lib.hid hK; have HE := Lib.hid hE; have HL := Lib.hid hL; have Hrl := Lib.hid hrl; clear hK hE hL hrl
  have Hb2 := Lib.hid (Hb1.out.trans (hb2.mono Hb1.out.size))
  have hW2 := HW1.out.below hb2 HW1.out.lt
  have HW2 := Lib.hid hW2
  have Hs2 := Lib.hid hb2
  clear hf0 hf1 hb2
  have hf0 := hW2.cell 0
  have hf1 := hW2.cell 1
  simp only [List.getElem?_cons_zero, List.getElem?_cons_succ] at hf0 hf1
  clear hW2
  have Hnl : Hid (nl ≤ maxLen) := Nat.le_trans hnl hcl2
  clear hnl hcl2
  go_wp2_with fail
  refine (rcheckFormula_any A n cap cs vars _ S (Hr.out.below Hb2.out hS) (fun k hk => by have := hS k hk; have := Hb2.out.size; omega) (Nat.le_trans Hn.out.1 Hn.out.2) hv hv').mono ?_
  generalize hF : ckFormula vars cs = F
  have HF := Lib.hid hF; clear hF
  rintro e w3 ⟨rfl, hb3⟩
  have Hb3 := Lib.hid (Hb2.out.trans (hb3.mono Hb2.out.size))
  have hW3 := HW2.out.below hb3 HW2.out.lt
  have HW3 := Lib.hid hW3
  have Hs3 := Lib.hid hb3
  clear hf0 hf1 hb3
  have hf0 := hW3.cell 0
  have hf1 := hW3.cell 1
  simp only [List.getElem?_cons_zero, List.getElem?_cons_succ] at hf0 hf1
  clear hW3
  go_wp2_with fail
  refine (followed_any _).mono ?_
  rintro e w4 ⟨rfl, hb4⟩
  have Hb4 := Lib.hid (Hb3.out.trans (hb4.mono Hb3.out.size))
  have hW4 := HW3.out.below hb4 HW3.out.lt
  have HW4 := Lib.hid hW4
  have Hs4 := Lib.hid hb4
  clear hf0 hf1 hb4
  have hf0 := hW4.cell 0
  have hf1 := hW4.cell 1
  simp only [List.getElem?_cons_zero, List.getElem?_cons_succ] at hf0 hf1
  clear hW4
  go_wp2_with fail
  refine (checkFormula_any A n cap cs vars _ S (Hr.out.below Hb4.out hS) (fun k hk => by have := hS k hk; have := Hb4.out.size; omega) (Nat.le_trans Hn.out.1 Hn.out.2) hv hv').mono ?_
  rw [HF.out]
  rintro e w5 ⟨rfl, hb5⟩
  have Hb5 := Lib.hid (Hb4.out.trans (hb5.mono Hb4.out.size))
  have hW5 := HW4.out.below hb5 HW4.out.lt
  have HW5 := Lib.hid hW5
  have Hs5 := Lib.hid hb5
  clear hf0 hf1 hb5
  have hf0 := hW5.cell 0
  have hf1 := hW5.cell 1
  simp only [List.getElem?_cons_zero, List.getElem?_cons_succ] at hf0 hf1
  clear hW5
  go_wp2_with fail
  refine (checkClause_any A3 n3 c3 cl vars2 _ S (H3.out.below Hb5.out hS) Hn3.out hu hu').mono ?_
  generalize hC : ckClause cl vars2 = C
  have HC := Lib.hid hC; clear hC
  rintro e w' ⟨rfl, rfl⟩
  go_wp2_with fail
  refine (rcheckClause_any A3 n3 c3 cl vars2 _ S (H3.out.below Hb5.out hS) Hn3.out hu hu').mono ?_
  rw [HC.out]
  rintro e w' ⟨rfl, rfl⟩
  have Hrl5 : Hid (RInts w5 (fun k => k < w2.heap.size) Al nl L) := (((Hrl.out.more (fun k hk => hk.2)).below Hs3.out (fun k hk => hk)).below Hs4.out (fun k hk => Nat.lt_of_lt_of_le hk Hs3.out.size)).below Hs5.out (fun k hk => Nat.lt_of_lt_of_le hk (Nat.le_trans Hs3.out.size Hs4.out.size))
  have Hsz : Hid (w2.heap.size ≤ w5.heap.size) := Nat.le_trans Hs3.out.size (Nat.le_trans Hs4.out.size Hs5.out.size)
  have hdone := Hb5.out
  have Hdone := Lib.hid hdone; clear hdone
  by_cases hF0 : F = 0
  · subst hF0
    obtain ⟨N, rfl, hN, hcl, hcs⟩ := ckFormula_ok HF.out
    have hn4 : n ≤ 4000 := by rw [← Hr.out.len]; exact hcl
    have Hcs := Lib.hid hcs; clear hcs hcl
    have Hsz5 := Hsz
    by_cases hml : (nm : Int) = (N : Int)
    · obtain rfl : nm = N := by omega
      have hQ1 : Q = 0 := by rw [← HQ.out]; unfold holdsErr; rw [if_neg (by rw [HF.out]; simp), if_neg (by rw [Hm.out.len]; simp)]
      have hO1 : O = Qm.holdsF m cs := by rw [← HO.out]; unfold holdsOk; rw [HQ.out, hQ1]; simp
      have hne : ((nm : Int) != (nm : Int)) = false := by simp
      have hNe : (O != Qm.holdsF m cs) = false := by rw [hO1]; simp
      subst hQ1
      have HNe := Lib.hid hNe
      have Hrh := Lib.hid (rholds_any A Am n cap nm cm cs m w5 S (fun k hk => by have := hS k hk; have := Hb5.out.size; omega) (Hr.out.below Hb5.out hS) (Hm.out.below Hb5.out hS) hn4 hN Hcs.out)
      clear hNe hml
      go_wp2_with fail
      refine Hrh.out.mono ?_
      rw [← hO1]
      have HO1 := Lib.hid hO1; clear hO1
      rintro e w6 ⟨rfl, hb6⟩
      have Hb6 := Lib.hid (Hb5.out.trans (hb6.mono Hb5.out.size))
      have hW6 := HW5.out.below hb6 HW5.out.lt
      have HW6 := Lib.hid hW6
      have Hs6 := Lib.hid hb6
      clear hf0 hf1 hb6
      have hf0 := hW6.cell 0
      have hf1 := hW6.cell 1
      simp only [List.getElem?_cons_zero, List.getElem?_cons_succ] at hf0 hf1
      clear hW6
      have Hrl6 : Hid (RInts w6 (fun k => k < w2.heap.size) Al nl L) := Hrl5.out.below Hs6.out (fun k hk => by have := Hsz5.out; omega)
      have Hsz6 : Hid (w2.heap.size ≤ w6.heap.size) := Nat.le_trans Hsz5.out Hs6.out.size
      have hOO : (O != O) = false := by simp
      by_cases hl : 400 < n'
      · have hl' : (400 : Int) < (n' : Int) := by omega
        have hE1 : E = 2 := by rw [← HE.out]; unfold folErr; rw [if_neg (by rw [HF.out]; simp), if_pos (by rw [Hr'.out.len]; exact hl)]
        have hV : folV (nm : Int) cs asm = none := folV_err (by rw [HE.out, hE1]; omega)
        have hK1 : K = false := by rw [← HK.out]; unfold folOk; rw [hV]; rfl
        have hL1 : L = [] := by rw [← HL.out]; unfold folL; rw [hV]
        have hnl0 : nl = 0 := by rw [← Hrl6.out.len, hL1]; rfl
        subst hE1 hK1 hnl0
        clear hV hL1
        go_wp2_with fail
        go_ret
        exact ⟨rfl, Hb6.out⟩
      · have hl' : decide ((400 : Int) < (n' : Int)) = false := decide_eq_false (by omega)
        have hcall := containsFunc_any A' n' cap' asm 29 #[.pointer (some ⟨w.heap.size, 0, none⟩)] (badLit (nm : Int)) w6 S (Hr'.out.below Hb6.out hS) Hn'.out
          ⟨callFuncCs, fun x hx d => (csLit_any x nm w.heap.size (w6.drewN d) hf0 hN).mono fun e w' h => ⟨h.1, d, h.2.symm⟩⟩
        generalize hbb : asm.any (badLit (nm : Int)) = bb at hcall
        have Hbb := Lib.hid hbb; have Hcall := Lib.hid hcall; clear hcall hbb
        cases bb
        · have hE1 : E = 0 := by rw [← HE.out]; unfold folErr; rw [if_neg (by rw [HF.out]; simp), if_neg (by rw [Hr'.out.len]; exact hl)]; unfold ckLits; rw [Hbb.out]; rfl
          have hV : folV (nm : Int) cs asm = Qm.followsV nm cs asm := by unfold folV; rw [if_neg (by rw [HE.out, hE1]; simp)]; rfl
          have hK1 : K = (Qm.followsV nm cs asm).isSome := by rw [← HK.out]; unfold folOk; rw [hV]
          have hL1 : L = ffL nm cs asm := by rw [← HL.out]; unfold folL ffL; rw [hV]; rfl
          have HK1 := Lib.hid hK1; have HL1 := Lib.hid hL1; clear hK1 hL1
          subst hE1
          clear hV
          have hls := ckLits_ok (N := nm) (asm := asm) (by unfold ckLits; rw [Hbb.out]; rfl)
          have hff := fun d => rfollows_any A A' n cap n' cap' nm cs asm (w6.drewN d) S (fun k hk => by have := hS k hk; have := Hb6.out.size; show k < w6.heap.size; omega) (Hr.out.below (below_drewN Hb6.out d) hS) (Hr'.out.below (below_drewN Hb6.out d) hS) Hn.out (by omega) hN (fun c hc => (Hcs.out c hc).1) hls
          have Hff := Lib.hid hff; clear hff hls
          go_wp2_with fail
          refine Hcall.out.mono ?_
          rintro e w7 ⟨rfl, q, rfl⟩
          go_wp2_with fail
          refine (Hff.out q).mono ?_
          rintro e w8 ⟨A8, n8, c8, he, hr8, hn8, hc8, hb8⟩
          subst he
          rw [← HL1.out] at hr8
          rw [← HK1.out]
          have hb8' : Below w6.heap.size w6 w8 := (below_drewN (Below.refl _ _) q).trans (hb8.mono (by show w6.heap.size ≤ w6.heap.size; omega))
          have Hb8 := Lib.hid (Hb6.out.trans (hb8'.mono Hb6.out.size))
          have hnn : n8 = nl := by rw [← hr8.len, ← Hrl6.out.len]
          subst hnn
          have hrl8 : RInts w8 (fun k => k < w8.heap.size) Al n8 L := (Hrl6.out.below hb8' (fun k hk => by have := Hsz6.out; omega)).more (fun k hk => by have := Hsz6.out; have := hb8'.size; omega)
          have heq := equal_int Al A8 n8 n8 cl2 c8 L L w8 (fun k => k < w8.heap.size) hrl8 (hr8.more (fun k hk => hk.2)) Hnl.out Hnl.out
          have Heq := Lib.hid heq
          clear hr8 hn8 hc8 hb8 hb8' hrl8 heq hf0 hf1
          cases K
          · go_wp2_with fail
            refine Heq.out.mono ?_
            rintro e w9 ⟨he, q9, rfl⟩
            obtain rfl : e = .returned (.bool true) := he.trans (by rw [beq_self_eq_true])
            go_wp2_with fail
            go_ret
            exact ⟨rfl, below_drewN Hb8.out _⟩
          · go_wp2_with fail
            refine Heq.out.mono ?_
            rintro e w9 ⟨he, q9, rfl⟩
            obtain rfl : e = .returned (.bool true) := he.trans (by rw [beq_self_eq_true])
            go_wp2_with fail
            go_ret
            exact ⟨rfl, below_drewN Hb8.out _⟩
        · have hE1 : E = 5 := by rw [← HE.out]; unfold folErr; rw [if_neg (by rw [HF.out]; simp), if_neg (by rw [Hr'.out.len]; exact hl)]; unfold ckLits; rw [Hbb.out]; rfl
          have hV : folV (nm : Int) cs asm = none := folV_err (by rw [HE.out, hE1]; omega)
          have hK1 : K = false := by rw [← HK.out]; unfold folOk; rw [hV]; rfl
          have hL1 : L = [] := by rw [← HL.out]; unfold folL; rw [hV]
          have hnl0 : nl = 0 := by rw [← Hrl6.out.len, hL1]; rfl
          subst hE1 hK1 hnl0
          clear hV hL1
          go_wp2_with fail
          refine Hcall.out.mono ?_
          rintro e w7 ⟨rfl, q, rfl⟩
          go_wp2_with fail
          go_ret
          exact ⟨rfl, below_drewN Hb6.out _⟩
    · have hml' : ((nm : Int) != (N : Int)) = true := by simpa using hml
      have hQ1 : Q = 4 := by rw [← HQ.out]; unfold holdsErr; rw [if_neg (by rw [HF.out]; simp), if_pos (by rw [Hm.out.len]; exact hml)]
      have hO1 : O = false := by rw [← HO.out]; unfold holdsOk; rw [HQ.out, hQ1]; simp
      subst hQ1 hO1
      clear hml
      by_cases hl : 400 < n'
      · have hl' : (400 : Int) < (n' : Int) := by omega
        have hE1 : E = 2 := by rw [← HE.out]; unfold folErr; rw [if_neg (by rw [HF.out]; simp), if_pos (by rw [Hr'.out.len]; exact hl)]
        have hV : folV (N : Int) cs asm = none := folV_err (by rw [HE.out, hE1]; omega)
        have hK1 : K = false := by rw [← HK.out]; unfold folOk; rw [hV]; rfl
        have hL1 : L = [] := by rw [← HL.out]; unfold folL; rw [hV]
        have hnl0 : nl = 0 := by rw [← Hrl5.out.len, hL1]; rfl
        subst hE1 hK1 hnl0
        clear hV hL1
        go_wp2_with fail
        go_ret
        exact ⟨rfl, Hb5.out⟩
      · have hl' : decide ((400 : Int) < (n' : Int)) = false := decide_eq_false (by omega)
        have hcall := containsFunc_any A' n' cap' asm 29 #[.pointer (some ⟨w.heap.size, 0, none⟩)] (badLit (N : Int)) w5 S (Hr'.out.below Hb5.out hS) Hn'.out
          ⟨callFuncCs, fun x hx d => (csLit_any x N w.heap.size (w5.drewN d) hf0 hN).mono fun e w' h => ⟨h.1, d, h.2.symm⟩⟩
        generalize hbb : asm.any (badLit (N : Int)) = bb at hcall
        have Hbb := Lib.hid hbb; have Hcall := Lib.hid hcall; clear hcall hbb
        cases bb
        · have hE1 : E = 0 := by rw [← HE.out]; unfold folErr; rw [if_neg (by rw [HF.out]; simp), if_neg (by rw [Hr'.out.len]; exact hl)]; unfold ckLits; rw [Hbb.out]; rfl
          have hV : folV (N : Int) cs asm = Qm.followsV N cs asm := by unfold folV; rw [if_neg (by rw [HE.out, hE1]; simp)]; rfl
          have hK1 : K = (Qm.followsV N cs asm).isSome := by rw [← HK.out]; unfold folOk; rw [hV]
          have hL1 : L = ffL N cs asm := by rw [← HL.out]; unfold folL ffL; rw [hV]; rfl
          have HK1 := Lib.hid hK1; have HL1 := Lib.hid hL1; clear hK1 hL1
          subst hE1
          clear hV
          have hls := ckLits_ok (N := N) (asm := asm) (by unfold ckLits; rw [Hbb.out]; rfl)
          have hff := fun d => rfollows_any A A' n cap n' cap' N cs asm (w5.drewN d) S (fun k hk => by have := hS k hk; have := Hb5.out.size; show k < w5.heap.size; omega) (Hr.out.below (below_drewN Hb5.out d) hS) (Hr'.out.below (below_drewN Hb5.out d) hS) Hn.out (by omega) hN (fun c hc => (Hcs.out c hc).1) hls
          have Hff := Lib.hid hff; clear hff hls
          go_wp2_with fail
          refine Hcall.out.mono ?_
          rintro e w7 ⟨rfl, q, rfl⟩
          go_wp2_with fail
          refine (Hff.out q).mono ?_
          rintro e w8 ⟨A8, n8, c8, he, hr8, hn8, hc8, hb8⟩
          subst he
          rw [← HL1.out] at hr8
          rw [← HK1.out]
          have hb8' : Below w5.heap.size w5 w8 := (below_drewN (Below.refl _ _) q).trans (hb8.mono (by show w5.heap.size ≤ w5.heap.size; omega))
          have Hb8 := Lib.hid (Hb5.out.trans (hb8'.mono Hb5.out.size))
          have hnn : n8 = nl := by rw [← hr8.len, ← Hrl5.out.len]
          subst hnn
          have hrl8 : RInts w8 (fun k => k < w8.heap.size) Al n8 L := (Hrl5.out.below hb8' (fun k hk => by have := Hsz5.out; omega)).more (fun k hk => by have := Hsz5.out; have := hb8'.size; omega)
          have heq := equal_int Al A8 n8 n8 cl2 c8 L L w8 (fun k => k < w8.heap.size) hrl8 (hr8.more (fun k hk => hk.2)) Hnl.out Hnl.out
          have Heq := Lib.hid heq
          clear hr8 hn8 hc8 hb8 hb8' hrl8 heq hf0 hf1
          cases K
          · go_wp2_with fail
            refine Heq.out.mono ?_
            rintro e w9 ⟨he, q9, rfl⟩
            obtain rfl : e = .returned (.bool true) := he.trans (by rw [beq_self_eq_true])
            go_wp2_with fail
            go_ret
            exact ⟨rfl, below_drewN Hb8.out _⟩
          · go_wp2_with fail
            refine Heq.out.mono ?_
            rintro e w9 ⟨he, q9, rfl⟩
            obtain rfl : e = .returned (.bool true) := he.trans (by rw [beq_self_eq_true])
            go_wp2_with fail
            go_ret
            exact ⟨rfl, below_drewN Hb8.out _⟩
        · have hE1 : E = 5 := by rw [← HE.out]; unfold folErr; rw [if_neg (by rw [HF.out]; simp), if_neg (by rw [Hr'.out.len]; exact hl)]; unfold ckLits; rw [Hbb.out]; rfl
          have hV : folV (N : Int) cs asm = none := folV_err (by rw [HE.out, hE1]; omega)
          have hK1 : K = false := by rw [← HK.out]; unfold folOk; rw [hV]; rfl
          have hL1 : L = [] := by rw [← HL.out]; unfold folL; rw [hV]
          have hnl0 : nl = 0 := by rw [← Hrl5.out.len, hL1]; rfl
          subst hE1 hK1 hnl0
          clear hV hL1
          go_wp2_with fail
          refine Hcall.out.mono ?_
          rintro e w7 ⟨rfl, q, rfl⟩
          go_wp2_with fail
          go_ret
          exact ⟨rfl, below_drewN Hb5.out _⟩
  · have hFF : (F != 0) = true := by simpa using hF0
    have hQ1 : Q = F := by rw [← HQ.out]; unfold holdsErr; rw [if_pos (by rw [HF.out]; exact hF0), HF.out]
    have hE1 : E = F := by rw [← HE.out]; unfold folErr; rw [if_pos (by rw [HF.out]; exact hF0), HF.out]
    have hO1 : O = false := by rw [← HO.out]; unfold holdsOk; rw [HQ.out, hQ1]; simp [hF0]
    have hV : folV vars cs asm = none := folV_err (by rw [HE.out, hE1]; exact hF0)
    have hK1 : K = false := by rw [← HK.out]; unfold folOk; rw [hV]; rfl
    have hL1 : L = [] := by rw [← HL.out]; unfold folL; rw [hV]
    have hnl0 : nl = 0 := by rw [← Hrl5.out.len, hL1]; rfl
    subst hQ1 hE1 hO1 hK1 hnl0
    clear hF0 hV hL1
    go_wp2_with fail
    go_ret
    exact ⟨rfl, Hdone.out⟩
end Go.Proofs.Ytpkbncfnkgofmaa
