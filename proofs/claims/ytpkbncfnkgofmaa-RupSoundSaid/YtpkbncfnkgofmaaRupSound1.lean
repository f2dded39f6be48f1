/- The walk of RupSound. -/
import Derived.Test.YtpkbncfnkgofmaaW16
import Derived.Test.YtpkbncfnkgofmaaW13
import Derived.Test.YtpkbncfnkgofmaaPlain3
import Derived.Test.YtpkbncfnkgofmaaRupSays1
import Derived.Deep.RegionHeld3
namespace Go.Proofs.Ytpkbncfnkgofmaa
open Go.RowKit

set_option maxHeartbeats 2000000 in
theorem rupSound_any (A A' Am : Option Addr) (n cap n' cap' nm cm : Nat) (vars : Int) (cs pf : List (List Int)) (m : List Bool) (w : World) (S : Nat → Prop) (hS : ∀ k, S k → k < w.heap.size)
    (hr : RClauses w S A n cs) (hr' : RClauses w S A' n' pf) (hm : RBools w S Am nm m) (hn : n ≤ cap ∧ cap ≤ maxLen) (hn' : n' ≤ cap' ∧ cap' ≤ maxLen) (hnm : nm ≤ maxLen) (hv : -9223372036854775808 ≤ vars) (hv' : vars ≤ 9223372036854775807) :
    Calls Try.prog 5 #[.agg #[.int .i64 vars, .slice A n cap], .slice A' n' cap', .slice Am nm cm] w fun e w' => e = .returned (.bool true) ∧ Below w.heap.size w w' := by
  have Hr := Lib.hid hr; have Hr' := Lib.hid hr'; have Hn := Lib.hid hn; have Hn' := Lib.hid hn'; have Hm := Lib.hid hm
  clear hr hr' hn hn' hm
  have Hnm := Lib.hid hnm; clear hnm
  go_enter Try.func5, Try.ntmps5
  go_wp2_with fail
  have hb0 : Below w.heap.size w (w.alloc (.cells #[.int .i64 vars, .slice A n cap] 29)) := (Below.refl _ _).alloc (Nat.le_refl _) _
  refine (holds_any A Am n cap nm cm vars cs m _ S (fun k hk => by have := hS k hk; simp; omega) (Hr.out.below hb0 hS) (Hm.out.below hb0 hS) Hn.out Hnm.out hv hv').mono ?_
  generalize hO : holdsOk vars cs m = O
  generalize hQ : holdsErr vars cs m = Q
  have HO := Lib.hid hO; have HQ := Lib.hid hQ; clear hO hQ
  rintro e w1 ⟨rfl, hb1⟩
  have Hb1 := Lib.hid (boxed_below hb1)
  have hW1 : Whole w1 w.heap.size 29 [.int .i64 vars, .slice A n cap] := boxed_whole hb1
  have HW1 := Lib.hid hW1
  have hf0 := hW1.cell 0
  have hf1 := hW1.cell 1
  simp only [List.getElem?_cons_zero, List.getElem?_cons_succ] at hf0 hf1
  clear hb0 hb1 hW1
  go_wp2_with fail
  refine (bad_any A A' n cap n' cap' vars cs pf _ S (fun k hk => by have := hS k hk; have := Hb1.out.size; omega) (Hr.out.below Hb1.out hS) (Hr'.out.below Hb1.out hS) Hn.out Hn'.out hv hv').mono ?_
  generalize hK : badK vars cs pf = K
  generalize hE : badErr vars cs pf = E
  have HK := Lib.hid hK; have HE := Lib.hid hE; clear hK hE
  rintro e w2 ⟨rfl, hb2⟩
  have Hb2 := Lib.hid (Hb1.out.trans (hb2.mono Hb1.out.size))
  have hW2 := HW1.out.below hb2 HW1.out.lt
  have HW2 := Lib.hid hW2
  clear hf0 hf1 hb2
  have hf0 := hW2.cell 0
  have hf1 := hW2.cell 1
  simp only [List.getElem?_cons_zero, List.getElem?_cons_succ] at hf0 hf1
  clear hW2
  go_wp2_with fail
  refine (refutes_any A A' n cap n' cap' vars cs pf _ S (fun k hk => by have := hS k hk; have := Hb2.out.size; omega) (Hr.out.below Hb2.out hS) (Hr'.out.below Hb2.out hS) Hn.out Hn'.out hv hv').mono ?_
  rw [HE.out]
  generalize hR : refOk vars cs pf = R
  have HR := Lib.hid hR; clear hR
  rintro e w3 ⟨rfl, hb3⟩
  have Hb3 := Lib.hid (Hb2.out.trans (hb3.mono Hb2.out.size))
  have hW3 := HW2.out.below hb3 HW2.out.lt
  have HW3 := Lib.hid hW3
  clear hf0 hf1 hb3
  have hf0 := hW3.cell 0
  have hf1 := hW3.cell 1
  simp only [List.getElem?_cons_zero, List.getElem?_cons_succ] at hf0 hf1
  clear hW3
  go_wp2_with fail
  refine (refuted_any _).mono ?_
  rintro e w4 ⟨rfl, hb4⟩
  have Hb4 := Lib.hid (Hb3.out.trans (hb4.mono Hb3.out.size))
  have hW4 := HW3.out.below hb4 HW3.out.lt
  have HW4 := Lib.hid hW4
  clear hf0 hf1 hb4
  have hf0 := hW4.cell 0
  have hf1 := hW4.cell 1
  simp only [List.getElem?_cons_zero, List.getElem?_cons_succ] at hf0 hf1
  clear hW4
  by_cases hQ0 : Q = 0
  · by_cases hE0 : E = 0
    · cases O
      · subst hQ0 hE0
        go_wp2_with fail
        refine (refuted_any _).mono ?_
        rintro e w5 ⟨rfl, hb5⟩
        go_wp2_with fail
        go_ret
        exact ⟨rfl, Hb4.out.trans (hb5.mono Hb4.out.size)⟩
      · subst hQ0 hE0
        have hnoterr : ckFormula vars cs = 0 := by
          have := HQ.out; unfold holdsErr at this
          split at this
          · omega
          · rename_i h; simpa using h
        obtain ⟨N, rfl, hN, hcl, hcs⟩ := ckFormula_ok hnoterr
        have hck : ckProof pf (N : Int) = 0 := by have := HE.out; unfold badErr at this; rwa [if_neg (by rw [hnoterr]; simp)] at this
        obtain ⟨hpl, hps⟩ := ckProof_ok hck
        have hml : (m.length : Int) = (N : Int) := by
          have := HQ.out; unfold holdsErr at this; rw [if_neg (by rw [hnoterr]; simp)] at this
          by_cases h : (m.length : Int) = N
          · exact h
          · rw [if_pos h] at this; omega
        have hhf : Qm.holdsF m cs = true := by have := HO.out; unfold holdsOk at this; rw [HQ.out] at this; simpa using this
        have hRf : R = false := by rw [← HR.out]; exact refOk_sound (fun c hc => (hcs c hc).1) (fun c hc => (hps c hc).1) hhf HE.out
        subst hRf
        have hKB : K = badOf N cs pf := by rw [← HK.out]; unfold badK; rw [if_neg (by rw [HE.out]; simp)]; simp
        have Hpart : Hid (∀ j : Nat, j ≤ 4000 → j ≤ (if K < 0 then n' else K.toNat) → holdsErr (N : Int) (pf.take j) m = 0 ∧ holdsOk (N : Int) (pf.take j) m = true) := by
          intro j hj1 hj2
          have h1 : holdsErr (N : Int) (pf.take j) m = 0 := by
            unfold holdsErr; rw [if_neg (by rw [ckClauses_take hck hN hj1]; simp), if_neg (by rw [hml]; simp)]
          refine ⟨h1, ?_⟩
          unfold holdsOk; rw [h1]
          have := bad_sound (m := m) (j := j) (fun c hc => (hcs c hc).1) (fun c hc => (hps c hc).1) hhf (by rw [← hKB, Hr'.out.len]; exact hj2)
          simpa using this
        have hn2 : n' ≤ 40000 := by rw [← Hr'.out.len]; exact hpl
        have hKr : K = -1 ∨ ∃ r : Nat, K = r ∧ r < n' := by
          rcases badFrom_sound (m := m) (fun c hc => (hcs c hc).1) (fun c hc => (hps c hc).1) hhf pf.length 0 (by omega) rfl with ⟨e, _⟩ | ⟨r, e, hr, _⟩
          · exact .inl (hKB.trans e)
          · exact .inr ⟨r, hKB.trans e, by rw [← Hr'.out.len]; exact hr⟩
        clear hcs hps hcl hpl hck hnoterr hml hhf hKB
        rcases hKr with hK1 | ⟨r, hK1, hr⟩
        · subst hK1
          have hlt : (if (-1 : Int) < 0 then n' else (-1 : Int).toNat) = n' := rfl
          have Hlt := Lib.hid hlt; clear hlt
          by_cases hj : n' ≤ 4000
          · have hj' : (n' : Int) ≤ 4000 := by omega
            have hif : (if (4000 : Int) < (n' : Int) then (4000 : Int) else (n' : Int)) = (n' : Int) := if_neg (by omega)
            have h0n : (0 : Int) ≤ (n' : Int) := by omega
            obtain ⟨hp1, hp2⟩ := Hpart.out n' (by omega) (by rw [Hlt.out]; exact Nat.le_refl _)
            have hcall := fun d => holds_any A' Am n' cap' nm cm (N : Int) (pf.take n') m (w4.drewN d) S (fun k hk => by have := hS k hk; have := Hb4.out.size; show k < w4.heap.size; omega) ((Hr'.out.below (below_drewN Hb4.out d) hS).take (by omega)) (Hm.out.below (below_drewN Hb4.out d) hS)
              ⟨by have := Hn'.out.1; omega, Hn'.out.2⟩ Hnm.out (by omega) (by omega)
            rw [hp1, hp2] at hcall
            have Hcall := Lib.hid hcall
            clear hcall hp1 hp2
            have hcap : (n' : Int) ≤ cap' := by have := Hn'.out.1; omega
            go_wp2_with fail
            go_region_held3 (fun w' => w'.cell? ⟨w.heap.size, 0, none⟩ = some (.int .i64 (N : Int)))
              (first
                | go_keep
                | (exact (hb5.cell (p := ⟨w.heap.size, 0, none⟩) (by show w.heap.size < _; simp; exact HW4.out.lt)).trans hf0))
              (first | (go_at_call 21; refine (Hcall.out 1).mono ?_; rintro e w5 ⟨rfl, hb5⟩))
            have Hb5 : Hid (Below w.heap.size w w5) := (below_drewN Hb4.out 1).trans (hb5.mono (by simp; exact Hb4.out.size))
            clear hb5 hf0 hf1
            go_wp2_with fail
            go_ret
            exact ⟨rfl, Hb5.out⟩
          · have hj' : (4000 : Int) < (n' : Int) := by omega
            have hif : (if (4000 : Int) < (n' : Int) then (4000 : Int) else (n' : Int)) = 4000 := if_pos hj'
            obtain ⟨hp1, hp2⟩ := Hpart.out 4000 (by omega) (by rw [Hlt.out]; omega)
            have hcall := fun d => holds_any A' Am 4000 cap' nm cm (N : Int) (pf.take 4000) m (w4.drewN d) S (fun k hk => by have := hS k hk; have := Hb4.out.size; show k < w4.heap.size; omega) ((Hr'.out.below (below_drewN Hb4.out d) hS).take (by omega)) (Hm.out.below (below_drewN Hb4.out d) hS)
              ⟨by have := Hn'.out.1; omega, Hn'.out.2⟩ Hnm.out (by omega) (by omega)
            rw [hp1, hp2] at hcall
            have Hcall := Lib.hid hcall
            clear hcall hp1 hp2
            have hcap : (4000 : Int) ≤ cap' := by have := Hn'.out.1; omega
            go_wp2_with fail
            go_region_held3 (fun w' => w'.cell? ⟨w.heap.size, 0, none⟩ = some (.int .i64 (N : Int)))
              (first
                | go_keep
                | (exact (hb5.cell (p := ⟨w.heap.size, 0, none⟩) (by show w.heap.size < _; simp; exact HW4.out.lt)).trans hf0))
              (first | (go_at_call 21; refine (Hcall.out 1).mono ?_; rintro e w5 ⟨rfl, hb5⟩))
            have Hb5 : Hid (Below w.heap.size w w5) := (below_drewN Hb4.out 1).trans (hb5.mono (by simp; exact Hb4.out.size))
            clear hb5 hf0 hf1
            go_wp2_with fail
            go_ret
            exact ⟨rfl, Hb5.out⟩
        · subst hK1
          have hlt : (if (r : Int) < 0 then n' else (r : Int).toNat) = r := by rw [if_neg (by omega)]; omega
          have Hlt := Lib.hid hlt; clear hlt
          by_cases hj : r ≤ 4000
          · have hj' : (r : Int) ≤ 4000 := by omega
            have hif : (if (4000 : Int) < (r : Int) then (4000 : Int) else (r : Int)) = (r : Int) := if_neg (by omega)
            have h0n : (0 : Int) ≤ (r : Int) := by omega
            obtain ⟨hp1, hp2⟩ := Hpart.out r (by omega) (by rw [Hlt.out]; exact Nat.le_refl _)
            have hcall := fun d => holds_any A' Am r cap' nm cm (N : Int) (pf.take r) m (w4.drewN d) S (fun k hk => by have := hS k hk; have := Hb4.out.size; show k < w4.heap.size; omega) ((Hr'.out.below (below_drewN Hb4.out d) hS).take (by omega)) (Hm.out.below (below_drewN Hb4.out d) hS)
              ⟨by have := Hn'.out.1; omega, Hn'.out.2⟩ Hnm.out (by omega) (by omega)
            rw [hp1, hp2] at hcall
            have Hcall := Lib.hid hcall
            clear hcall hp1 hp2
            have hcap : (r : Int) ≤ cap' := by have := Hn'.out.1; omega
            go_wp2_with fail
            go_region_held3 (fun w' => w'.cell? ⟨w.heap.size, 0, none⟩ = some (.int .i64 (N : Int)))
              (first
                | go_keep
                | (exact (hb5.cell (p := ⟨w.heap.size, 0, none⟩) (by show w.heap.size < _; simp; exact HW4.out.lt)).trans hf0))
              (first | (go_at_call 21; refine (Hcall.out 1).mono ?_; rintro e w5 ⟨rfl, hb5⟩))
            have Hb5 : Hid (Below w.heap.size w w5) := (below_drewN Hb4.out 1).trans (hb5.mono (by simp; exact Hb4.out.size))
            clear hb5 hf0 hf1
            go_wp2_with fail
            go_ret
            exact ⟨rfl, Hb5.out⟩
          · have hj' : (4000 : Int) < (r : Int) := by omega
            have hif : (if (4000 : Int) < (r : Int) then (4000 : Int) else (r : Int)) = 4000 := if_pos hj'
            obtain ⟨hp1, hp2⟩ := Hpart.out 4000 (by omega) (by rw [Hlt.out]; omega)
            have hcall := fun d => holds_any A' Am 4000 cap' nm cm (N : Int) (pf.take 4000) m (w4.drewN d) S (fun k hk => by have := hS k hk; have := Hb4.out.size; show k < w4.heap.size; omega) ((Hr'.out.below (below_drewN Hb4.out d) hS).take (by omega)) (Hm.out.below (below_drewN Hb4.out d) hS)
              ⟨by have := Hn'.out.1; omega, Hn'.out.2⟩ Hnm.out (by omega) (by omega)
            rw [hp1, hp2] at hcall
            have Hcall := Lib.hid hcall
            clear hcall hp1 hp2
            have hcap : (4000 : Int) ≤ cap' := by have := Hn'.out.1; omega
            go_wp2_with fail
            go_region_held3 (fun w' => w'.cell? ⟨w.heap.size, 0, none⟩ = some (.int .i64 (N : Int)))
              (first
                | go_keep
                | (exact (hb5.cell (p := ⟨w.heap.size, 0, none⟩) (by show w.heap.size < _; simp; exact HW4.out.lt)).trans hf0))
              (first | (go_at_call 21; refine (Hcall.out 1).mono ?_; rintro e w5 ⟨rfl, hb5⟩))
            have Hb5 : Hid (Below w.heap.size w w5) := (below_drewN Hb4.out 1).trans (hb5.mono (by simp; exact Hb4.out.size))
            clear hb5 hf0 hf1
            go_wp2_with fail
            go_ret
            exact ⟨rfl, Hb5.out⟩
    · have hE1 : (E != 0) = true := by simpa using hE0
      clear hE0
      subst hQ0
      go_wp2_with fail
      refine (refuted_any _).mono ?_
      rintro e w5 ⟨rfl, hb5⟩
      go_wp2_with fail
      go_ret
      exact ⟨rfl, Hb4.out.trans (hb5.mono Hb4.out.size)⟩
  · have hQ1 : (Q != 0) = true := by simpa using hQ0
    clear hQ0
    go_wp2_with fail
    refine (refuted_any _).mono ?_
    rintro e w5 ⟨rfl, hb5⟩
    go_wp2_with fail
    go_ret
    exact ⟨rfl, Hb4.out.trans (hb5.mono Hb4.out.size)⟩
end Go.Proofs.Ytpkbncfnkgofmaa
