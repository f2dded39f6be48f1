/- The walk of RupMore. -/
import Derived.Test.YtpkbncfnkgofmaaW28
import Derived.Test.YtpkbncfnkgofmaaW13
import Derived.Test.YtpkbncfnkgofmaaW11
import Derived.Test.YtpkbncfnkgofmaaPlain9
import Derived.Deep.RegionHeld3
namespace Go.Proofs.Ytpkbncfnkgofmaa
open Go.RowKit
set_option maxHeartbeats 8000000 in
theorem rupMore_any (A A' A2 : Option Addr) (n cap n' cap' n2 cap2 : Nat) (vars : Int) (cs pf : List (List Int)) (c : List Int) (w : World) (S : Nat → Prop) (hS : ∀ k, S k → k < w.heap.size)
    (hr : RClauses w S A n cs) (hr' : RClauses w S A' n' pf) (hr2 : RInts w S A2 n2 c) (hn : n ≤ cap ∧ cap ≤ maxLen) (hn' : n' ≤ cap' ∧ cap' ≤ maxLen) (hn2 : n2 ≤ cap2 ∧ cap2 ≤ maxLen) (hz : n * 24 ≤ 140737488351232)
    (hv : -9223372036854775808 ≤ vars) (hv' : vars ≤ 9223372036854775807) :
    Calls Try.prog 7 #[.agg #[.int .i64 vars, .slice A n cap], .slice A' n' cap', .slice A2 n2 cap2] w fun e w' => e = .returned (.bool true) ∧ Below w.heap.size w w' := by
  have Hr := Lib.hid hr; have Hr2 := Lib.hid hr2; have Hr' := Lib.hid hr'; have Hn := Lib.hid hn; have Hn2 := Lib.hid hn2; have Hn' := Lib.hid hn'
  clear hr hr2 hr' hn hn2 hn'
  obtain ⟨i0, hi, hz0, hz1, hz2⟩ := info_parts clause_info
  have Hi := Lib.hid hi; have Hz0 := Lib.hid hz0; have Hz1 := Lib.hid hz1; have Hz2 := Lib.hid hz2
  clear hi hz0 hz1 hz2
  obtain ⟨hs, hrow, hheads⟩ := Hr.out.open_
  have Hrow := Lib.hid hrow; have Hheads := Lib.hid hheads; clear hrow hheads
  go_enter Try.func7, Try.ntmps7
  go_wp2_with fail
  have hb0 : Below w.heap.size w (w.alloc (.cells #[.int .i64 vars, .slice A n cap] 29)) := (Below.refl _ _).alloc (Nat.le_refl _) _
  refine (refutes_any A A' n cap n' cap' vars cs pf _ S (fun k hk => by have := hS k hk; simp; omega) (Hr.out.below hb0 hS) (Hr'.out.below hb0 hS) Hn.out Hn'.out hv hv').mono ?_
  generalize hK : refOk vars cs pf = K
  generalize hE : badErr vars cs pf = E
  have HK := Lib.hid hK; have HE := Lib.hid hE; clear hK hE
  rintro e w1 ⟨rfl, hb1⟩
  have Hb1 := Lib.hid (hb0.trans (hb1.mono hb0.size))
  have hW1 : Whole w1 w.heap.size 29 [.int .i64 vars, .slice A n cap] := Whole.below (Whole.new w _ _ _ rfl) hb1 (by simp)
  have HW1 := Lib.hid hW1
  have hf0 := hW1.cell 0
  have hf1 := hW1.cell 1
  simp only [List.getElem?_cons_zero, List.getElem?_cons_succ] at hf0 hf1
  have hlt1 : w.heap.size < w1.heap.size := hW1.lt
  clear hb0 hb1 hW1
  go_wp2_with fail
  have hbg : Below w1.heap.size w1 (w1.alloc (.cells #[.int .i64 vars, .slice A n cap] 29)) := (Below.refl _ _).alloc (Nat.le_refl _) _
  refine (cloneClauses_any A n cap (hs.map hd) _ S ((Hrow.out.below Hb1.out hS).below hbg (fun k hk => by have := hS k hk; omega)) (hd_one hs) (fun k hk => by have := hS k hk; simp; omega) (by omega)).mono ?_
  rintro e w2 ⟨A3, c3, rfl, hn3, hc3, hown, hb2⟩
  have hG2 : Whole w2 w1.heap.size 29 [.int .i64 vars, .slice A n cap] := Whole.below (Whole.new w1 _ _ _ rfl) hb2 (by simp)
  have Hb12 : Hid (Below w1.heap.size w1 w2) := hbg.trans (hb2.mono hbg.size)
  have hlt2 : w1.heap.size < w2.heap.size := hG2.lt
  have HG2 := Lib.hid hG2
  have Hown := Lib.hid hown
  clear hf0 hf1 hbg hb2 hG2 hown
  go_wp2_with (at_builtin; refine wpList_append_own _ rfl _ _ 27 rfl (w1.heap.size + 1) 37 i0 (.slice none 0 0) 1 24 Try.underlying27 Hi.out Hz0.out Hz1.out Hz2.out rfl (by decide) _ _ _ rfl ((by simpa using Hown.out : w2.ownsRow (w1.heap.size + 1) 37 1 (.slice A3 n c3) n (hs.map hd)).alloc _) ⟨w2.heap.size, 0, none⟩ 1 1 [.slice A2 n2 cap2] rfl rfl ?c1 ?c2 ?c3 ?c4 ?c5 ?_)
  case c1 => exact cell_one_new _ _ _
  case c2 => simp [Value.oneCell']
  case c3 => unfold maxLen; omega
  case c4 => omega
  case c5 => simp; omega
  intro v3 w3 hown3 hg3 _
  obtain ⟨A4, c4, rfl, hn4, hc4, hrow4⟩ := own_form hown3
  have hb23 : Below (w1.heap.size + 1) w2 w3 := ((Below.refl _ _).alloc (by omega) _).trans (below_of_grown hg3 (by simp; omega) (fun k e => by
    have h := (by simpa using Hown.out : w2.ownsRow (w1.heap.size + 1) 37 1 (.slice A3 n c3) n (hs.map hd)).lt k e
    exact h.1))
  have hG3 := HG2.out.below hb23 (by omega)
  have hlt3 : w1.heap.size < w3.heap.size := hG3.lt
  have hg30 := hG3.cell 0
  have hg31 := hG3.cell 1
  have hgf := hG3.free 1
  simp only [List.getElem?_cons_zero, List.getElem?_cons_succ] at hg30 hg31
  have hG4 := hG3.set_ 1 (.slice A4 (n + 1) c4)
  simp only [List.set_cons_succ, List.set_cons_zero] at hG4
  have HG4 := Lib.hid hG4
  have Hb23 := Lib.hid hb23; have Hrow4 := Lib.hid hrow4; have Hn4 : Hid (n + 1 ≤ c4 ∧ c4 ≤ maxLen) := ⟨hn4, hc4⟩
  have Hin : Hid (Heads w3 S hs cs) := ((Hheads.out.below Hb1.out hS).below Hb12.out (fun k hk => by have := hS k hk; omega)).below hb23 (fun k hk => by have := hS k hk; omega)
  have Hin2 : Hid (RInts w3 S A2 n2 c) := ((Hr2.out.below Hb1.out hS).below Hb12.out (fun k hk => by have := hS k hk; omega)).below hb23 (fun k hk => by have := hS k hk; omega)
  have Hb4 : Hid (Below w.heap.size w (w3.setCell ⟨w1.heap.size, 1, none⟩ (.slice A4 (n + 1) c4))) := ((Hb1.out.trans (Hb12.out.mono (by omega))).trans (hb23.mono (by omega))).setCell (by show _ ≤ w1.heap.size; omega) _
  have Hrc4 : Hid (RClauses (w3.setCell ⟨w1.heap.size, 1, none⟩ (.slice A4 (n + 1) c4)) (fun k => k < w3.heap.size ∧ k ≠ w1.heap.size) A4 (n + 1) (cs ++ [c])) := by
    have hk : ∀ p : Addr, (p.block < w3.heap.size ∧ p.block ≠ w1.heap.size) → (w3.setCell ⟨w1.heap.size, 1, none⟩ (.slice A4 (n + 1) c4)).cell? p = w3.cell? p := fun p hp => World.cell?_of_block (heap_setCell_other w3 ⟨w1.heap.size, 1, none⟩ p.block _ (by simpa using hp.2))
    refine RClauses.of_ (hs := hs ++ [(A2, n2, cap2)]) ?_ ?_
    · rw [List.map_append]
      exact (Row.more (Hrow4.out) (fun k hk => ⟨hk.2, by omega⟩)).keep (S := fun k => k < w3.heap.size ∧ k ≠ w1.heap.size) hk
    · exact ((Hin.out.more (fun k hk => by have := hS k hk; omega)).keep (S := fun k => k < w3.heap.size ∧ k ≠ w1.heap.size) hk).append ((Heads.one (Hin2.out.more (fun k hk => by have := hS k hk; omega)) Hn2.out).keep (S := fun k => k < w3.heap.size ∧ k ≠ w1.heap.size) hk)
  have HFo : Hid (Whole (w3.setCell ⟨w1.heap.size, 1, none⟩ (.slice A4 (n + 1) c4)) w.heap.size 29 [.int .i64 vars, .slice A n cap]) := Whole.far ((HW1.out.below Hb12.out hlt1).below hb23 (by omega)) (by show w.heap.size ≠ w1.heap.size; omega) _
  clear hown3 hg3 hrow4 hb23 hG3 hG4 hn4 hc4
  go_wp2_with fail
  have hz4 : (w3.setCell ⟨w1.heap.size, 1, none⟩ (.slice A4 (n + 1) c4)).heap.size = w3.heap.size := by simp [World.setCell]
  generalize hw4 : w3.setCell ⟨w1.heap.size, 1, none⟩ (.slice A4 (n + 1) c4) = w4 at HG4 Hb4 Hrc4 HFo hz4 ⊢
  have Hz4 := Lib.hid hz4
  clear hw4 hg30 hg31 hz4 hgf
  have hg40 := HG4.out.cell 0
  have hg41 := HG4.out.cell 1
  simp only [List.getElem?_cons_zero, List.getElem?_cons_succ] at hg40 hg41
  have HW4 : Hid (Whole w4 w.heap.size 29 [.int .i64 vars, .slice A n cap]) := HFo.out
  go_wp2_with fail
  refine (refutes_any A4 A' (n + 1) c4 n' cap' vars (cs ++ [c]) pf w4 (fun k => k < w4.heap.size) (fun k hk => hk) (Hrc4.out.more (fun k hk => by rw [Hz4.out]; exact hk.1)) ((Hr'.out.below Hb4.out hS).more (fun k hk => by have := hS k hk; have := Hb4.out.size; omega)) Hn4.out Hn'.out hv hv').mono ?_
  generalize hM : refOk vars (cs ++ [c]) pf = M
  generalize hH : badErr vars (cs ++ [c]) pf = Q
  have HM := Lib.hid hM; have HQ := Lib.hid hH; clear hM hH
  rintro e w5 ⟨rfl, hb5⟩
  have Hb5 : Hid (Below w.heap.size w w5) := Hb4.out.trans (hb5.mono Hb4.out.size)
  have HW5 := Lib.hid (HW4.out.below hb5 HW4.out.lt)
  clear hb5 hg40 hg41
  go_wp2_with fail
  refine (refuted_any _).mono ?_
  rintro e w6 ⟨rfl, hb6⟩
  have Hb6 : Hid (Below w.heap.size w w6) := Hb5.out.trans (hb6.mono Hb5.out.size)
  have HW6 := Lib.hid (HW5.out.below hb6 HW5.out.lt)
  clear hb6
  by_cases hE0 : E = 0
  · by_cases hQ0 : Q = 0
    · subst hE0 hQ0
      have hKM : K = true → M = true := fun h => by rw [← HM.out]; exact rupMore_more HE.out HQ.out (HK.out.trans h)
      have hck := (badErr_ok HE.out)
      obtain ⟨N, rfl, hN, hcl, hpl, _, _, hf, hp⟩ := hck
      obtain ⟨hs1, hs2⟩ := rupMore_self hf
      have hlong := rupMore_long HE.out
      have hn1 : n ≤ 4000 := by rw [← Hr.out.len]; exact hcl
      have hn3 : n' ≤ 40000 := by rw [← Hr'.out.len]; exact hpl
      have Hlong := Lib.hid hlong; have HKM := Lib.hid hKM
      have hf0 := HW6.out.cell 0
      have hf1 := HW6.out.cell 1
      simp only [List.getElem?_cons_zero, List.getElem?_cons_succ] at hf0 hf1
      have hbad := bad_any A A n cap n cap (N : Int) cs cs w6 S (fun k hk => by have := hS k hk; have := Hb6.out.size; omega) (Hr.out.below Hb6.out hS) (Hr.out.below Hb6.out hS) Hn.out Hn.out hv hv'
      rw [hs1, hs2] at hbad
      have Hbad := Lib.hid hbad
      clear hlong hKM hs1 hs2 hbad hf hp hcl hpl
      have hcase : (K = true ∧ M = true) ∨ K = false := by cases hk : K; exact .inr rfl; exact .inl ⟨rfl, HKM.out hk⟩
      rcases hcase with ⟨rfl, rfl⟩ | rfl
      all_goals
        go_wp2_with fail
        refine Hbad.out.mono ?_
        rintro e w7 ⟨rfl, hb7⟩
        have Hb7 : Hid (Below w.heap.size w w7) := Hb6.out.trans (hb7.mono Hb6.out.size)
        have HW7 := Lib.hid (HW6.out.below hb7 HW6.out.lt)
        clear hb7 hf0 hf1
        have hf0 := HW7.out.cell 0
        have hf1 := HW7.out.cell 1
        have hlt7 : w.heap.size < w7.heap.size := HW7.out.lt
        simp only [List.getElem?_cons_zero, List.getElem?_cons_succ] at hf0 hf1
        go_wp2_with fail
        obtain ⟨hs', hrow', hheads'⟩ := Hr'.out.open_
        have Hcc : Hid (∀ W, Below w7.heap.size w7 W → Whole W w7.heap.size 27 [.slice A n cap, .slice A' n' cap'] → Calls Try.prog 32 #[.slice (some ⟨w7.heap.size, 0, none⟩) 2 2] W (fun e w8 => ∃ A8 c8, e = .returned (.slice A8 (n + n') c8) ∧ n + n' ≤ c8 ∧ c8 ≤ maxLen ∧ RClauses w8 (fun k => k < w8.heap.size) A8 (n + n') (cs ++ pf) ∧ Below w7.heap.size w7 w8)) := by
          intro W hW hX
          have hbW := Hb7.out.trans (hW.mono Hb7.out.size)
          refine (concat2_any w7.heap.size _ A A' n cap n' cap' (hs.map hd) (hs'.map hd) W S (fun k hk => by have := hS k hk; have := hbW.size; omega) hX (Hrow.out.below hbW hS) (hrow'.below hbW hS) (hd_one _) (hd_one _) (by omega)).mono ?_
          rintro e w8 ⟨A8, c8, rfl, h1, h2, h3, h4⟩
          obtain ⟨_, _, he, _, _, hr8⟩ := own_form h3
          injection he with he1 he2 he3
          subst he1
          refine ⟨A8, c8, rfl, h1, h2, ?_, hW.trans (h4.mono hW.size)⟩
          refine RClauses.of_ (hs := hs ++ hs') (by rw [List.map_append]; exact Row.more hr8 (fun k hk => hk.2)) ?_
          exact (((Hheads.out.below hbW hS).below h4 (fun k hk => by have := hS k hk; have := hbW.size; omega)).more (fun k hk => by have := hS k hk; have := hbW.size; have := h4.size; omega)).append (((hheads'.below hbW hS).below h4 (fun k hk => by have := hS k hk; have := hbW.size; omega)).more (fun k hk => by have := hS k hk; have := hbW.size; have := h4.size; omega))
        have Hrf := Lib.hid (fun A8 c8 w8 (h1 : n + n' ≤ c8 ∧ c8 ≤ maxLen) (hrc : RClauses w8 (fun k => k < w8.heap.size) A8 (n + n') (cs ++ pf)) (hb : Below w7.heap.size w7 w8) => refutes_any A A8 n cap (n + n') c8 (N : Int) cs (cs ++ pf) w8 (fun k => k < w8.heap.size) (fun k hk => hk) ((Hr.out.below (Hb7.out.trans (hb.mono Hb7.out.size)) hS).more (fun k hk => by have := hS k hk; have := Hb7.out.size; have := hb.size; omega)) hrc Hn.out h1 hv hv')
        clear hrow' hheads'
        go_region_held3 (fun w' => w'.cell? ⟨w.heap.size, 0, none⟩ = some (.int .i64 (N : Int)) ∧ w'.cell? ⟨w.heap.size, 1, none⟩ = some (.slice A n cap))
          (first | go_keep)
          (first
            | (go_at_call 32
               refine (Hcc.out _ (below_drewN ((Below.refl _ _).alloc (Nat.le_refl _) _) 1) ((Whole.new w7 _ _ _ rfl).drewN 1)).mono ?_
               rintro e w8 ⟨A8, c8, rfl, hc8, hc8', hr8, hb8⟩
               have hk80 := (hb8.cell (p := ⟨w.heap.size, 0, none⟩) hlt7).trans hf0
               have hk81 := (hb8.cell (p := ⟨w.heap.size, 1, none⟩) hlt7).trans hf1)
            | (go_at_call 15
               refine (Hrf.out A8 c8 w8 ⟨hc8, hc8'⟩ hr8 hb8).mono ?_
               rintro e w9 ⟨rfl, hb9⟩
               have hk90 := (hb9.cell (p := ⟨w.heap.size, 0, none⟩) (Nat.lt_of_lt_of_le hlt7 hb8.size)).trans hk80
               have hk91 := (hb9.cell (p := ⟨w.heap.size, 1, none⟩) (Nat.lt_of_lt_of_le hlt7 hb8.size)).trans hk81))
        have Hb9 : Hid (Below w.heap.size w w9) := (Hb7.out.trans (hb8.mono Hb7.out.size)).trans (hb9.mono (Nat.le_trans Hb7.out.size hb8.size))
        clear hb8 hb9 hk80 hk81 hk90 hk91 hf0 hf1 hr8
        rcases Hlong.out with h2 | ⟨h2, h3⟩
        · rw [h2]
          have H2 := Lib.hid h2; clear h2
          go_wp2_with fail
          go_ret
          exact ⟨rfl, Hb9.out⟩
        · rw [h2]
          have H2 := Lib.hid h2; have H3 := Lib.hid h3; clear h2 h3
          first
            | (have h4 := H3.out HK.out
               rw [h4]
               have H4 := Lib.hid h4; clear h4
               go_wp2_with fail
               go_ret
               exact ⟨rfl, Hb9.out⟩)
            | (go_wp2_with fail
               go_ret
               exact ⟨rfl, Hb9.out⟩)
    · have hQ1 : (Q != 0) = true := by simpa using hQ0
      clear hQ0
      subst hE0
      go_wp2_with fail
      refine (refuted_any _).mono ?_
      rintro e w7 ⟨rfl, hb7⟩
      go_wp2_with fail
      go_ret
      exact ⟨rfl, Hb6.out.trans (hb7.mono Hb6.out.size)⟩
  · have hE1 : (E != 0) = true := by simpa using hE0
    clear hE0
    go_wp2_with fail
    refine (refuted_any _).mono ?_
    rintro e w7 ⟨rfl, hb7⟩
    go_wp2_with fail
    go_ret
    exact ⟨rfl, Hb6.out.trans (hb7.mono Hb6.out.size)⟩
end Go.Proofs.Ytpkbncfnkgofmaa
