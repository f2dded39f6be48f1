/- Walk: cnf.Holds. -/
import Derived.Test.YtpkbncfnkgofmaaW15
namespace Go.Proofs.Ytpkbncfnkgofmaa
open Go.RowKit
theorem callFunc48 (args : Array Value) (W : World) : (callFunc 48 args).run Try.prog W = .ok (.enter 48 args) W := by kernel_rfl
theorem all_no {m : List Bool} {cs : List (List Int)} {k : Nat} {c : List Int} (hk : k < cs.length) (hc : cs.getD k [] = c) (h : c.any (Qm.litHolds m) = false) : Qm.holdsF m cs = false := by
  unfold Qm.holdsF
  rw [List.all_eq_false]
  rw [List.getD_eq_getElem?_getD, List.getElem?_eq_getElem hk, Option.getD_some] at hc
  exact ⟨c, by rw [← hc]; exact List.getElem_mem hk, by rw [h]; simp⟩
theorem all_yes {m : List Bool} {cs : List (List Int)} {k : Nat} (hk : k = cs.length) (h : (cs.take k).all (fun c => c.any (Qm.litHolds m)) = true) : Qm.holdsF m cs = true := by
  rw [hk, List.take_length] at h; exact h
theorem all_next {m : List Bool} {cs : List (List Int)} {k : Nat} {c : List Int} (hk : k < cs.length) (hc : cs.getD k [] = c) (h : c.any (Qm.litHolds m) = true) (h1 : (cs.take k).all (fun c => c.any (Qm.litHolds m)) = true) : (cs.take (k+1)).all (fun c => c.any (Qm.litHolds m)) = true := by
  rw [List.getD_eq_getElem?_getD, List.getElem?_eq_getElem hk, Option.getD_some] at hc
  rw [List.take_succ_eq_append_getElem hk, List.all_append, h1, hc]; simp; exact List.any_eq_true.1 h

set_option maxHeartbeats 2000000 in
theorem holds_any (A Am : Option Addr) (n cap nm cm : Nat) (vars : Int) (cs : List (List Int)) (m : List Bool) (w : World) (S : Nat → Prop) (hS : ∀ k, S k → k < w.heap.size)
    (hr : RClauses w S A n cs) (hm : RBools w S Am nm m) (hn : n ≤ cap ∧ cap ≤ maxLen) (hnm : nm ≤ maxLen) (hv : -9223372036854775808 ≤ vars) (hv' : vars ≤ 9223372036854775807) :
    Calls Try.prog 21 #[.agg #[.int .i64 vars, .slice A n cap], .slice Am nm cm] w fun e w' => e = .returned (.tuple #[.bool (holdsOk vars cs m), .int .i64 (holdsErr vars cs m)]) ∧ Below w.heap.size w w' := by
  have Hr := Lib.hid hr; have Hm := Lib.hid hm; have Hn := Lib.hid hn
  clear hr hm hn
  unfold maxLen at hnm
  have hb0 : Below w.heap.size w ((w.alloc (.cells #[.int .i64 vars, .slice A n cap] 29)).alloc (.cells #[.slice Am nm cm] 39)) := ((Below.refl _ _).alloc (Nat.le_refl _) _).alloc (by simp) _
  have hck := checkFormula_any A n cap cs vars _ S (Hr.out.below hb0 hS) (fun k hk => by have := hS k hk; simp; omega) (Nat.le_trans Hn.out.1 Hn.out.2) hv hv'
  generalize he : ckFormula vars cs = E at hck
  have He := Lib.hid he; clear he
  have Hck := Lib.hid hck; have Hb0 := Lib.hid hb0
  clear hck hb0
  go_enter Try.func21, Try.ntmps21
  go_wp2_with fail
  refine Hck.out.mono ?_
  rintro e w1 ⟨rfl, hb1⟩
  have hW1 : Whole w1 w.heap.size 29 [.int .i64 vars, .slice A n cap] := Whole.below (Whole.alloc (Whole.new w _ _ _ rfl) _) hb1 (by simp; omega)
  have hM1 : Whole w1 (w.heap.size + 1) 39 [.slice Am nm cm] := Whole.below (Whole.new _ _ _ _ (by simp)) hb1 (by simp)
  have Hb1 := Lib.hid (Hb0.out.trans (hb1.mono (by simp; omega)))
  clear hb1
  have hf0 := hW1.cell 0
  have hf1 := hW1.cell 1
  have hm0 := hM1.cell 0
  simp only [List.getElem?_cons_zero, List.getElem?_cons_succ] at hf0 hf1 hm0
  clear hW1 hM1
  by_cases hE : E = 0
  · subst hE
    have hml := Hm.out.len
    by_cases hl : (nm : Int) = vars
    · subst hl
      obtain ⟨N, hNv, hN, hcl, hcs⟩ := ckFormula_ok He.out
      obtain rfl : N = nm := by omega
      have HE : Hid (holdsErr (N : Int) cs m = 0) := by show _ = _; unfold holdsErr; rw [if_neg (by rw [He.out]; simp), if_neg (by rw [hml]; simp)]
      have HO : Hid (holdsOk (N : Int) cs m = Qm.holdsF m cs) := by show _ = _; unfold holdsOk; rw [HE.out]; simp
      have Hcs := Lib.hid hcs; clear hcs hml hNv
      have hne : ((N : Int) != (N : Int)) = false := by simp
      have hn2 : n ≤ 4000 := by rw [← Hr.out.len]; exact hcl
      go_wp2_with fail
      go_loopg [22] n (fun g i wr => ∃ (k d : Nat), Hid (k + g = n) ∧ i = .int .i64 k ∧ wr = w1.drewN d ∧ Hid ((cs.take k).all (fun c => c.any (Qm.litHolds m)) = true))
      case atStart => exact ⟨0, 0, Nat.zero_add _, rfl, rfl, rfl⟩
      case round =>
        obtain ⟨k, d, Hk, rfl, rfl, Hall⟩ := hrel
        by_cases hk : k < n
        · obtain ⟨bp, op, A2, n2, c2, rfl, hbp, hcell, hc, hnc, hcm⟩ := (Hr.out.below Hb1.out hS).at_ hk
          have hlc : k < cs.length := by rw [Hr.out.len]; exact hk
          have hmem := Hcs.out _ (getD_mem (l := cs) (k := k) (d := []) hlc)
          generalize hcd : cs.getD k [] = c at hc hmem
          have Hcd := Lib.hid hcd; have Hlc := Lib.hid hlc; clear hcd hlc
          have hcall := containsFuncC_any A2 n2 c2 c 48 #[.pointer (some ⟨w.heap.size + 1, 0, none⟩)] (Qm.litHolds m) (w1.drewN d) S hc (Nat.le_trans hnc hcm)
            ⟨callFunc48, fun x hx d' => by
              have := holdsLit_any x (w.heap.size + 1) Am N cm m ((w1.drewN d).drewN d') S hm0 (Hm.out.below (below_drewN (below_drewN Hb1.out d) d') hS) (hmem.1 x hx) hN
              exact this.mono fun e w' ⟨h1, q, h2⟩ => ⟨h1, d' + q, by rw [h2, World.drewN_drewN]⟩⟩
          generalize hb : c.any (Qm.litHolds m) = bb at hcall
          have Hb := Lib.hid hb
          have Hcall := Lib.hid hcall
          clear hcall hb hc hmem
          cases bb
          · go_wp2_with fail
            refine Hcall.out.mono ?_
            rintro e w' ⟨rfl, q, rfl⟩
            go_wp2_with fail
            go_ret2
            exact ⟨ret2_bi (by rw [HO.out, all_no Hlc.out Hcd.out Hb.out]) HE.out.symm, below_drewN Hb1.out _⟩
          · go_wp2_with fail
            refine Hcall.out.mono ?_
            rintro e w' ⟨rfl, q, rfl⟩
            go_wp2_with fail
            go_roundg (gk - 1)
            case measure => have := Hk.out; omega
            case rel => exact ⟨k + 1, d + q, by have := Hk.out; show _ = _; omega, by go_num, by first | rfl | exact World.drewN_drewN _ _ _, all_next Hlc.out Hcd.out Hb.out Hall.out⟩
        · go_wp2_with fail
          go_ret2
          exact ⟨ret2_bi (by rw [HO.out, all_yes (by rw [Hr.out.len]; have := Hk.out; omega) Hall.out]) HE.out.symm, below_drewN Hb1.out _⟩
    · have hl' : ((nm : Int) != vars) = true := by simpa using hl
      have HE : Hid (holdsErr vars cs m = 4) := by show _ = _; unfold holdsErr; rw [if_neg (by rw [He.out]; simp), if_pos (by rw [hml]; exact hl)]
      have HO : Hid (holdsOk vars cs m = false) := by show _ = _; unfold holdsOk; rw [HE.out]; simp
      clear hl hml
      go_wp2_with fail
      go_ret2
      exact ⟨ret2_bi HO.out.symm HE.out.symm, Hb1.out⟩
  · have hE' : (E != 0) = true := by simpa using hE
    have HE : Hid (holdsErr vars cs m = E) := by show _ = _; unfold holdsErr; rw [if_pos (by rw [He.out]; exact hE), He.out]
    have HO : Hid (holdsOk vars cs m = false) := by show _ = _; unfold holdsOk; rw [HE.out]; simp [hE]
    clear hE
    go_wp2_with fail
    go_ret2
    exact ⟨ret2_bi HO.out.symm HE.out.symm, Hb1.out⟩
end Go.Proofs.Ytpkbncfnkgofmaa
