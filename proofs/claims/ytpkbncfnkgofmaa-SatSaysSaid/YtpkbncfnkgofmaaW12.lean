/- Walk: the document's BadOf. -/
import Derived.Test.YtpkbncfnkgofmaaW8
import Derived.Test.YtpkbncfnkgofmaaW10
import Derived.Deep.RegionHeld3
namespace Go.Proofs.Ytpkbncfnkgofmaa
open Go.RowKit
theorem isNone_no {α : Type} {o : Option α} (h : o.isSome = true) : o.isNone = false := by cases o <;> simp_all
theorem isNone_yes {α : Type} {o : Option α} (h : o.isSome = false) : o.isNone = true := by cases o <;> simp_all
theorem vset_same {N : Nat} {v : List Int} (hv : Qm.Fine N v) {n : Int} (hn : Qm.IsLit N n) (h : Qm.vof v n = 1) : Qm.vset v n = v := by
  have hl := hv.1
  have key : ∀ (k : Nat) (x : Int), k < v.length → v.getD k 0 = x → v.set k x = v := by
    intro k x hk hx
    rw [List.getD_eq_getElem?_getD, List.getElem?_eq_getElem hk, Option.getD_some] at hx
    subst hx; exact List.set_getElem_self hk
  unfold Qm.vof at h
  unfold Qm.vset
  have := hn.1; have := hn.2
  by_cases h0 : n < 0
  · rw [if_pos h0] at h ⊢; exact key _ _ (by omega) (by omega)
  · rw [if_neg h0] at h ⊢; exact key _ _ (by omega) h
theorem RelK.set {N : Nat} {v : List Int} {K : Int → Bool} {m : Nat} (h : RelK N v K m) (hf : Qm.Fine N v) {n : Int} (hn : Qm.IsLit N n) (hc : Qm.vof v n ≠ -1) : RelK N (Qm.vset v n) (fun y => y == n || K y) (if K n then m else m + 1) := by
  have hkn := h.1 n hn
  rcases Qm.vof_range hf n with h0 | h0 | h0
  · refine ⟨fun y hy => ?_, ?_⟩
    · show (y == n || K y) = _
      rw [Qm.vof_vset hf hn y hy.1, h.1 y hy]
      by_cases h1 : y = n
      · subst h1; simp
      · by_cases h2 : y = -n
        · subst h2; rw [Qm.vof_neg v n hn.1, h0]; simp [h1]
        · simp [h1, h2]
    · have := Qm.zeros_vset hf hn h0
      have := h.2
      have hk : K n = false := by rw [hkn, h0]; rfl
      rw [hk]; simp; omega
  · rw [vset_same hf hn h0]
    have hk : K n = true := by rw [hkn, h0]; rfl
    rw [hk]
    refine ⟨fun y hy => ?_, by simpa using h.2⟩
    show (y == n || K y) = _
    rw [h.1 y hy]
    by_cases h1 : y = n
    · subst h1; rw [h0]; simp
    · simp [h1]
  · exact absurd h0 hc
theorem relK_zero (N : Nat) : RelK N (Qm.zeroVals N) (fun _ => false) 0 := by
  refine ⟨fun x _ => ?_, by rw [Qm.zeros_zeroVals]; omega⟩
  have hz : ∀ k, (Qm.zeroVals N).getD k 0 = 0 := by
    intro k; rw [List.getD_eq_getElem?_getD, Qm.zeroVals, List.getElem?_replicate]; split <;> rfl
  unfold Qm.vof
  rw [hz, hz]
  split <;> rfl
/-- so many of some literals are assumed: agree or not -/
def Agree (N : Nat) (ls : List Int) (wr : World) (bk r : Nat) (ag : Bool) : Prop :=
  ∃ (K : Int → Bool) (m : Nat), IntSet Try.prog wr bk K m ∧ m ≤ r ∧
    if ag then ∃ vc, RelK N vc K m ∧ Qm.Fine N vc ∧ (ls.take r).foldl Qm.assume1 (some (Qm.zeroVals N)) = some vc else (ls.take r).foldl Qm.assume1 (some (Qm.zeroVals N)) = none

set_option maxHeartbeats 2000000 in
theorem rbad_any (A A' : Option Addr) (n cap n' cap' : Nat) (N : Nat) (cs pf : List (List Int)) (w : World) (S : Nat → Prop) (hS : ∀ k, S k → k < w.heap.size)
    (hr : RClauses w S A n cs) (hr' : RClauses w S A' n' pf) (hn : n ≤ cap ∧ cap ≤ maxLen) (hn' : n' ≤ cap' ∧ cap' ≤ maxLen) (hN : N ≤ 400) (hcs : ∀ c ∈ cs, Qm.IsCl N c) (hps : ∀ c ∈ pf, Qm.IsCl N c ∧ c.length ≤ 60) (hpl : pf.length ≤ 40000) :
    Calls Try.prog 20 #[.agg #[.int .i64 (N : Int), .slice A n cap], .slice A' n' cap'] w fun e w' => e = .returned (.int .i64 (badOf N cs pf)) ∧ Below w.heap.size w w' := by
  have Hr := Lib.hid hr; have Hr' := Lib.hid hr'; have Hn := Lib.hid hn; have Hn' := Lib.hid hn'
  have Hcs := Lib.hid hcs; have Hps := Lib.hid hps
  have hn2 : n' ≤ 40000 := by rw [← hr'.len]; exact hpl
  clear hr hr' hn hn' hcs hps
  have Hb0 : Hid (Below w.heap.size w (w.alloc (.cells #[.int .i64 (N : Int), .slice A n cap] 29))) := (Below.refl _ _).alloc (Nat.le_refl _) _
  have hmm := @run_makeMap Try.prog
  go_enter Try.func20, Try.ntmps20
  go_wp2_with fail
  go_loopg [13] n' (fun g i wr => ∃ (k : Nat), Hid (k + g = n') ∧ i = .int .i64 k ∧ BadRel N cs pf A n cap w wr k g)
  case atStart => exact ⟨0, Nat.zero_add _, rfl, Whole.new w _ _ _ rfl, Hb0.out, by rw [← Hr'.out.len]; rfl⟩
  case round =>
    obtain ⟨wr1, rfl⟩ : ∃ x : World, x = wr := ⟨_, rfl⟩
    obtain ⟨g1, rfl⟩ : ∃ x : Nat, x = gk := ⟨_, rfl⟩
    obtain ⟨k, Hk, rfl, H1⟩ := hrel
    by_cases hk : k < n'
    · obtain ⟨g, rfl⟩ : ∃ g, g1 = g + 1 := ⟨g1 - 1, by have := Hk.out; omega⟩
      obtain ⟨bp, op, A2, n2, c2, rfl, hbp, hcell, hc, hnc, hcm⟩ := (Hr'.out.below H1.2.1 hS).at_ hk
      unfold maxLen at hcm
      have Hpl := Lib.hid Hr'.out.len
      have hmem := Hps.out _ (getD_mem (l := pf) (k := k) (d := []) (by rw [Hpl.out]; exact hk))
      have Hcc : Hid (pf.getD k [] = pf.getD k []) := rfl
      generalize hcd : pf.getD k [] = c at hc hmem
      have Hcd := Lib.hid hcd; clear hcd Hcc
      have Hc := Lib.hid hc; have Hmem := Lib.hid hmem; clear hc hmem
      go_wp2_with fail
      go_loopg [8, 21] n2 (fun g ag i wr2 => ∃ (r : Nat) (a : Bool), Hid (r + g = n2) ∧ i = .int .i64 r ∧ ag = .bool a ∧ Below wr1.heap.size wr1 wr2 ∧ Agree N (c.map Neg.neg) wr2 wr1.heap.size r a)
      case atStart => exact ⟨0, true, Nat.zero_add _, rfl, rfl, (Below.refl _ _).alloc (Nat.le_refl _) _, _, 0, IntSet.made _ wr1, Nat.le_refl _, Qm.zeroVals N, relK_zero N, Qm.zeroVals_fine N, rfl⟩
      case round =>
        obtain ⟨wr2, rfl⟩ : ∃ x : World, x = wr := ⟨_, rfl⟩
        obtain ⟨r, a, Hrk, rfl, rfl, hb2, hag⟩ := hrel
        have Hb2 := Lib.hid hb2; clear hb2
        by_cases hrn : r < n2
        · have hlc : r < c.length := by rw [Hc.out.len]; exact hrn
          have Hbw := Lib.hid (H1.2.1.trans (Hb2.out.mono H1.2.1.size))
          obtain ⟨bi, oi, rfl, hbi, hcell3⟩ := (Hc.out.below (Hb2.out.mono H1.2.1.size) hS).at_ hrn
          generalize hx : c.getD r 0 = x at hcell3
          have hlx : Qm.IsLit N x := by have := Hmem.out.1 _ (getD_mem (d := 0) hlc); rwa [hx] at this
          have hln : Qm.IsLit N (-x) := ⟨by have := hlx.1; omega, by rw [Int.natAbs_neg]; exact hlx.2⟩
          have hxb : -400 ≤ x ∧ x ≤ 400 := by have := hlx.2; omega
          have hwx : (Lit.int .i64 x).wf = true := wf_of (by omega) (by omega)
          have hwn : (Lit.int .i64 (-x)).wf = true := wf_of (by omega) (by omega)
          have hnx : (c.map Neg.neg).getD r 0 = -x := by rw [Qm.getD_neg, hx]
          have hlm : r < (c.map Neg.neg).length := by rw [List.length_map]; exact hlc
          obtain ⟨K, m, hset, hmr, hag⟩ := hag
          have hl1 := hset.look Try.underlying3 Try.underlying4 (zeroBool _) Try.underlying67 hwx
          obtain ⟨w5, hput, hset5, hg5, hs5⟩ := hset.put Try.underlying3 Try.underlying4 Try.underlying67 hwn (by unfold maxLen; omega)
          have Hb5 := Lib.hid (Hb2.out.trans (below_of_grown hg5 Hb2.out.size (fun k e => by injection e with e; omega)))
          cases a
          · have Hnext : Hid (Agree N (c.map Neg.neg) w5 wr1.heap.size (r + 1) false) :=
              ⟨_, _, hset5, by split <;> omega, by
                show (List.take (r + 1) _).foldl _ _ = none
                rw [Qm.foldl_take_succ _ _ _ _ 0 hlm]; have : _ = none := hag; rw [this]; rfl⟩
            clear hset hset5 hg5 hs5 hag hl1 hwx hwn hnx hlx hln hlm hlc
            have Hx := Lib.hid hx; clear hx
            go_wp2_with fail
            go_roundg (gk - 1)
            case measure => have := Hrk.out; omega
            case rel => exact ⟨r + 1, false, by have := Hrk.out; show _ = _; omega, by go_num, rfl, Hb5.out, Hnext.out⟩
          · obtain ⟨vc, hrel, hfine, hfold⟩ := hag
            have hnext : Agree N (c.map Neg.neg) w5 wr1.heap.size (r + 1) (!K x) := by
              refine ⟨_, _, hset5, by split <;> omega, ?_⟩
              have h1 := Qm.assume_take hfold hlm hnx
              have h2 := hrel.1 x hlx
              by_cases hv : Qm.vof vc x = 1
              · rw [h2, hv]
                rw [if_pos (by rw [Qm.vof_neg vc x hlx.1, hv])] at h1
                exact h1
              · have h3 : Qm.vof vc (-x) ≠ -1 := by rw [Qm.vof_neg vc x hlx.1]; omega
                rw [if_neg h3] at h1
                have h4 : K x = false := by rw [h2]; simpa using hv
                rw [h4]
                exact ⟨Qm.vset vc (-x), RelK.set hrel hfine hln h3, Qm.vset_fine hfine _, h1⟩
            generalize K x = kx at hl1 hnext
            have Hnext := Lib.hid hnext
            clear hset hset5 hg5 hs5 hrel hfine hfold hwx hwn hnx hlx hln hlm hlc hnext
            have Hx := Lib.hid hx; clear hx
            go_wp2_with fail
            go_roundg (gk - 1)
            case measure => have := Hrk.out; omega
            case rel => exact ⟨r + 1, !kx, by have := Hrk.out; show _ = _; omega, by go_num, rfl, Hb5.out, Hnext.out⟩
        · have Hbw := Lib.hid (H1.2.1.trans (Hb2.out.mono H1.2.1.size))
          have hW2 := H1.1.below Hb2.out H1.1.lt
          have hg0 := hW2.cell 0
          have hg1 := hW2.cell 1
          simp only [List.getElem?_cons_zero, List.getElem?_cons_succ] at hg0 hg1
          have hfr := H1.2.2
          unfold badFrom at hfr
          rw [Hcd.out] at hfr
          have HW2 := Lib.hid hW2; clear hW2
          have hrl : r = (c.map Neg.neg).length := by rw [List.length_map, Hc.out.len]; have := Hrk.out; omega
          have hnk : (k : Int) ≤ cap' := by have := Hn'.out.1; omega
          cases a
          · obtain ⟨K, m, hset, hmr, hag⟩ := hag
            have hst : Qm.rupStep N (cs ++ pf.take k) c = true := by unfold Qm.rupStep; rw [Qm.assume_stop (k := r) hag]
            rw [hst, if_pos rfl] at hfr
            have Hfr := Lib.hid hfr
            clear hset hag hst hfr
            have Hrl := Lib.hid hrl; clear hrl
            go_wp2_with fail
            go_quiet (fail)
            go_wp2_with fail
            go_roundg g
            case measure => omega
            case rel => exact ⟨k + 1, by have := Hk.out; show _ = _; omega, by go_num, HW2.out.drewN _, below_drewN Hbw.out _, Hfr.out⟩
          · obtain ⟨K, m, hset, hmr, vc, hrel, hfine, hfold⟩ := hag
            have hst : Qm.rupStep N (cs ++ pf.take k) c = (Qm.spread (cs ++ pf.take k) vc).isNone := by unfold Qm.rupStep; rw [Qm.assume_all hfold hrl]
            have hcall := fun d => fails_any N wr1.heap.size 2 2 m K vc (some ⟨wr2.heap.size, 0, none⟩) [cs, pf.take k] ((wr2.drewN d).alloc (.cells #[.slice A n cap, .slice (some ⟨bp, op, none⟩) k cap'] 27)) (fun j => S j ∨ j = wr2.heap.size) hN
              ⟨(hset.kept (grown_drewN (World.grownBy.refl wr2 none) d) (by simp)).kept (World.grownBy_alloc _ _ none) (by simp), hrel, hfine, World.grownBy.refl _ _⟩
              (fun j hj => by
                have := Hbw.out.size; have := Hb2.out.size; have := hset.lt
                rcases hj with hj | hj
                · have := hS j hj; have := H1.2.1.size; simp; omega
                · simp; omega)
              (rlists2 (Whole.new (wr2.drewN d) _ 27 [.slice A n cap, .slice (some ⟨bp, op, none⟩) k cap'] rfl) (.inr rfl)
                (((Hr.out.below Hbw.out hS).below (B := wr2.heap.size) ((below_drewN (Below.refl _ _) d).alloc (Nat.le_refl _) _) (fun j hj => by have := hS j hj; have := Hbw.out.size; omega)).more (fun j hj => .inl hj))
                ((((Hr'.out.below Hbw.out hS).take (Nat.le_of_lt hk)).below (B := wr2.heap.size) ((below_drewN (Below.refl _ _) d).alloc (Nat.le_refl _) _) (fun j hj => by have := hS j hj; have := Hbw.out.size; omega)).more (fun j hj => .inl hj))
                Hn.out ⟨by have := Hn'.out.1; omega, Hn'.out.2⟩) (by unfold maxLen; omega)
              (fun l hl c hc1 => by
                rcases List.mem_cons.1 hl with rfl | hl
                · exact Hcs.out c hc1
                · rw [List.mem_singleton] at hl; subst hl; exact (Hps.out c (List.mem_of_mem_take hc1)).1)
            have Hset := Lib.hid hset.lt
            have Hcall := Lib.hid hcall; have Hst := Lib.hid hst; have Hfr := Lib.hid hfr
            clear hset hrel hfine hfold hst hfr hcall
            have Hrl := Lib.hid hrl; clear hrl
            go_wp2_with fail
            have hgb : wr2.heap.size ≠ w.heap.size := by have := Hset.out; have := H1.2.1.size; have := H1.1.lt; omega
            have hgb3 : w.heap.size ≤ wr1.heap.size := H1.2.1.size
            have hgb1 : w.heap.size ≠ wr1.heap.size := by have := H1.1.lt; omega
            have hgb2 : w.heap.size < wr2.heap.size := by have := Hset.out; have := H1.2.1.size; have := H1.1.lt; omega
            go_region_held3 (fun w' => w'.cell? ⟨w.heap.size, 1, none⟩ = some (.slice A n cap))
              (first
                | go_keep
                | (exact (World.cell?_of_block (a := ⟨w.heap.size, 1, none⟩) (hg5.block w.heap.size (by simp; omega) (by intro e; injection e with e; exact hgb1 e))).trans ((World.cell?_alloc_lt _ _ _ hgb2).trans hg1)))
              (first | (go_at_call 46; refine (Hcall.out 1).mono ?_; rintro e w5 ⟨rfl, hm5, hg5⟩))
            have Hb6 : Hid (Below w.heap.size w w5) := Hbw.out.trans (((below_drewN (Below.refl w.heap.size wr2) 1).alloc (by simp; omega) _).trans (below_of_grown hg5 (by simp; omega) (fun k e => by injection e with e; omega)))
            have HW6 : Hid (Whole w5 w.heap.size 29 [.int .i64 (N : Int), .slice A n cap]) := (((HW2.out.drewN 1).alloc _).grown hg5 (by intro e; injection e with e; exact hgb1 e))
            clear hg5
            go_wp2_with fail
            · have hs : (Qm.spread (cs ++ pf.take k) vc).isSome = true := by assumption
              go_ret
              refine ⟨ret_int ?_, Hb6.out⟩
              have h1 : Qm.rupStep N (cs ++ pf.take k) c = false := by rw [Hst.out]; exact isNone_no hs
              rw [Hfr.out, h1]; rfl
            · have hs : (Qm.spread (cs ++ pf.take k) vc).isSome = false := by assumption
              have h1 : Qm.rupStep N (cs ++ pf.take k) c = true := by rw [Hst.out]; exact isNone_yes hs
              go_roundg g
              case measure => omega
              case rel => exact ⟨k + 1, by have := Hk.out; show _ = _; omega, by go_num, HW6.out, Hb6.out, by rw [Hfr.out, h1]; rfl⟩
    · go_wp2_with fail
      go_ret
      obtain rfl : g1 = 0 := by have := Hk.out; omega
      exact ⟨ret_int H1.2.2.symm, H1.2.1⟩
end Go.Proofs.Ytpkbncfnkgofmaa
