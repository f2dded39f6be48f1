/- Walk: the document's HoldsOf. -/
import Derived.Test.YtpkbncfnkgofmaaW16
namespace Go.Proofs.Ytpkbncfnkgofmaa
open Go.RowKit
theorem any_next {m : List Bool} {c : List Int} {r : Nat} {x : Int} {a b : Bool} (h : (c.take r).any (Qm.litHolds m) = a) (hr : r < c.length) (hx : c.getD r 0 = x) (hb : Qm.litHolds m x = b) : (c.take (r+1)).any (Qm.litHolds m) = (a || b) := by
  rw [List.getD_eq_getElem?_getD, List.getElem?_eq_getElem hr, Option.getD_some] at hx
  rw [List.take_succ_eq_append_getElem hr, List.any_append, h, hx]; simp [hb]

set_option maxHeartbeats 4000000 in
theorem rholds_any (A Am : Option Addr) (n cap N cm : Nat) (cs : List (List Int)) (m : List Bool) (w : World) (S : Nat → Prop) (hS : ∀ k, S k → k < w.heap.size)
    (hr : RClauses w S A n cs) (hm : RBools w S Am N m) (hn : n ≤ 4000) (hN : N ≤ 400) (hcs : ∀ c ∈ cs, Qm.IsCl N c ∧ c.length ≤ 60) :
    Calls Try.prog 27 #[.agg #[.int .i64 (N : Int), .slice A n cap], .slice Am N cm] w fun e w' => e = .returned (.bool (Qm.holdsF m cs)) ∧ Below w.heap.size w w' := by
  have Hr := Lib.hid hr; have Hm := Lib.hid hm; have Hcs := Lib.hid hcs
  clear hr hm hcs
  have Hb0 : Hid (∀ o, Below w.heap.size w (w.alloc o)) := fun o => (Below.refl _ _).alloc (Nat.le_refl _) o
  go_enter Try.func27, Try.ntmps27
  go_wp2_with fail
  go_loopg [13] n (fun g i wr => ∃ (k : Nat), Hid (k + g = n) ∧ i = .int .i64 k ∧ Hid (w.alloc (.cells #[.int .i64 (N : Int), .slice A n cap] 29) = wr) ∧ Hid ((cs.take k).all (fun c => c.any (Qm.litHolds m)) = true))
  case atStart => exact ⟨0, Nat.zero_add _, rfl, rfl, rfl⟩
  case round =>
    obtain ⟨k, Hk, rfl, Hwr, Hall⟩ := hrel
    obtain rfl := Hwr.out
    clear Hwr
    obtain ⟨g1, rfl⟩ : ∃ x : Nat, x = gk := ⟨_, rfl⟩
    by_cases hk : k < n
    · obtain ⟨bp, op, A2, n2, c2, rfl, hbp, hcell, hc, hnc, hcm⟩ := (Hr.out.below (Hb0.out (.cells #[.int .i64 (N : Int), .slice A n cap] 29)) hS).at_ hk
      have hlc : k < cs.length := by rw [Hr.out.len]; exact hk
      have hmem := Hcs.out _ (getD_mem (l := cs) (k := k) (d := []) hlc)
      generalize hcd : cs.getD k [] = c at hc hmem
      have hn2 : n2 ≤ 60 := by rw [← hc.len]; exact hmem.2
      have Hcd := Lib.hid hcd; have Hlc := Lib.hid hlc; have Hc := Lib.hid hc; have Hmem := Lib.hid hmem; clear hcd hlc hc hmem
      go_wp2_with fail
      go_loopg [7, 19] n2 (fun g ok i wr => ∃ (r : Nat) (a : Bool), Hid (r + g = n2) ∧ i = .int .i64 r ∧ ok = .bool a ∧ Hid (w.alloc (.cells #[.int .i64 (N : Int), .slice (some ⟨bp, op, none⟩) n cap] 29) = wr) ∧ Hid ((c.take r).any (Qm.litHolds m) = a))
      case atStart => exact ⟨0, false, Nat.zero_add _, rfl, rfl, rfl, rfl⟩
      case round =>
        obtain ⟨r, a, Hrk, rfl, rfl, Hwr, Hany⟩ := hrel
        obtain rfl := Hwr.out
        clear Hwr
        by_cases hrn : r < n2
        · obtain ⟨bi, oi, rfl, hbi, hcell3⟩ := Hc.out.at_ hrn
          have hlr : r < c.length := by rw [Hc.out.len]; exact hrn
          generalize hx : c.getD r 0 = x at hcell3
          have hlx : Qm.IsLit N x := by have := Hmem.out.1 _ (getD_mem (d := 0) hlr); rwa [hx] at this
          have hxb : -400 ≤ x ∧ x ≤ 400 := by have := hlx.2; omega
          obtain ⟨h0, h1⟩ := hlx
          obtain ⟨bm, om, rfl, hbm, hmc⟩ := (Hm.out.below (Hb0.out (.cells #[.int .i64 (N : Int), .slice (some ⟨bp, op, none⟩) n cap] 29)) hS).at_ (k := x.natAbs - 1) (by omega)
          have hlit : Qm.litHolds m x = (m.getD (x.natAbs - 1) false == decide (0 < x)) := rfl
          generalize m.getD (x.natAbs - 1) false = v at hmc hlit
          have Hx := Lib.hid hx; have Hlr := Lib.hid hlr; clear hx hlr
          cases a
          · rcases Int.lt_or_gt_of_ne h0 with hneg | hpos
            · have hna : x.natAbs - 1 = (-x - 1).toNat := by omega
              rw [hna] at hmc
              have e1 : decide (0 < x) = false := decide_eq_false (by omega)
              have hq : (0 : Int) ≤ -x - 1 := by omega
              have hq2 : -x - 1 < (N : Int) := by omega
              rw [e1] at hlit
              obtain ⟨y, hy⟩ : ∃ y : Nat, x = -((y : Int) + 1) := ⟨(-x - 1).toNat, by omega⟩
              subst hy
              have hyy : (-(-((y : Int) + 1)) - 1).toNat = y := by omega
              rw [hyy] at hmc
              have Hlit := Lib.hid hlit
              clear hlit hna e1 hyy
              cases v
              · go_wp2_with fail
                go_roundg (gk - 1)
                case measure => have := Hrk.out; omega
                case rel => exact ⟨r + 1, true, by have := Hrk.out; show _ = _; omega, by go_num, rfl, rfl, any_next Hany.out Hlr.out Hx.out Hlit.out⟩
              · go_wp2_with fail
                go_roundg (gk - 1)
                case measure => have := Hrk.out; omega
                case rel => exact ⟨r + 1, false, by have := Hrk.out; show _ = _; omega, by go_num, rfl, rfl, any_next Hany.out Hlr.out Hx.out Hlit.out⟩
            · obtain ⟨y, hy⟩ : ∃ y : Nat, x = (y : Int) + 1 := ⟨(x - 1).toNat, by omega⟩
              subst hy
              have hna : ((y : Int) + 1).natAbs - 1 = y := by omega
              rw [hna] at hmc
              have e1 : decide (0 < (y : Int) + 1) = true := decide_eq_true (by omega)
              rw [e1] at hlit
              have Hlit := Lib.hid hlit
              clear hlit hna e1
              cases v
              · go_wp2_with fail
                go_roundg (gk - 1)
                case measure => have := Hrk.out; omega
                case rel => exact ⟨r + 1, false, by have := Hrk.out; show _ = _; omega, by go_num, rfl, rfl, any_next Hany.out Hlr.out Hx.out Hlit.out⟩
              · go_wp2_with fail
                go_roundg (gk - 1)
                case measure => have := Hrk.out; omega
                case rel => exact ⟨r + 1, true, by have := Hrk.out; show _ = _; omega, by go_num, rfl, rfl, any_next Hany.out Hlr.out Hx.out Hlit.out⟩
          · have Hlit := Lib.hid hlit
            clear hlit hmc
            go_wp2_with fail
            go_roundg (gk - 1)
            case measure => have := Hrk.out; omega
            case rel => exact ⟨r + 1, true, by have := Hrk.out; show _ = _; omega, by go_num, rfl, rfl, by show _ = _; rw [any_next Hany.out Hlr.out Hx.out rfl]; rfl⟩
        · have Hany2 : Hid (c.any (Qm.litHolds m) = a) := by have := Hany.out; rwa [List.take_of_length_le (by rw [Hc.out.len]; omega)] at this
          cases a
          · go_wp2_with fail
            go_ret
            exact ⟨ret_bool (all_no Hlc.out Hcd.out Hany2.out).symm, Hb0.out _⟩
          · go_wp2_with fail
            go_roundg (g1 - 1)
            case measure => have := Hk.out; omega
            case rel => exact ⟨k + 1, by have := Hk.out; show _ = _; omega, by go_num, rfl, all_next Hlc.out Hcd.out Hany2.out Hall.out⟩
    · go_wp2_with fail
      go_ret
      exact ⟨ret_bool (all_yes (by rw [Hr.out.len]; have := Hk.out; omega) Hall.out).symm, Hb0.out _⟩
end Go.Proofs.Ytpkbncfnkgofmaa
