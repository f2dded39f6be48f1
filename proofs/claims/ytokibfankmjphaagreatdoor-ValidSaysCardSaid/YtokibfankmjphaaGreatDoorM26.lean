/- Parts of the proof: walks and plain laws, side by side. -/
import Derived.Test.YtokibfankmjphaaGreatDoorM25
set_option linter.unusedVariables false
set_option linter.unusedSimpArgs false
set_option linter.unusedSectionVars false
/- quartermasterref.CheckTree, walked. -/
namespace Go.Proofs.YtokibfankmjphaaGreatDoor
open Go.RowKit Qm

set_option maxRecDepth 100000 in
set_option maxHeartbeats 3200000 in
theorem rcheckTree_any (ps : List Pk) (S : Nat → Prop) (A : Option Addr) (n c : Nat) (w : World) (hT : RTree w S A n ps) (hnc : n ≤ c) (hc : c ≤ maxLen) (hS : ∀ k, S k → k < w.heap.size) :
    Calls Tryz.prog 8 #[.agg #[.slice A n c]] w fun e w' => e = .returned (.int .i64 (ckTree ps)) ∧ Below w.heap.size w w' := by
  have hl := hT.len
  have HK : Hid (ckTree ps = if 8 < ps.length then 2 else ckT none ps.length ps) := Lib.hid rfl
  generalize ckTree ps = R at HK ⊢
  have HT := Lib.hid hT; have HS := Lib.hid hS; clear hT hS
  have X0 := Lib.hid (Tx.new w A n c)
  unfold maxLen at hc
  by_cases n8 : (8 : Int) < n
  · go_enter Tryz.func8, Tryz.ntmps8
    go_wp2
    go_ret
    exact ⟨ret_int (by rw [HK.out, if_pos (by omega)]), X0.out.below⟩
  have n8' : decide ((8 : Int) < n) = false := decide_eq_false n8
  have HK1 : Hid (R = ckT none n ps) := Lib.hid (by rw [HK.out, if_neg (by omega), hl])
  clear HK
  go_enter Tryz.func8, Tryz.ntmps8
  go_wp2
  go_loopg [3, 19] n (fun g fv iv wr => ∃ (j m : Nat), Hid (j + g = n) ∧ iv = .int .i64 j ∧ fv = .int .i64 m ∧ n + m ≤ 14 ∧ Hid (ckT none n ps = ckT (prevOf ps j) (n + m) (ps.drop j)) ∧ Hid (Tx w A n c wr))
  case atStart => exact ⟨0, 0, Lib.hid (Nat.zero_add _), rfl, rfl, by omega, Lib.hid rfl, X0⟩
  case round =>
    obtain ⟨j, m, Hj, rfl, rfl, hm, Hcl, XR⟩ := hrel
    have hJ2 : ctJ w A n c ps _ := ‹∀ (k : Nat) (a' : Act) (w' : World), _ → _›
    by_cases hj : j < n
    · exact rct_round ps S A n c w HT hnc hc HS R HK1 gk wr _ _ _ _ _ _ _ _ _ _ _ _ _ _ _ _ _ _ _ _ _ _ _ _ _ _ _ _ _ _ _ _ _ _ _ _ _ _ _ _ _ _ _ _ _ _ _ _ _ _ _ _ _ _ _ _ _ _ _ _ _ _ _ _ _ _ _ _ _ _ _ _ _ _ _ _ _ _ _ _ _ _ _ _ _ _ _ _ _ _ _ _ _ _ _ _ _ _ _ _ _ _ _ _ _ _ _ _ _ _ _ _ _ _ _ _ _ _ _ _ _ _ _ _ _ _ _ _ _ _ _ hJ2 (by assumption) j m Hj hm Hcl XR hj
    · obtain rfl : n = j := by have := Hj.out; omega
      clear hJ2
      go_wp2
      go_ret
      exact ⟨ret_int (by rw [HK1.out, Hcl.out, ckT_done (by omega)]), XR.out.below⟩
end Go.Proofs.YtokibfankmjphaaGreatDoor
