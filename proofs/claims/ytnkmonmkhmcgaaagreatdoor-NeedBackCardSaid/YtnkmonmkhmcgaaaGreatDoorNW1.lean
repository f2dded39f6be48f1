/- need.count, walked. -/
import Derived.Test.YtnkmonmkhmcgaaaGreatDoorNBase
import Derived.Test.YtnkmonmkhmcgaaaGreatDoorProg
import Derived.Deep.LoopGhost
import Derived.IntWalk
import Derived.Outline
namespace Go.Proofs.YtnkmonmkhmcgaaaGreatDoor
open Go.RowKit Qm

def cntV : Option Int → Value
  | none => .tuple #[.int .i64 0, .bool false]
  | some c => .tuple #[.int .i64 c, .bool true]
theorem drop_step {ks : List Nd} {j : Nat} {y : Nd} (h : ks[j]? = some y) : ks.drop j = y :: ks.drop (j + 1) := by
  obtain ⟨hj, e⟩ := List.getElem?_eq_some_iff.1 h
  rw [List.drop_eq_getElem_cons hj, e]

set_option maxHeartbeats 1600000 in
theorem count_any : ∀ (n : Nd) (S : Nat → Prop) (x : List Value) (d : Nat) (m : Int) (w : World), RNd w S x n → (∀ k, S k → k < w.heap.size) → 1 ≤ d → d ≤ 5 → 0 ≤ m → m ≤ 20 →
    Calls Tryz.prog 29 #[.agg x.toArray, .int .i64 d, .int .i64 m] w fun e w' => e = .returned (cntV (cnt n d m)) ∧ Below w.heap.size w w' := by
  refine Nd.ind fun k a f no ks ih => ?_
  intro S x d m w hR hS hd1 hd5 hm0 hm
  have HI := Lib.hid ih; clear ih
  obtain ⟨A, n, c, rfl, hnc, hc, h1, h2, h3, hK⟩ := hR.open_
  clear hR
  have HS := Lib.hid hS; clear hS
  have HK := Lib.hid hK; clear hK
  unfold maxLen at hc
  clear h1 h2 h3
  unfold ndRow
  have HW := Lib.hid (Whole.new w _ 26 [.int .i64 k, .string ⟨a.nm.toArray⟩, .int .i64 a.op, .int .i64 a.ver, .int .i64 a.slot, .string ⟨a.fl.toArray⟩, .bool a.on, .string ⟨f.toArray⟩, .bool no, .slice A n c] rfl)
  have HB := Lib.hid ((Below.refl _ w).alloc (Nat.le_refl _) (.cells #[.int .i64 k, .string ⟨a.nm.toArray⟩, .int .i64 a.op, .int .i64 a.ver, .int .i64 a.slot, .string ⟨a.fl.toArray⟩, .bool a.on, .string ⟨f.toArray⟩, .bool no, .slice A n c] 26))
  by_cases h4 : 4 < d
  · have h4' : (4 : Int) < (d : Int) := by omega
    go_enter Tryz.func29, Tryz.ntmps29
    go_wp2
    go_ret2
    exact ⟨by simp [cnt, cntV, h4], HB.out⟩
  · have h4' : decide ((4 : Int) < (d : Int)) = false := by simp; omega
    have HC : Hid (cnt (.mk k a f no ks) d m = cntL ks d m 1) := Lib.hid (by simp [cnt, h4])
    go_enter Tryz.func29, Tryz.ntmps29
    go_wp2
    go_loopg [8, 18] n (fun g av iv wr => ∃ (j : Nat) (z : Int), Hid (j + g = n) ∧ iv = .int .i64 j ∧ av = .int .i64 z ∧ 1 ≤ z ∧ z ≤ 21 ∧ Hid (cntL ks d m 1 = cntL (ks.drop j) d m z) ∧ Below w.heap.size w wr)
    case atStart => exact ⟨0, 1, Lib.hid (Nat.zero_add _), rfl, rfl, by omega, by omega, Lib.hid rfl, HB.out⟩
    case round =>
      obtain ⟨j, z, Hj, rfl, rfl, hz1, hz2, Hcl, hb⟩ := hrel
      have HBr := Lib.hid hb; clear hb
      by_cases hj : j < n
      · obtain ⟨b, o, x, y, rfl, hb, hy, hxy, hcell⟩ := (HK.out.under HBr.out HS.out).at_ hj
        have Hdr := Lib.hid (drop_step hy)
        have hmem := List.mem_of_getElem? hy
        obtain ⟨yk, ya, yf, yn, yks⟩ := y
        obtain ⟨A', n', c', rfl, -⟩ := hxy.open_
        have g0 := hcell 0 (by omega); have g1 := hcell 1 (by omega); have g2 := hcell 2 (by omega); have g3 := hcell 3 (by omega); have g4 := hcell 4 (by omega)
        have g5 := hcell 5 (by omega); have g6 := hcell 6 (by omega); have g7 := hcell 7 (by omega); have g8 := hcell 8 (by omega); have g9 := hcell 9 (by omega)
        clear hcell
        unfold ndRow at g0 g1 g2 g3 g4 g5 g6 g7 g8 g9
        simp only [List.getElem?_cons_zero, List.getElem?_cons_succ, Nat.add_zero] at g0 g1 g2 g3 g4 g5 g6 g7 g8 g9
        clear hy
        have hxy2 := (hxy.under (Below.refl _ wr |>.alloc (Nat.le_refl _) (.cells #[.int .i64 yk, .string ⟨ya.nm.toArray⟩, .int .i64 ya.op, .int .i64 ya.ver, .int .i64 ya.slot, .string ⟨ya.fl.toArray⟩, .bool ya.on, .string ⟨yf.toArray⟩, .bool yn, .slice A' n' c'] 26)) fun q hq => Nat.lt_of_lt_of_le (HS.out q hq) HBr.out.size)
        clear hxy
        by_cases hzm : m < z
        · go_wp2_with fail
          go_ret2
          exact ⟨by rw [HC.out, Hcl.out, Hdr.out]; simp [cntL, hzm, cntV], HBr.out.alloc HBr.out.size _⟩
        · have hzm' : decide (m < z) = false := by simpa using hzm
          have hcall := HI.out _ hmem S _ (d + 1) (m - z) _ hxy2 (fun q hq => by have := HS.out q hq; have := HBr.out.size; simp; omega) (by omega) (by omega) (by omega) (by omega)
          have Hle := Lib.hid (cnt_le (.mk yk ya yf yn yks) (d + 1) (m - z))
          have Hge := Lib.hid (cnt_spec (.mk yk ya yf yn yks) (d + 1) (m - z) (by omega)).1
          have e : ((d + 1 : Nat) : Int) = (d : Int) + 1 := by omega
          rw [e] at hcall
          unfold ndRow at hcall
          have HX : Hid (cntL (ks.drop j) d m z = match cnt (.mk yk ya yf yn yks) (d + 1) (m - z) with | none => none | some c => cntL (ks.drop (j + 1)) d m (z + c)) := Lib.hid (by rw [Hdr.out]; simp only [cntL, if_neg hzm]; cases cnt (.mk yk ya yf yn yks) (d + 1) (m - z) <;> rfl)
          generalize hq : cnt (.mk yk ya yf yn yks) (d + 1) (m - z) = q at hcall Hle Hge HX
          have HBn := Lib.hid (HBr.out.alloc HBr.out.size (.cells #[.int .i64 yk, .string ⟨ya.nm.toArray⟩, .int .i64 ya.op, .int .i64 ya.ver, .int .i64 ya.slot, .string ⟨ya.fl.toArray⟩, .bool ya.on, .string ⟨yf.toArray⟩, .bool yn, .slice A' n' c'] 26))
          clear hq e hxy2
          have Hcall := Lib.hid hcall; clear hcall
          rcases q with _ | q
          · simp only [cntV] at Hcall
            go_wp2_with fail
            refine Hcall.out.mono ?_
            rintro e w' ⟨rfl, hb'⟩
            have HB' := Lib.hid (HBn.out.trans (hb'.mono HBn.out.size)); clear hb'
            go_wp2_with fail
            go_ret2
            exact ⟨by rw [HC.out, Hcl.out, HX.out]; rfl, HB'.out⟩
          · simp only [cntV] at Hcall
            have hq1 := Hle.out q (by omega) rfl
            have hq0 := (Hge.out q rfl).1
            go_wp2_with fail
            refine Hcall.out.mono ?_
            rintro e w' ⟨rfl, hb'⟩
            have HB' := Lib.hid (HBn.out.trans (hb'.mono HBn.out.size)); clear hb'
            go_wp2_with fail
            go_roundg (gk - 1)
            case measure => have := Hj.out; omega
            case rel => exact ⟨j + 1, z + q, Lib.hid (by have := Hj.out; omega), by go_num, rfl, by omega, by omega, Lib.hid (by rw [Hcl.out, HX.out]), HB'.out⟩
      · go_wp2_with fail
        go_ret2
        refine ⟨?_, HBr.out⟩
        rw [HC.out, Hcl.out, List.drop_of_length_le (by have := HK.out.len; omega)]; rfl
end Go.Proofs.YtnkmonmkhmcgaaaGreatDoor
