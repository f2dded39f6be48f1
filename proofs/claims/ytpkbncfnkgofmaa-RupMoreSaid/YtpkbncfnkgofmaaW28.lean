/- Walk: slices.Concat of two lists of clauses. -/
import Derived.Test.YtpkbncfnkgofmaaW27
import Derived.LoopN
namespace Go.Proofs.Ytpkbncfnkgofmaa
open Go.RowKit
set_option maxHeartbeats 4000000 in
theorem concat2_any (b : Nat) (t : TypeId) (A1 A2 : Option Addr) (n1 c1 n2 c2 : Nat) (vs1 vs2 : List Value) (w : World) (S : Nat → Prop) (hS : ∀ k, S k → k < w.heap.size) (hw : Whole w b t [.slice A1 n1 c1, .slice A2 n2 c2])
    (h1 : Row w S A1 n1 vs1) (h2 : Row w S A2 n2 vs2) (ho1 : ∀ u ∈ vs1, u.oneCell' = true) (ho2 : ∀ u ∈ vs2, u.oneCell' = true) (hn : n1 + n2 ≤ 100000) :
    Calls Try.prog 32 #[.slice (some ⟨b, 0, none⟩) 2 2] w (ClonePost w 37 (n1 + n2) (vs1 ++ vs2)) := by
  obtain ⟨i0, hi, hz0, hz1, hz2⟩ := info_parts clause_info
  have Hi := Lib.hid hi; have Hz0 := Lib.hid hz0; have Hz1 := Lib.hid hz1; have Hz2 := Lib.hid hz2
  have H1 := Lib.hid h1; have H2 := Lib.hid h2; have Ho1 := Lib.hid ho1; have Ho2 := Lib.hid ho2; have Hw := Lib.hid hw
  clear hi hz0 hz1 hz2 h1 h2 ho1 ho2
  have hc0 := hw.cell 0
  have hc1 := hw.cell 1
  simp only [List.getElem?_cons_zero, List.getElem?_cons_succ] at hc0 hc1
  clear hw
  have hn0 : n1 ≤ 100000 := by omega
  have hn1 : n2 ≤ 100000 := by omega
  have hgrow := growNil_any (n1 + n2) w hn
  have Hgrow := Lib.hid hgrow; clear hgrow
  go_enter Try.func32, Try.ntmps32
  go_wp2_with fail
  refine wp_loop_rounds 3 ?_
  rw [rounds_succ]
  go_wp2_with fail
  rw [rounds_succ]
  go_wp2_with fail
  rw [rounds_succ]
  go_wp2_with fail
  refine Hgrow.out.mono ?_
  rintro e w1 ⟨A, c, rfl, hown, hb1⟩
  have Hown := Lib.hid hown; have Hb1 := Lib.hid hb1
  have hd0 := (hb1.cell (p := ⟨b, 0, none⟩) Hw.out.lt).trans hc0
  have hd1 := (hb1.cell (p := ⟨b, 1, none⟩) Hw.out.lt).trans hc1
  clear hc0 hc1 hown hb1
  go_wp2_with fail
  refine wp_loop_rounds 3 ?_
  rw [rounds_succ]
  go_wp2_with (at_builtin; refine wpList_append_row rfl _ _ 27 rfl w.heap.size 37 i0 (.slice none 0 0) 24 Try.underlying27 Hi.out Hz0.out Hz1.out Hz2.out rfl _ 0 [] rfl Hown.out A1 n1 c1 vs1 rfl S (H1.out.below Hb1.out hS) Ho1.out (by unfold maxLen; omega) (by omega) Hb1.out.size ?_)
  intro A5 c5 w5 hn5 hc5 hown5 hg5
  have hb5 : Below w.heap.size w w5 := Hb1.out.grown hg5 Hb1.out.size (fun k e => (Hown.out.lt k e).1)
  have hs5 : w.heap.size ≤ w5.heap.size := hb5.size
  have hown5' : w5.ownsRow w.heap.size 37 1 (.slice A5 n1 c5) n1 vs1 := by simpa using hown5
  have Hb5 := Lib.hid hb5; have Hown5 := Lib.hid hown5'
  have he1 := (hb5.cell (p := ⟨b, 1, none⟩) Hw.out.lt).trans (Hw.out.cell 1)
  simp only [List.getElem?_cons_zero, List.getElem?_cons_succ] at he1
  clear hd0 hd1 hown5 hg5 hb5 hown5'
  go_wp2_with fail
  rw [rounds_succ]
  go_wp2_with (at_builtin; refine wpList_append_row rfl _ _ 27 rfl w.heap.size 37 i0 (.slice none 0 0) 24 Try.underlying27 Hi.out Hz0.out Hz1.out Hz2.out rfl _ n1 vs1 rfl Hown5.out A2 n2 c2 vs2 rfl S (H2.out.below Hb5.out hS) Ho2.out (by unfold maxLen; omega) (by omega) hs5 ?_)
  intro A6 c6 w6 hn6 hc6 hown6 hg6
  have hb6 : Below w.heap.size w w6 := Hb5.out.grown hg6 hs5 (fun k e => (Hown5.out.lt k e).1)
  have Hb6 := Lib.hid hb6; have Hown6 := Lib.hid hown6
  clear he1 hown6 hg6 hb6
  go_wp2_with fail
  rw [rounds_succ]
  go_wp2_with fail
  go_ret
  exact ⟨A6, c6, rfl, hn6, hc6, Hown6.out, Hb6.out⟩
end Go.Proofs.Ytpkbncfnkgofmaa
