/- Parts of the proof: walks and plain laws, side by side. -/
import Derived.Test.YtedbhlgjcnnknaaGreatDoorM26
import Derived.Test.YtedbhlgjcnnknaaGreatDoorProg
import Derived.Test.YtedbhlgjcnnknaaGreatDoorM1
import Derived.Deep.QuietTactic
import Derived.BigQuiet
import Derived.Test.YtedbhlgjcnnknaaGreatDoorM11
import Derived.Deep.LoopGhost
import Derived.Test.YtedbhlgjcnnknaaGreatDoorM18
import Derived.Test.YtedbhlgjcnnknaaGreatDoorM25
import Derived.Test.YtedbhlgjcnnknaaGreatDoorM8
import Derived.Test.YtedbhlgjcnnknaaGreatDoorM17
set_option linter.unusedVariables false
set_option linter.unusedSimpArgs false
set_option linter.unusedSectionVars false
namespace Go.Proofs.YtedbhlgjcnnknaaGreatDoor
/- What tree.Parse hands back, where the answer is known. -/
section
open Go.RowKit Qm

theorem TParsePost.lit {w w' : World} {l : Qm.W} {e : Ending} (h : TParsePost w l e w') {ps : List Pk} {i : Nat} {z : Int} (hp : parseTree l = (ps, i, z)) :
  ∃ A c, e = .returned (.tuple #[.agg #[.slice A ps.length c], .int .i64 i, .int .i64 z]) ∧ RTree w' (fun i => w.heap.size ≤ i ∧ i < w'.heap.size) A ps.length ps ∧ ps.length ≤ c ∧ c ≤ maxLen ∧ Below w.heap.size w w' := by
 obtain ⟨A, n, c, rfl, hr, h1, h2, hb⟩ := h
 rw [hp] at hr ⊢
 have hl : ps.length = n := hr.len
 subst hl
 exact ⟨A, c, rfl, hr, h1, h2, hb⟩

end
/- quartermasterlaw.small, walked: a tree of four. -/
section
open Go.RowKit Qm

def smallB : Qm.W := [97, 32, 49, 32, 49, 32, 32, 40, 32, 98, 32, 41, 10, 97, 32, 50, 32, 49, 32, 120, 32, 40, 32, 120, 63, 32, 40, 32, 98, 32, 41, 32, 41, 10, 98, 32, 49, 32, 49, 32, 32, 40, 32, 33, 99, 32, 41, 10, 99, 32, 49, 32, 49, 32, 32, 40, 32, 41, 10]
def leafW (k : Int) (c : UInt8) : Nd := .mk k ⟨[c], 0, 0, 0, [], false⟩ [] false []
def pkS (c : UInt8) (v : Int) (fs : List Qm.W) (ks : List Nd) : Pk := ⟨[c], v, 1, fs, .mk 3 At.zero [] false ks⟩
def smallT : List Pk := [pkS 97 1 [] [leafW 1 98], pkS 97 2 [[120]] [.mk 5 At.zero [120] false [leafW 1 98]], pkS 98 1 [] [leafW 2 99], pkS 99 1 [] []]
theorem parse_S : parseTree smallB = (smallT, 0, 0) := by kernel_rfl
def SmallPost (w : World) (e : Ending) (w' : World) : Prop :=
 ∃ A c, e = .returned (.tuple #[.agg #[.slice A 4 c], .bool true]) ∧ RTree w' (fun i => w.heap.size ≤ i ∧ i < w'.heap.size) A 4 smallT ∧ 4 ≤ c ∧ c ≤ maxLen ∧ Below w.heap.size w w'
set_option maxRecDepth 100000 in
set_option maxHeartbeats 3200000 in
theorem small_any (w : World) (hL : LaidV w) (hM : MaxW w) :
  Calls Tryz.prog 51 #[] w (SmallPost w) := by
 have hal : Below w.heap.size w (w.alloc (.cells #[.slice none 0 0] 24)) := (Below.refl _ w).alloc (qr _) _
 have hpa := (tparse_any smallB (w.alloc (.cells #[.slice none 0 0] 24)) (by decide) (hL.below hal) (hM.below hal)).mono fun e w' h => h.lit parse_S
 rw [show smallT.length = 4 from rfl] at hpa
 unfold smallB at hpa
 have Hpa := qh hpa
 have HA := qh hal
 have HZ := qh (Whole.new w w.heap.size 24 [.slice none 0 0] rfl)
 clear hpa hal hL hM
 go_enter Tryz.func51, Tryz.ntmps51
 go_wp2_with (first | (go_at_call 82; refine Hpa.out.mono ?_; rintro e w2 ⟨A, c, rfl, hT, hc1, hc2, hb2⟩; refine Hid.out ?_))
 refine qh ?_
 have hbx : Below w2.heap.size w2 (w2.alloc (.cells #[.slice A 4 c] 24)) := (Below.refl _ _).alloc (qr _) _
 have HW3 := qh (Whole.new w2 _ 24 [.slice A 4 c] rfl)
 have HZ3 := qh ((HZ.out.below hb2 HZ.out.lt).below hbx (HZ.out.below hb2 HZ.out.lt).lt)
 have HT3 := qh ((hT.under hbx fun k hk => hk.2).more (S' := fun i => w.heap.size < i ∧ i < w2.heap.size) fun i hi => ⟨ql HZ.out.lt hi.1, hi.2⟩)
 have HB3 := qh (HA.out.trans ((hb2.trans (hbx.mono hb2.size)).mono HA.out.size))
 have hlt3 : w.heap.size < w2.heap.size := ql HZ.out.lt hb2.size
 clear hb2 hbx hT HZ
 go_wp2
 generalize World.alloc w2 _ = w3 at *
 have t0 := HW3.out.cell 0
 have z0 := HZ3.out.cell 0
 have zf := HZ3.out.free 0
 simp only [List.getElem?_cons_zero] at t0 z0
 have zlt := HZ3.out.lt
 have tlt := HW3.out.lt
 have s0 : (w3.setCell ⟨w.heap.size, 0, none⟩ (.slice A 4 c)).drew.cell? ⟨w2.heap.size, 0, none⟩ = some (.slice A 4 c) := (HW3.out.far (p := ⟨w.heap.size, 0, none⟩) (by show w2.heap.size ≠ w.heap.size; omega) (.slice A 4 c)).cell 0
 go_region_held3 (fun w' => w'.cell? ⟨w2.heap.size, 0, none⟩ = some (.slice A 4 c))
  (first | go_keep | exact s0) (fail)
 have hW := (HZ3.out.set_ 0 (.slice A 4 c)).drew
 simp only [List.set_cons_zero] at hW
 have hf : Far (fun i => i = w.heap.size) w3 (w3.setCell ⟨w.heap.size, 0, none⟩ (.slice A 4 c)).drew := (Far.set_ (D := fun i => i = w.heap.size) rfl 0 (.slice A 4 c)).drew
 have hT : RTree (w3.setCell ⟨w.heap.size, 0, none⟩ (.slice A 4 c)).drew (fun i => w.heap.size ≤ i ∧ i < (w3.setCell ⟨w.heap.size, 0, none⟩ (.slice A 4 c)).drew.heap.size) A 4 smallT :=
  (HT3.out.keep fun q hq => hf.cell (by have := hq.2; omega) (by have := hq.1; omega)).more fun i hi => ⟨by omega, by have := hf.size; omega⟩
 have hB : Below w.heap.size w (w3.setCell ⟨w.heap.size, 0, none⟩ (.slice A 4 c)).drew := Below.drew (HB3.out.setCell (p := ⟨w.heap.size, 0, none⟩) (qr _) _)
 clear s0 t0 z0 zf zlt tlt
 generalize World.drew _ = wf at hW hT hB ⊢
 go_wp2
 have e0 := hW.cell 0
 simp only [List.getElem?_cons_zero] at e0
 refine bodyPost_ret (v := .tuple #[.agg #[_], .bool true]) (by simp [results, Tryz.results51, go_sem, e0]; exact rfl) rfl ?_
 exact ⟨A, c, rfl, hT, hc1, hc2, hB⟩
end
/- Walks: slices.Equal. -/
section
open Go.RowKit

theorem take_eq_succ {α : Type} [DecidableEq α] {xs ys : List α} {k : Nat} (d : α) (h1 : k < xs.length) (h2 : k < ys.length) (h : xs.take k = ys.take k) (he : xs.getD k d = ys.getD k d) : xs.take (k+1) = ys.take (k+1) := by
 rw [List.take_succ_eq_append_getElem h1, List.take_succ_eq_append_getElem h2, h]
 simp [List.getD, h1, h2] at he
 rw [he]
theorem eq_of_take_all {α : Type} {xs ys : List α} {n : Nat} (h1 : xs.length = n) (h2 : ys.length = n) (h : xs.take n = ys.take n) : xs = ys := by
 rwa [List.take_of_length_le (by omega), List.take_of_length_le (by omega)] at h
theorem ne_of_getD {α : Type} {xs ys : List α} {k : Nat} (d : α) (h : xs.getD k d ≠ ys.getD k d) : xs ≠ ys := fun e => h (by rw [e])

set_option maxHeartbeats 400000 in
theorem equal_int (A A' : Option Addr) (n n' c c' : Nat) (xs ys : List Int) (w : World) (S : Nat → Prop) (hx : RInts w S A n xs) (hy : RInts w S A' n' ys) (hn : n ≤ maxLen) (hn' : n' ≤ maxLen) :
  Calls Tryz.prog 32 #[.slice A n c, .slice A' n' c'] w fun e w' => e = .returned (.bool (xs == ys)) ∧ ∃ nq, w' = w.drewN nq := by
 unfold maxLen at hn hn'
 have hl := qh hx.len
 have hl' := qh hy.len
 by_cases hne : n = n'
 ·subst hne
  have h0 : ((n : Int) != (n : Int)) = false := by simp
  go_enter Tryz.func32, Tryz.ntmps32
  go_wp2
  go_loopw [13] (fun i wr => ∃ k : Nat, k ≤ n ∧ i = .int .i64 k ∧ Hid (xs.take k = ys.take k) ∧ ∃ nq, wr = w.drewN nq) (fun i _ => n - (intOf i).toNat)
  case atStart => exact ⟨0, Nat.zero_le _, rfl, by exact rfl, 0, rfl⟩
  case round =>
   obtain ⟨k, hk, rfl, Ht, nq, rfl⟩ := hrel
   by_cases hlt : k < n
   ·obtain ⟨b, o, rfl, hb, hc⟩ := hx.at_ hlt
    obtain ⟨b', o', rfl, hb', hc'⟩ := hy.at_ hlt
    generalize hu : xs.getD k 0 = u at hc
    generalize hv : ys.getD k 0 = v at hc'
    have Hu := qh hu; clear hu
    have Hv := qh hv; clear hv
    by_cases huv : u = v
    ·have h1 : (u != v) = false := by simpa using huv
     have Huv := qh huv; clear huv
     go_wp2
     go_quiet (fail)
     go_wp2
     go_roundw
     case rel => exact ⟨k + 1, by omega, by go_num, take_eq_succ 0 (by rw [hl.out]; exact hlt) (by rw [hl'.out]; exact hlt) Ht.out (by rw [Hu.out, Hv.out, Huv.out]), _, (by first | rfl | exact World.drewN_drewN _ _ _)⟩
     case measure => simp [intOf]; omega
    ·have h1 : (u != v) = true := by simpa using huv
     go_wp2
     go_quiet (fail)
     go_wp2
     go_ret
     exact ⟨ret_bool (by symm; rw [beq_eq_false_iff_ne]; exact ne_of_getD 0 (by rw [Hu.out, Hv.out]; exact huv)), _, (by first | rfl | exact World.drewN_drewN _ _ _)⟩
   ·have h1 : k = n := by omega
    subst h1
    go_wp2
    go_ret
    exact ⟨ret_bool (by symm; rw [beq_iff_eq]; exact eq_of_take_all hl.out hl'.out Ht.out), _, rfl⟩
 ·have h0 : ((n : Int) != (n' : Int)) = true := by rw [bne_iff_ne]; omega
  go_enter Tryz.func32, Tryz.ntmps32
  go_wp2
  go_ret
  exact ⟨ret_bool (by symm; rw [beq_eq_false_iff_ne]; intro e; exact hne (by rw [← hl.out, ← hl'.out, e])), 0, rfl⟩
end
/- slices.Equal of []bool, walked. -/
section
open Go.RowKit

set_option maxHeartbeats 400000 in
theorem equalB_any (A A' : Option Addr) (n n' c c' : Nat) (xs ys : List Bool) (w : World) (S : Nat → Prop) (hx : RBools w S A n xs) (hy : RBools w S A' n' ys) (hn : n ≤ maxLen) (hn' : n' ≤ maxLen) :
    Calls Tryz.prog 55 #[.slice A n c, .slice A' n' c'] w fun e w' => e = .returned (.bool (xs == ys)) ∧ ∃ nq, w' = w.drewN nq := by
  unfold maxLen at hn hn'
  have hl := qh hx.len
  have hl' := qh hy.len
  by_cases hne : n = n'
  · subst hne
    have h0 : ((n : Int) != (n : Int)) = false := by simp
    go_enter Tryz.func55, Tryz.ntmps55
    go_wp2
    go_loopw [13] (fun i wr => ∃ k : Nat, k ≤ n ∧ i = .int .i64 k ∧ Hid (xs.take k = ys.take k) ∧ ∃ nq, wr = w.drewN nq) (fun i _ => n - (intOf i).toNat)
    case atStart => exact ⟨0, Nat.zero_le _, rfl, by exact rfl, 0, rfl⟩
    case round =>
      obtain ⟨k, hk, rfl, Ht, nq, rfl⟩ := hrel
      by_cases hlt : k < n
      · obtain ⟨b, o, rfl, hb, hc⟩ := hx.at_ hlt
        obtain ⟨b', o', rfl, hb', hc'⟩ := hy.at_ hlt
        generalize hu : xs.getD k false = u at hc
        generalize hv : ys.getD k false = v at hc'
        have Hu := qh hu; clear hu
        have Hv := qh hv; clear hv
        cases u <;> cases v
        all_goals
          first
            | (have Huv : Hid (xs.getD k false = ys.getD k false) := by rw [Hu.out, Hv.out]; exact rfl
               go_wp2
               go_quiet (fail)
               go_wp2
               go_roundw
               case rel => exact ⟨k + 1, by omega, by go_num, take_eq_succ false (by rw [hl.out]; exact hlt) (by rw [hl'.out]; exact hlt) Ht.out Huv.out, _, (by first | rfl | exact World.drewN_drewN _ _ _)⟩
               case measure => simp [intOf]; omega)
            | (have Huv : Hid (xs.getD k false ≠ ys.getD k false) := by show _ ≠ _; rw [Hu.out, Hv.out]; intro h; cases h
               go_wp2
               go_quiet (fail)
               go_wp2
               go_ret
               exact ⟨ret_bool (by symm; rw [beq_eq_false_iff_ne]; exact ne_of_getD false Huv.out), _, (by first | rfl | exact World.drewN_drewN _ _ _)⟩)
      · have h1 : k = n := by omega
        subst h1
        go_wp2
        go_ret
        exact ⟨ret_bool (by symm; rw [beq_iff_eq]; exact eq_of_take_all hl.out hl'.out Ht.out), _, rfl⟩
  · have h0 : ((n : Int) != (n' : Int)) = true := by rw [bne_iff_ne]; omega
    go_enter Tryz.func55, Tryz.ntmps55
    go_wp2
    go_ret
    exact ⟨ret_bool (by symm; rw [beq_eq_false_iff_ne]; intro e; exact hne (by rw [← hl.out, ← hl'.out, e])), 0, rfl⟩

end
/- Lists held against each other, element by element. -/
section
open Go.RowKit Qm
def eqL {α : Type} (sm : α → α → Bool) : List α → List α → Bool
 | [], [] => true
 | x :: r, y :: s => sm x y && eqL sm r s
 | _, _ => false
theorem eqL_iff {α : Type} {sm : α → α → Bool} (h : ∀ x y, sm x y = true ↔ x = y) : ∀ {xs ys : List α}, eqL sm xs ys = true ↔ xs = ys
 | [], [] => by simp [eqL]
 | [], _ :: _ => by simp [eqL]
 | _ :: _, [] => by simp [eqL]
 | x :: r, y :: s => by simp only [eqL, Bool.and_eq_true, h, eqL_iff h, List.cons.injEq]
theorem eqL_len {α : Type} {sm : α → α → Bool} : ∀ {xs ys : List α}, xs.length ≠ ys.length → eqL sm xs ys = false
 | [], [], h => absurd rfl h
 | [], _ :: _, _ => rfl
 | _ :: _, [], _ => rfl
 | x :: r, y :: s, h => by
  simp only [eqL]
  rw [eqL_len (by simpa using h), Bool.and_false]
theorem eqL_step {α : Type} {sm : α → α → Bool} {xs ys : List α} {j : Nat} {x y : α} (hx : xs[j]? = some x) (hy : ys[j]? = some y) : eqL sm (xs.drop j) (ys.drop j) = (sm x y && eqL sm (xs.drop (j + 1)) (ys.drop (j + 1))) := by
 obtain ⟨h1, rfl⟩ := List.getElem?_eq_some_iff.1 hx
 obtain ⟨h2, rfl⟩ := List.getElem?_eq_some_iff.1 hy
 rw [List.drop_eq_getElem_cons h1, List.drop_eq_getElem_cons h2]
 rfl
def AsksEq {α : Type} (P : Program) (w : World) (F : FuncId) (R : List Value → α → Prop) (sm : α → α → Bool) : Prop :=
 (∀ (args : Array Value) (W : World), (callFunc F args).run P W = .ok (.enter F args) W) ∧
  ∀ (x y : α) (cx cy : List Value) (W : World), Below w.heap.size w W → R cx x → R cy y → Calls P F #[.agg cx.toArray, .agg cy.toArray] W fun e w' => e = .returned (.bool (sm x y)) ∧ Below W.heap.size W w'
end
/- slices.EqualFunc of slices whose elements have 2 cells. (Printed by wip/bin/mkeqf.py.) -/
section
open Go.RowKit Qm

def Shape_M (x : List Value) : Prop := ∃ (x0 : Int) (x1a : Option Addr) (x1n x1c : Nat), x = [.int .i64 x0, .slice x1a x1n x1c]
set_option maxRecDepth 100000 in
set_option maxHeartbeats 3200000 in
theorem equalF_M {α : Type} (R : List Value → α → Prop) (sm : α → α → Bool) (A B : Option Addr) (n c m d : Nat) (xs ys : List α) (F : FuncId) (w : World) (S : Nat → Prop) (hK : RSeq 2 R w S A n xs) (hL : RSeq 2 R w S B m ys) (hS : ∀ k, S k → k < w.heap.size) (hn : n ≤ maxLen) (hm : m ≤ maxLen) (hF : AsksEq Tryz.prog w F R sm) (hsh : ∀ x y, R x y → Shape_M x) :
  Calls Tryz.prog 53 #[.slice A n c, .slice B m d, .func (.func F) #[] #[]] w fun e w' => e = .returned (.bool (eqL sm xs ys)) ∧ Below w.heap.size w w' := by
 unfold maxLen at hn hm
 have HK := qh hK; have HL := qh hL; have HS := qh hS; have HF := qh hF; clear hK hL hS hF
 by_cases hnm : n = m
 ·subst hnm
  go_enter Tryz.func53, Tryz.ntmps53
  go_wp2
  go_loopg [17] n (fun g iv wr => ∃ (j : Nat), Hid (j + g = n) ∧ iv = .int .i64 j ∧ Hid (eqL sm xs ys = eqL sm (xs.drop j) (ys.drop j)) ∧ Below w.heap.size w wr)
  case atStart => exact ⟨0, qh (Nat.zero_add _), rfl, qh rfl, Below.refl _ _⟩
  case round =>
   obtain ⟨j, Hj, rfl, Hcl, hb⟩ := hrel
   have HBr := qh hb; clear hb
   by_cases hj : j < n
   ·obtain ⟨b, o, x, y, rfl, hb, hy, hxy, hxl, hcell⟩ := (HK.out.keep (w' := wr) (fun p hp => HBr.out.cell (HS.out _ hp)) fun _ _ h => h).at_ hj (by decide)
    obtain ⟨b', o', x', y', rfl, hb', hy', hxy', hxl', hcell'⟩ := (HL.out.keep (w' := wr) (fun p hp => HBr.out.cell (HS.out _ hp)) fun _ _ h => h).at_ hj (by decide)
    have Hdr : Hid (eqL sm (xs.drop j) (ys.drop j) = (sm y y' && eqL sm (xs.drop (j + 1)) (ys.drop (j + 1)))) := qh (eqL_step hy hy')
    have hlt : b' < wr.heap.size := ql (HS.out _ hb') HBr.out.size
    obtain ⟨x0, x1a, x1n, x1c, rfl⟩ := hsh _ _ hxy
    obtain ⟨y0, y1a, y1n, y1c, rfl⟩ := hsh _ _ hxy'
    have g0 := hcell 0 (by omega); have g1 := hcell 1 (by omega)
    have k0 := hcell' 0 (by omega); have k1 := hcell' 1 (by omega)
    simp only [List.getElem?_cons_zero, List.getElem?_cons_succ, Nat.add_zero] at g0 g1 k0 k1
    clear hcell hcell' hy hy'
    have hW1 : Below wr.heap.size wr ((wr.alloc (.cells #[.int .i64 x0, .slice x1a x1n x1c] 85)).alloc (.cells #[.int .i64 y0, .slice y1a y1n y1c] 85)) := ((Below.refl _ wr).alloc (qr _) _).alloc (by simp) _
    have hcall := HF.out.2 _ _ _ _ _ (HBr.out.trans (hW1.mono HBr.out.size)) hxy hxy'
    have henter := HF.out.1
    have HB2 := qh (HBr.out.trans (hW1.mono HBr.out.size))
    clear hW1 hxy hxy' hxl hxl'
    generalize sm y y' = q at hcall Hdr
    have Hcall := qh hcall; clear hcall
    cases q
    ·go_wp2_with fail
     refine Hcall.out.mono ?_
     rintro e w' ⟨rfl, hb'⟩
     have HB3 := qh (HB2.out.trans (hb'.mono HB2.out.size)); clear hb'
     go_wp2_with fail
     go_ret
     exact ⟨ret_bool (by rw [Hcl.out, Hdr.out]; rfl), HB3.out⟩
    ·go_wp2_with fail
     refine Hcall.out.mono ?_
     rintro e w' ⟨rfl, hb'⟩
     have HB3 := qh (HB2.out.trans (hb'.mono HB2.out.size)); clear hb'
     go_wp2_with fail
     go_roundg (gk - 1)
     case measure => have := Hj.out; omega
     case rel => exact ⟨j + 1, qh (by have := Hj.out; omega), by go_num, qh (by rw [Hcl.out, Hdr.out, Bool.true_and]), HB3.out⟩
   ·go_wp2_with fail
    go_ret
    refine ⟨ret_bool ?_, HBr.out⟩
    rw [Hcl.out, List.drop_of_length_le (by have := HK.out.len; omega), List.drop_of_length_le (by have := HL.out.len; omega)]; rfl
 ·have e1 : ((n : Int) != (m : Int)) = true := by simp; omega
  have e2 : ((n : Int) == (m : Int)) = false := by simp; omega
  have HE : Hid (eqL sm xs ys = false) := qh (eqL_len (by have := HK.out.len; have := HL.out.len; omega))
  go_enter Tryz.func53, Tryz.ntmps53
  go_wp2
  go_ret
  exact ⟨ret_bool HE.out.symm, Below.refl _ _⟩
end
/- Sets of members held against each other: tree.SameSet, quartermasterref.SameSet, walked. -/
section
open Go.RowKit Qm

def sameMem (x y : Mem) : Bool := decide (x.pl = y.pl) && (x.on == y.on)
set_option maxHeartbeats 3200000 in
theorem sameMemt_any (x y : Mem) (S : Nat → Prop) (cx cy : List Value) (w : World) (hx : RMem w S cx x) (hy : RMem w S cy y) (hS : ∀ k, S k → k < w.heap.size) :
  Calls Tryz.prog 54 #[.agg cx.toArray, .agg cy.toArray] w fun e w' => e = .returned (.bool (sameMem x y)) ∧ Below w.heap.size w w' := by
 obtain ⟨A, n, c, rfl, hn, hc, hon⟩ := hx
 obtain ⟨B, m, d, rfl, hm, hd, hon'⟩ := hy
 have hbx : Below w.heap.size w ((w.alloc (.cells #[.int .i64 x.pl, .slice A n c] 85)).alloc (.cells #[.int .i64 y.pl, .slice B m d] 85)) := ((Below.refl _ w).alloc (qr _) _).alloc (by simp) _
 have heq := equalB_any A B n m c d x.on y.on _ S (Row.keep hon fun p hp => hbx.cell (hS _ hp)) (Row.keep hon' fun p hp => hbx.cell (hS _ hp)) (Nat.le_trans hn hc) (Nat.le_trans hm hd)
 have HC : Hid (sameMem x y = (decide (x.pl = y.pl) && (x.on == y.on))) := qh rfl
 obtain ⟨pl, on⟩ := x
 obtain ⟨pl', on'⟩ := y
 dsimp only at heq HC hbx
 generalize sameMem ⟨pl, on⟩ ⟨pl', on'⟩ = R at HC ⊢
 generalize (on == on') = q at heq HC
 have Heq := qh heq
 have HB := qh hbx
 clear heq hbx hon hon' hS
 by_cases hp : pl = pl'
 ·subst hp
  have hpp : (pl == pl) = true := by simp
  have HR : Hid (R = q) := qh (by rw [HC.out, decide_eq_true rfl, Bool.true_and])
  clear HC
  go_enter Tryz.func54, Tryz.ntmps54
  go_wp2_with (first | (go_at_call 55; refine Heq.out.mono ?_; rintro e w3 ⟨rfl, nq, rfl⟩; refine Hid.out ?_))
  refine qh ?_
  go_wp2
  go_ret
  exact ⟨ret_bool (by rw [HR.out]), below_drewN HB.out _⟩
 ·have hpp : (pl == pl') = false := by simpa using hp
  have HR : Hid (R = false) := qh (by rw [HC.out, decide_eq_false hp, Bool.false_and])
  clear HC hp
  go_enter Tryz.func54, Tryz.ntmps54
  go_wp2
  go_ret
  exact ⟨ret_bool (by rw [HR.out]), HB.out⟩
set_option maxHeartbeats 3200000 in
theorem sameMemr_any (x y : Mem) (S : Nat → Prop) (cx cy : List Value) (w : World) (hx : RMem w S cx x) (hy : RMem w S cy y) (hS : ∀ k, S k → k < w.heap.size) :
  Calls Tryz.prog 70 #[.agg cx.toArray, .agg cy.toArray] w fun e w' => e = .returned (.bool (sameMem x y)) ∧ Below w.heap.size w w' := by
 obtain ⟨A, n, c, rfl, hn, hc, hon⟩ := hx
 obtain ⟨B, m, d, rfl, hm, hd, hon'⟩ := hy
 have hbx : Below w.heap.size w ((w.alloc (.cells #[.int .i64 x.pl, .slice A n c] 85)).alloc (.cells #[.int .i64 y.pl, .slice B m d] 85)) := ((Below.refl _ w).alloc (qr _) _).alloc (by simp) _
 have heq := equalB_any A B n m c d x.on y.on _ S (Row.keep hon fun p hp => hbx.cell (hS _ hp)) (Row.keep hon' fun p hp => hbx.cell (hS _ hp)) (Nat.le_trans hn hc) (Nat.le_trans hm hd)
 have HC : Hid (sameMem x y = (decide (x.pl = y.pl) && (x.on == y.on))) := qh rfl
 obtain ⟨pl, on⟩ := x
 obtain ⟨pl', on'⟩ := y
 dsimp only at heq HC hbx
 generalize sameMem ⟨pl, on⟩ ⟨pl', on'⟩ = R at HC ⊢
 generalize (on == on') = q at heq HC
 have Heq := qh heq
 have HB := qh hbx
 clear heq hbx hon hon' hS
 by_cases hp : pl = pl'
 ·subst hp
  have hpp : (pl == pl) = true := by simp
  have HR : Hid (R = q) := qh (by rw [HC.out, decide_eq_true rfl, Bool.true_and])
  clear HC
  go_enter Tryz.func70, Tryz.ntmps70
  go_wp2_with (first | (go_at_call 55; refine Heq.out.mono ?_; rintro e w3 ⟨rfl, nq, rfl⟩; refine Hid.out ?_))
  refine qh ?_
  go_wp2
  go_ret
  exact ⟨ret_bool (by rw [HR.out]), below_drewN HB.out _⟩
 ·have hpp : (pl == pl') = false := by simpa using hp
  have HR : Hid (R = false) := qh (by rw [HC.out, decide_eq_false hp, Bool.false_and])
  clear HC hp
  go_enter Tryz.func70, Tryz.ntmps70
  go_wp2
  go_ret
  exact ⟨ret_bool (by rw [HR.out]), HB.out⟩
set_option maxHeartbeats 3200000 in
theorem sameSett_any (xs ys : List Mem) (S : Nat → Prop) (A B : Option Addr) (n c m d : Nat) (w : World) (hT : RSet w S A n xs) (hU : RSet w S B m ys) (hS : ∀ k, S k → k < w.heap.size) (hn : n ≤ maxLen) (hm : m ≤ maxLen) :
  Calls Tryz.prog 16 #[.slice A n c, .slice B m d] w fun e w' => e = .returned (.bool (eqL sameMem xs ys)) ∧ Below w.heap.size w w' := by
 have hq := equalF_M (RMem w S) sameMem A B n c m d xs ys 54 w S hT hU hS hn hm
  ⟨fun args W => by kernel_rfl, fun x y cx cy W hb hx hy => sameMemt_any x y S cx cy W (hx.under hb hS) (hy.under hb hS) (fun k hk => ql (hS k hk) hb.size)⟩
  (fun x y h => by obtain ⟨A, n, c, rfl, _⟩ := h; exact ⟨_, _, _, _, rfl⟩)
 generalize eqL sameMem xs ys = q at hq ⊢
 have Hq := qh hq
 clear hq hT hU hS
 go_enter Tryz.func16, Tryz.ntmps16
 go_wp2_with (first | (go_at_call 53; refine Hq.out.mono ?_; rintro e w3 ⟨rfl, hb3⟩; refine Hid.out ?_))
 refine qh ?_
 have HB3 := qh hb3
 clear hb3
 go_wp2
 go_ret
 exact ⟨rfl, HB3.out⟩
set_option maxHeartbeats 3200000 in
theorem sameSetr_any (xs ys : List Mem) (S : Nat → Prop) (A B : Option Addr) (n c m d : Nat) (w : World) (hT : RSet w S A n xs) (hU : RSet w S B m ys) (hS : ∀ k, S k → k < w.heap.size) (hn : n ≤ maxLen) (hm : m ≤ maxLen) :
  Calls Tryz.prog 24 #[.slice A n c, .slice B m d] w fun e w' => e = .returned (.bool (eqL sameMem xs ys)) ∧ Below w.heap.size w w' := by
 have hq := equalF_M (RMem w S) sameMem A B n c m d xs ys 70 w S hT hU hS hn hm
  ⟨fun args W => by kernel_rfl, fun x y cx cy W hb hx hy => sameMemr_any x y S cx cy W (hx.under hb hS) (hy.under hb hS) (fun k hk => ql (hS k hk) hb.size)⟩
  (fun x y h => by obtain ⟨A, n, c, rfl, _⟩ := h; exact ⟨_, _, _, _, rfl⟩)
 generalize eqL sameMem xs ys = q at hq ⊢
 have Hq := qh hq
 clear hq hT hU hS
 go_enter Tryz.func24, Tryz.ntmps24
 go_wp2_with (first | (go_at_call 53; refine Hq.out.mono ?_; rintro e w3 ⟨rfl, hb3⟩; refine Hid.out ?_))
 refine qh ?_
 have HB3 := qh hb3
 clear hb3
 go_wp2
 go_ret
 exact ⟨rfl, HB3.out⟩
end
/- The closed facts on Resolve and Unmask: a small tree, three wishes. No program in sight. -/
section
open Go.RowKit Qm

def atR1 : At := ⟨[97], 0, 0, 0, [], false⟩
def atR2 : At := ⟨[97], 0, 0, 0, [120], true⟩
def wsR1 : Ws := ⟨[atR1], [⟨3, []⟩], [], []⟩
def wsR2 : Ws := ⟨[atR2], [⟨3, []⟩], [], []⟩
def wsR3 : Ws := ⟨[atR2], [⟨3, []⟩], [0, 2], []⟩
def memR1 : List Mem := [⟨1, [false]⟩, ⟨3, []⟩]
def memR2 : List Mem := [⟨1, [true]⟩, ⟨2, []⟩]
theorem ck_R3 : ckWish smallT wsR3 = 0 := by decide +kernel
theorem res_R1 : resE smallT wsR1 40000 = 0 ∧ resM smallT wsR1 40000 = memR1 := by decide +kernel
theorem res_R2 : resE smallT wsR2 40000 = 0 ∧ resM smallT wsR2 40000 = memR2 := by decide +kernel
theorem res_R3 : resE smallT wsR3 40000 = 7 := by decide +kernel
theorem unm_R3 : unmE smallT wsR3 = 0 ∧ unmL smallT wsR3 = [2] := by decide +kernel
theorem prf_R3 : 0 < (resP smallT wsR3 40000).length := by
 rcases res_max ck_R3 with ⟨h, _⟩ | ⟨_, _, _, h, _⟩
 ·rw [res_R3] at h; cases h
 ·exact h
theorem eq_R1 : eqL sameMem memR1 memR1 = true := by decide +kernel
theorem eq_R2 : eqL sameMem memR2 memR2 = true := by decide +kernel
end
/- resolve.Resolve, walked. -/
section
open Go.RowKit Qm

def ResolveP (ps : List Pk) (v : Ws) (s : Int) (w : World) (e : Ending) (w' : World) : Prop :=
 ∃ A n c B k d, e = .returned (.tuple #[.slice A n c, .slice B k d, .int .i64 (resE ps v s)]) ∧ RSet w' (fun k => w.heap.size ≤ k ∧ k < w'.heap.size) A n (resM ps v s) ∧ n ≤ c ∧ c ≤ maxLen ∧ RClauses w' (fun k => w.heap.size ≤ k ∧ k < w'.heap.size) B k (resP ps v s) ∧ k ≤ d ∧ d ≤ maxLen ∧ Below w.heap.size w w'
theorem ResolveP.err {ps : List Pk} {v : Ws} {s z : Int} {w w' : World} (he : resE ps v s = z) (hz : z ≠ 0) (hp : resP ps v s = []) (hb : Below w.heap.size w w') : ResolveP ps v s w (.returned (.tuple #[.slice none 0 0, .slice none 0 0, .int .i64 z])) w' := by
 have hm : resM ps v s = [] := by unfold resM; rw [if_neg (by rw [he]; exact hz)]
 exact ⟨none, 0, 0, none, 0, 0, by rw [he], by rw [hm]; exact RSet.nil_, qr _, Nat.zero_le _, by rw [hp]; exact RClauses.nil_, qr _, Nat.zero_le _, hb⟩
set_option maxRecDepth 100000 in
set_option maxHeartbeats 3200000 in
theorem resolve_any (ps : List Pk) (v : Ws) (s : Int) (S : Nat → Prop) (A : Option Addr) (n c : Nat) (A1 A2 A3 A4 : Option Addr) (n1 c1 n2 c2 n3 c3 n4 c4 : Nat) (w : World) (hT : RTree w S A n ps) (hnc : n ≤ c) (hc : c ≤ maxLen) (hV : WsAt w S A1 n1 c1 A2 n2 c2 A3 n3 c3 A4 n4 c4 v) (hS : ∀ k, S k → k < w.heap.size) (hs : -9223372036854775808 ≤ s) (hs' : s ≤ 9223372036854775807) :
  Calls Tryz.prog 27 #[.agg #[.slice A n c], .agg #[.slice A1 n1 c1, .slice A2 n2 c2, .slice A3 n3 c3, .slice A4 n4 c4], .int .i64 s] w (ResolveP ps v s w) := by
 have hb0 : Below w.heap.size w ((w.alloc (.cells #[.slice A n c] 24)).alloc (.cells #[.slice A1 n1 c1, .slice A2 n2 c2, .slice A3 n3 c3, .slice A4 n4 c4] 30)) := ((Below.refl _ w).alloc (qr _) _).alloc (by simp) _
 have T0 := qh ((Whole.new w w.heap.size 24 [.slice A n c] rfl).alloc (.cells #[.slice A1 n1 c1, .slice A2 n2 c2, .slice A3 n3 c3, .slice A4 n4 c4] 30))
 have W0 := qh (Whole.new (w.alloc (.cells #[.slice A n c] 24)) (w.heap.size + 1) 30 [.slice A1 n1 c1, .slice A2 n2 c2, .slice A3 n3 c3, .slice A4 n4 c4] (by simp))
 have HT := qh hT; have HV := qh hV; have HS := qh hS; clear hT hV hS
 have B0 := qh hb0
 have Hlt := qh (fun (wx : World) (hb : Below w.heap.size w wx) k hk => ql (HS.out k hk) hb.size)
 have HE := qh (encode_any ps v S A n c A1 A2 A3 A4 n1 c1 n2 c2 n3 c3 n4 c4 _ (HT.out.under hb0 HS.out) hnc hc (HV.out.under hb0 HS.out) (Hlt.out _ hb0))
 have HSt := qh (fun (AM : Option Addr) (nM cM : Nat) (m : List Bool) wx (hb : Below w.heap.size w wx) (hm : RBools wx (fun k => k < wx.heap.size) AM nM m) (hn : nM ≤ cM ∧ cM ≤ maxLen) => eset_any ps v m (fun k => k < wx.heap.size) A AM n c nM cM A1 A2 A3 A4 n1 c1 n2 c2 n3 c3 n4 c4 wx ((HT.out.under hb HS.out).more fun k hk => Hlt.out _ hb k hk) hnc hc ((HV.out.under hb HS.out).more fun k hk => Hlt.out _ hb k hk) hm hn.1 hn.2 (fun k hk => hk))
 have HSo := qh (fun (F : Option Addr) (cF : Nat) wx (hr : RClauses wx (fun k => k < wx.heap.size) F (encC ps v).length (encC ps v)) (hn : (encC ps v).length ≤ cF ∧ cF ≤ maxLen) (h4 : encN ps v ≤ 400) => solve_any F (encC ps v).length cF (encN ps v : Int) s (encC ps v) wx (fun k => k < wx.heap.size) (fun k hk => hk) hr hn (by omega) (by omega) hs hs')
 obtain ⟨z, hz⟩ : ∃ z, ckWish ps v = z := ⟨_, rfl⟩
 have HZ := qh hz; clear hz
 have HFL : Hid (ckWish ps v = 0 → encN ps v ≤ 400) := qh fun h => by rw [(encN_of h).1]; exact (encW_ok h).n400
 obtain ⟨L, hL⟩ : ∃ L, (encC ps v).length = L := ⟨_, rfl⟩
 have HL := qh hL; clear hL
 clear hb0
 go_enter Tryz.func27, Tryz.ntmps27
 go_upto_region 2 with (first | (go_at_call 12; refine HE.out.mono ?_; rintro e w2 ⟨F, cF, rfl, hcl, hcc, hcm, hb2⟩; rw [HZ.out, HL.out]; refine Hid.out ?_))
 refine qh ?_
 rw [HL.out] at hcl hcc
 have T2 := qh (T0.out.below hb2 T0.out.lt)
 have W2 := qh (W0.out.below hb2 W0.out.lt)
 have B2 := qh (B0.out.trans (hb2.mono B0.out.size))
 have HCL := qh (hcl.more (S' := fun k => k < w2.heap.size) fun k hk => hk.2)
 clear hb2 hcl T0 W0 B0 HE
 by_cases hz0 : z = 0
 ·subst hz0
  have hN4 := HFL.out HZ.out
  have hb3 : Below w2.heap.size w2 (w2.alloc (.cells #[.int .i64 (encN ps v : Int), .slice F L cF] 33)) := (Below.refl _ w2).alloc (qr _) _
  have T3 := qh (T2.out.below hb3 T2.out.lt)
  have W3 := qh (W2.out.below hb3 W2.out.lt)
  have B3 := qh (B2.out.trans (hb3.mono B2.out.size))
  have F3 := qh (Whole.new w2 w2.heap.size 33 [.int .i64 (encN ps v : Int), .slice F L cF] rfl)
  have HSV := qh (by
   have h := HSo.out F cF (w2.alloc (.cells #[.int .i64 (encN ps v : Int), .slice F L cF] 33)) (by rw [HL.out]; exact (HCL.out.below hb3 fun k hk => hk).more fun k hk => ql hk hb3.size) (by rw [HL.out]; exact ⟨hcc, hcm⟩) hN4
   rw [HL.out] at h
   exact h)
  obtain ⟨y, hy⟩ : ∃ y, slvE ps v s = y := ⟨_, rfl⟩
  have HY := qh hy; clear hy
  have f0 := F3.out.cell 0; have f1 := F3.out.cell 1
  simp only [qgz, qgs] at f0 f1
  unfold maxLen at hcm
  clear hb3 T2 W2 B2 HCL HSo
  go_upto_region 5 with (first | (go_at_call 26; refine HSV.out.mono ?_; rintro e w4 ⟨AM, nM, cM, AP, nP, cP, rfl, hM, hMc, hP, hPc, hb4⟩; refine Hid.out ?_))
  refine qh ?_
  have hyy : solveErr (encN ps v : Int) (encC ps v) s = y := HY.out
  rw [hyy]
  have T4 := qh (T3.out.below hb4 T3.out.lt)
  have W4 := qh (W3.out.below hb4 W3.out.lt)
  have B4 := qh (B3.out.trans (hb4.mono B3.out.size))
  have hPL := hP.len
  have HM := qh ((show RBools w4 _ AM nM (slvM ps v s) from hM).more (S' := fun k => k < w4.heap.size) fun k hk => hk.2)
  have HP := qh ((show RClauses w4 _ AP nP (slvP ps v s) from hP).more (S' := fun k => w.heap.size ≤ k ∧ k < w4.heap.size) fun k hk => ⟨Nat.le_trans B3.out.size hk.1, hk.2⟩)
  have HPL : Hid ((slvP ps v s).length = nP) := qh hPL
  obtain ⟨hMc1, hMc2⟩ := hMc
  obtain ⟨hPc1, hPc2⟩ := hPc
  clear hb4 hM hP hPL hyy f0 f1 F3 T3 W3 B3 HSV
  by_cases hy0 : y = 0
  ·subst hy0
   have hb5 : Below w4.heap.size w4 (w4.alloc (.cells #[.slice AM nM cM, .slice AP nP cP] 59)) := (Below.refl _ w4).alloc (qr _) _
   have T5 := qh (T4.out.below hb5 T4.out.lt)
   have W5 := qh (W4.out.below hb5 W4.out.lt)
   have B5 := qh (B4.out.trans (hb5.mono B4.out.size))
   have A5 := qh (Whole.new w4 w4.heap.size 59 [.slice AM nM cM, .slice AP nP cP] rfl)
   have a0 := A5.out.cell 0; have a1 := A5.out.cell 1
   simp only [qgz, qgs] at a0 a1
   by_cases hp0 : nP = 0
   ·subst hp0
    have hpn : slvP ps v s = [] := List.length_eq_zero_iff.1 HPL.out
    obtain ⟨hE0, hV0, hR0⟩ := res_setE HZ.out HY.out hpn
    have HSE := qh (by
     have h := HSt.out AM nM cM (slvM ps v s) (w4.alloc (.cells #[.slice AM nM cM, .slice AP 0 cP] 59)) B5.out (RBools.more (RBools.below HM.out hb5 fun k hk => hk) fun k hk => ql hk hb5.size) ⟨hMc1, hMc2⟩
     unfold SetP at h
     rw [hE0, hV0] at h
     exact h)
    have t0 := T5.out.cell 0; have u0 := W5.out.cell 0; have u1 := W5.out.cell 1; have u2 := W5.out.cell 2; have u3 := W5.out.cell 3
    simp only [qgz, qgs] at t0 u0 u1 u2 u3
    have HRP : Hid (resP ps v s = []) := qh (by unfold resP; rw [if_neg (by rw [HZ.out, HY.out]; simp)]; exact hpn)
    have HR0 := qh hR0
    unfold maxLen at hMc2
    clear hb5 hE0 hV0 hR0 hpn
    go_wp2_with (first | (go_at_call 15; refine HSE.out.mono ?_; rintro e w6 ⟨Aq, cq, rfl, hq, hq1, hq2, hb6⟩; refine Hid.out ?_))
    refine qh ?_
    have B6 := qh (B5.out.trans (hb6.mono B5.out.size))
    have HQ := qh (hq.more (S' := fun k => w.heap.size ≤ k ∧ k < w6.heap.size) fun k hk => ⟨Nat.le_trans B5.out.size hk.1, hk.2⟩)
    clear hb6 hq
    go_wp2
    go_ret3
    exact ⟨Aq, _, cq, none, 0, 0, by rw [HR0.out]; rfl, HQ.out, hq1, hq2, by rw [HRP.out]; exact RClauses.nil_, qr _, Nat.zero_le _, B6.out⟩
   ·have hp1 : (0 : Int) < nP := by omega
    have HRP : Hid (resP ps v s = slvP ps v s) := qh (by unfold resP; rw [if_neg (by rw [HZ.out, HY.out]; simp)])
    have HR7 : Hid (resE ps v s = 7) := qh (by unfold resE; rw [if_neg (by rw [HZ.out]; simp), if_neg (by rw [HY.out]; simp), if_pos (by rw [HPL.out]; omega)])
    have HP5 := qh ((HP.out.below hb5 fun k hk => hk.2).more (S' := fun k => w.heap.size ≤ k ∧ k < (w4.alloc (.cells #[.slice AM nM cM, .slice AP nP cP] 59)).heap.size) fun k hk => ⟨hk.1, ql hk.2 hb5.size⟩)
    unfold maxLen at hPc2
    clear hb5
    go_upto_region 8 with fail
    go_region
    go_wp2
    go_ret3
    exact ⟨none, 0, 0, AP, nP, cP, by rw [HR7.out]; rfl, by unfold resM; rw [if_neg (by rw [HR7.out]; decide)]; exact RSet.nil_, qr _, Nat.zero_le _, by rw [HRP.out]; exact HP5.out.keep fun _ _ => rfl, hPc1, hPc2, below_drewN B5.out 1⟩
  ·have hyb : (y == 0) = false := by simpa using hy0
   have HRY : Hid (resE ps v s = y) := qh (by unfold resE; rw [if_neg (by rw [HZ.out]; simp), if_pos (by rw [HY.out]; exact hy0)]; exact HY.out)
   have HRP : Hid (resP ps v s = []) := qh (by unfold resP; rw [if_pos (.inr (by rw [HY.out]; exact hy0))])
   have B5 : Hid (Below w.heap.size w (w4.alloc (.cells #[.slice AM nM cM, .slice AP nP cP] 59))) := qh (B4.out.alloc B4.out.size _)
   go_wp2
   go_ret3
   exact ResolveP.err HRY.out hy0 HRP.out B5.out
 ·have hzb : (z == 0) = false := by simpa using hz0
  have HRZ := qh (res_bad (s := s) (by rw [HZ.out]; exact hz0))
  have B3 : Hid (Below w.heap.size w (w2.alloc (.cells #[.int .i64 (encN ps v : Int), .slice F L cF] 33))) := qh (B2.out.alloc B2.out.size _)
  go_wp2
  go_ret3
  exact ResolveP.err (HRZ.out.1.trans HZ.out) hz0 HRZ.out.2.2 B3.out
end
end Go.Proofs.YtedbhlgjcnnknaaGreatDoor
