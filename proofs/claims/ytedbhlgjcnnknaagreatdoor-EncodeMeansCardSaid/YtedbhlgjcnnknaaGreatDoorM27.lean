/- Parts of the proof: walks and plain laws, side by side. -/
import Derived.Test.YtedbhlgjcnnknaaGreatDoorM26
import Derived.Test.YtedbhlgjcnnknaaGreatDoorProg
import Derived.Test.YtedbhlgjcnnknaaGreatDoorM1
import Derived.Deep.QuietTactic
import Derived.BigQuiet
import Derived.Test.YtedbhlgjcnnknaaGreatDoorM9
import Derived.Deep.LoopGhost
import Derived.Test.YtedbhlgjcnnknaaGreatDoorM17
import Derived.Test.YtedbhlgjcnnknaaGreatDoorM25
import Derived.Test.YtedbhlgjcnnknaaGreatDoorM7
import Derived.Test.YtedbhlgjcnnknaaGreatDoorM16
import Derived.Test.YtedbhlgjcnnknaaGreatDoorM23
import Derived.Test.YtedbhlgjcnnknaaGreatDoorM10
import Derived.Maps.AppendAt
import Derived.Test.YtedbhlgjcnnknaaGreatDoorM20
import Derived.Deep.RegionHeld3
import Derived.Laws.EntriesVeiled
set_option linter.unusedVariables false
set_option linter.unusedSimpArgs false
set_option linter.unusedSectionVars false
namespace Go.Proofs.YtedbhlgjcnnknaaGreatDoor
/- What tree.Parse hands back, where the answer is known. -/
section
open Go.RowKit Qm

theorem TParsePost.lit {w w' : World} {l : Qm.W} {e : Ending} (h : TParsePost w l e w') {ps : List Pk} {i : Nat} {z : Int} (hp : parseTree l = (ps, i, z)) :
  ∃ A c, e = .returned (.tuple #[.agg #[.slice A ps.length c], .int .i64 i, .int .i64 z]) ∧ RTree w' (fun i => w.heap.size ≤ i ∧ i < w'.heap.size) A ps.length ps ∧ ps.length ≤ c ∧ c ≤ maxLen ∧ Below w.heap.size w w' := by
 obtain ⟨A, n, c, rfl, hr, h1, h2, hb⟩ := h
 rw [hp] at hr ⊢
 have hl : ps.length = n := hr.len
 subst hl
 exact ⟨A, c, rfl, hr, h1, h2, hb⟩

end
/- quartermasterlaw.small, walked: a tree of four. -/
section
open Go.RowKit Qm

def smallB : Qm.W := [97, 32, 49, 32, 49, 32, 32, 40, 32, 98, 32, 41, 10, 97, 32, 50, 32, 49, 32, 120, 32, 40, 32, 120, 63, 32, 40, 32, 98, 32, 41, 32, 41, 10, 98, 32, 49, 32, 49, 32, 32, 40, 32, 33, 99, 32, 41, 10, 99, 32, 49, 32, 49, 32, 32, 40, 32, 41, 10]
def leafW (k : Int) (c : UInt8) : Nd := .mk k ⟨[c], 0, 0, 0, [], false⟩ [] false []
def pkS (c : UInt8) (v : Int) (fs : List Qm.W) (ks : List Nd) : Pk := ⟨[c], v, 1, fs, .mk 3 At.zero [] false ks⟩
def smallT : List Pk := [pkS 97 1 [] [leafW 1 98], pkS 97 2 [[120]] [.mk 5 At.zero [120] false [leafW 1 98]], pkS 98 1 [] [leafW 2 99], pkS 99 1 [] []]
theorem parse_S : parseTree smallB = (smallT, 0, 0) := by kernel_rfl
def SmallPost (w : World) (e : Ending) (w' : World) : Prop :=
 ∃ A c, e = .returned (.tuple #[.agg #[.slice A 4 c], .bool true]) ∧ RTree w' (fun i => w.heap.size ≤ i ∧ i < w'.heap.size) A 4 smallT ∧ 4 ≤ c ∧ c ≤ maxLen ∧ Below w.heap.size w w'
set_option maxRecDepth 100000 in
set_option maxHeartbeats 3200000 in
theorem small_any (w : World) (hL : LaidV w) (hM : MaxW w) :
  Calls Tryz.prog 51 #[] w (SmallPost w) := by
 have hal : Below w.heap.size w (w.alloc (.cells #[.slice none 0 0] 24)) := (Below.refl _ w).alloc (qr _) _
 have hpa := (tparse_any smallB (w.alloc (.cells #[.slice none 0 0] 24)) (by decide) (hL.below hal) (hM.below hal)).mono fun e w' h => h.lit parse_S
 rw [show smallT.length = 4 from rfl] at hpa
 unfold smallB at hpa
 have Hpa := qh hpa
 have HA := qh hal
 have HZ := qh (Whole.new w w.heap.size 24 [.slice none 0 0] rfl)
 clear hpa hal hL hM
 go_enter Tryz.func51, Tryz.ntmps51
 go_wp2_with (first | (go_at_call 82; refine Hpa.out.mono ?_; rintro e w2 ⟨A, c, rfl, hT, hc1, hc2, hb2⟩; refine Hid.out ?_))
 refine qh ?_
 have hbx : Below w2.heap.size w2 (w2.alloc (.cells #[.slice A 4 c] 24)) := (Below.refl _ _).alloc (qr _) _
 have HW3 := qh (Whole.new w2 _ 24 [.slice A 4 c] rfl)
 have HZ3 := qh ((HZ.out.below hb2 HZ.out.lt).below hbx (HZ.out.below hb2 HZ.out.lt).lt)
 have HT3 := qh ((hT.under hbx fun k hk => hk.2).more (S' := fun i => w.heap.size < i ∧ i < w2.heap.size) fun i hi => ⟨ql HZ.out.lt hi.1, hi.2⟩)
 have HB3 := qh (HA.out.trans ((hb2.trans (hbx.mono hb2.size)).mono HA.out.size))
 have hlt3 : w.heap.size < w2.heap.size := ql HZ.out.lt hb2.size
 clear hb2 hbx hT HZ
 go_wp2
 generalize World.alloc w2 _ = w3 at *
 have t0 := HW3.out.cell 0
 have z0 := HZ3.out.cell 0
 have zf := HZ3.out.free 0
 simp only [List.getElem?_cons_zero] at t0 z0
 have zlt := HZ3.out.lt
 have tlt := HW3.out.lt
 have s0 : (w3.setCell ⟨w.heap.size, 0, none⟩ (.slice A 4 c)).drew.cell? ⟨w2.heap.size, 0, none⟩ = some (.slice A 4 c) := (HW3.out.far (p := ⟨w.heap.size, 0, none⟩) (by show w2.heap.size ≠ w.heap.size; omega) (.slice A 4 c)).cell 0
 go_region_held3 (fun w' => w'.cell? ⟨w2.heap.size, 0, none⟩ = some (.slice A 4 c))
  (first | go_keep | exact s0) (fail)
 have hW := (HZ3.out.set_ 0 (.slice A 4 c)).drew
 simp only [List.set_cons_zero] at hW
 have hf : Far (fun i => i = w.heap.size) w3 (w3.setCell ⟨w.heap.size, 0, none⟩ (.slice A 4 c)).drew := (Far.set_ (D := fun i => i = w.heap.size) rfl 0 (.slice A 4 c)).drew
 have hT : RTree (w3.setCell ⟨w.heap.size, 0, none⟩ (.slice A 4 c)).drew (fun i => w.heap.size ≤ i ∧ i < (w3.setCell ⟨w.heap.size, 0, none⟩ (.slice A 4 c)).drew.heap.size) A 4 smallT :=
  (HT3.out.keep fun q hq => hf.cell (by have := hq.2; omega) (by have := hq.1; omega)).more fun i hi => ⟨by omega, by have := hf.size; omega⟩
 have hB : Below w.heap.size w (w3.setCell ⟨w.heap.size, 0, none⟩ (.slice A 4 c)).drew := Below.drew (HB3.out.setCell (p := ⟨w.heap.size, 0, none⟩) (qr _) _)
 clear s0 t0 z0 zf zlt tlt
 generalize World.drew _ = wf at hW hT hB ⊢
 go_wp2
 have e0 := hW.cell 0
 simp only [List.getElem?_cons_zero] at e0
 refine bodyPost_ret (v := .tuple #[.agg #[_], .bool true]) (by simp [results, Tryz.results51, go_sem, e0]; exact rfl) rfl ?_
 exact ⟨A, c, rfl, hT, hc1, hc2, hB⟩
end
/- Walks: slices.Equal. -/
section
open Go.RowKit

theorem take_eq_succ {α : Type} [DecidableEq α] {xs ys : List α} {k : Nat} (d : α) (h1 : k < xs.length) (h2 : k < ys.length) (h : xs.take k = ys.take k) (he : xs.getD k d = ys.getD k d) : xs.take (k+1) = ys.take (k+1) := by
 rw [List.take_succ_eq_append_getElem h1, List.take_succ_eq_append_getElem h2, h]
 simp [List.getD, h1, h2] at he
 rw [he]
theorem eq_of_take_all {α : Type} {xs ys : List α} {n : Nat} (h1 : xs.length = n) (h2 : ys.length = n) (h : xs.take n = ys.take n) : xs = ys := by
 rwa [List.take_of_length_le (by omega), List.take_of_length_le (by omega)] at h
theorem ne_of_getD {α : Type} {xs ys : List α} {k : Nat} (d : α) (h : xs.getD k d ≠ ys.getD k d) : xs ≠ ys := fun e => h (by rw [e])

set_option maxHeartbeats 400000 in
theorem equal_int (A A' : Option Addr) (n n' c c' : Nat) (xs ys : List Int) (w : World) (S : Nat → Prop) (hx : RInts w S A n xs) (hy : RInts w S A' n' ys) (hn : n ≤ maxLen) (hn' : n' ≤ maxLen) :
  Calls Tryz.prog 32 #[.slice A n c, .slice A' n' c'] w fun e w' => e = .returned (.bool (xs == ys)) ∧ ∃ nq, w' = w.drewN nq := by
 unfold maxLen at hn hn'
 have hl := qh hx.len
 have hl' := qh hy.len
 by_cases hne : n = n'
 ·subst hne
  have h0 : ((n : Int) != (n : Int)) = false := by simp
  go_enter Tryz.func32, Tryz.ntmps32
  go_wp2
  go_loopw [13] (fun i wr => ∃ k : Nat, k ≤ n ∧ i = .int .i64 k ∧ Hid (xs.take k = ys.take k) ∧ ∃ nq, wr = w.drewN nq) (fun i _ => n - (intOf i).toNat)
  case atStart => exact ⟨0, Nat.zero_le _, rfl, by exact rfl, 0, rfl⟩
  case round =>
   obtain ⟨k, hk, rfl, Ht, nq, rfl⟩ := hrel
   by_cases hlt : k < n
   ·obtain ⟨b, o, rfl, hb, hc⟩ := hx.at_ hlt
    obtain ⟨b', o', rfl, hb', hc'⟩ := hy.at_ hlt
    generalize hu : xs.getD k 0 = u at hc
    generalize hv : ys.getD k 0 = v at hc'
    have Hu := qh hu; clear hu
    have Hv := qh hv; clear hv
    by_cases huv : u = v
    ·have h1 : (u != v) = false := by simpa using huv
     have Huv := qh huv; clear huv
     go_wp2
     go_quiet (fail)
     go_wp2
     go_roundw
     case rel => exact ⟨k + 1, by omega, by go_num, take_eq_succ 0 (by rw [hl.out]; exact hlt) (by rw [hl'.out]; exact hlt) Ht.out (by rw [Hu.out, Hv.out, Huv.out]), _, (by first | rfl | exact World.drewN_drewN _ _ _)⟩
     case measure => simp [intOf]; omega
    ·have h1 : (u != v) = true := by simpa using huv
     go_wp2
     go_quiet (fail)
     go_wp2
     go_ret
     exact ⟨ret_bool (by symm; rw [beq_eq_false_iff_ne]; exact ne_of_getD 0 (by rw [Hu.out, Hv.out]; exact huv)), _, (by first | rfl | exact World.drewN_drewN _ _ _)⟩
   ·have h1 : k = n := by omega
    subst h1
    go_wp2
    go_ret
    exact ⟨ret_bool (by symm; rw [beq_iff_eq]; exact eq_of_take_all hl.out hl'.out Ht.out), _, rfl⟩
 ·have h0 : ((n : Int) != (n' : Int)) = true := by rw [bne_iff_ne]; omega
  go_enter Tryz.func32, Tryz.ntmps32
  go_wp2
  go_ret
  exact ⟨ret_bool (by symm; rw [beq_eq_false_iff_ne]; intro e; exact hne (by rw [← hl.out, ← hl'.out, e])), 0, rfl⟩
end
/- slices.Equal of []bool, walked. -/
section
open Go.RowKit

set_option maxHeartbeats 400000 in
theorem equalB_any (A A' : Option Addr) (n n' c c' : Nat) (xs ys : List Bool) (w : World) (S : Nat → Prop) (hx : RBools w S A n xs) (hy : RBools w S A' n' ys) (hn : n ≤ maxLen) (hn' : n' ≤ maxLen) :
    Calls Tryz.prog 55 #[.slice A n c, .slice A' n' c'] w fun e w' => e = .returned (.bool (xs == ys)) ∧ ∃ nq, w' = w.drewN nq := by
  unfold maxLen at hn hn'
  have hl := qh hx.len
  have hl' := qh hy.len
  by_cases hne : n = n'
  · subst hne
    have h0 : ((n : Int) != (n : Int)) = false := by simp
    go_enter Tryz.func55, Tryz.ntmps55
    go_wp2
    go_loopw [13] (fun i wr => ∃ k : Nat, k ≤ n ∧ i = .int .i64 k ∧ Hid (xs.take k = ys.take k) ∧ ∃ nq, wr = w.drewN nq) (fun i _ => n - (intOf i).toNat)
    case atStart => exact ⟨0, Nat.zero_le _, rfl, by exact rfl, 0, rfl⟩
    case round =>
      obtain ⟨k, hk, rfl, Ht, nq, rfl⟩ := hrel
      by_cases hlt : k < n
      · obtain ⟨b, o, rfl, hb, hc⟩ := hx.at_ hlt
        obtain ⟨b', o', rfl, hb', hc'⟩ := hy.at_ hlt
        generalize hu : xs.getD k false = u at hc
        generalize hv : ys.getD k false = v at hc'
        have Hu := qh hu; clear hu
        have Hv := qh hv; clear hv
        cases u <;> cases v
        all_goals
          first
            | (have Huv : Hid (xs.getD k false = ys.getD k false) := by rw [Hu.out, Hv.out]; exact rfl
               go_wp2
               go_quiet (fail)
               go_wp2
               go_roundw
               case rel => exact ⟨k + 1, by omega, by go_num, take_eq_succ false (by rw [hl.out]; exact hlt) (by rw [hl'.out]; exact hlt) Ht.out Huv.out, _, (by first | rfl | exact World.drewN_drewN _ _ _)⟩
               case measure => simp [intOf]; omega)
            | (have Huv : Hid (xs.getD k false ≠ ys.getD k false) := by show _ ≠ _; rw [Hu.out, Hv.out]; intro h; cases h
               go_wp2
               go_quiet (fail)
               go_wp2
               go_ret
               exact ⟨ret_bool (by symm; rw [beq_eq_false_iff_ne]; exact ne_of_getD false Huv.out), _, (by first | rfl | exact World.drewN_drewN _ _ _)⟩)
      · have h1 : k = n := by omega
        subst h1
        go_wp2
        go_ret
        exact ⟨ret_bool (by symm; rw [beq_iff_eq]; exact eq_of_take_all hl.out hl'.out Ht.out), _, rfl⟩
  · have h0 : ((n : Int) != (n' : Int)) = true := by rw [bne_iff_ne]; omega
    go_enter Tryz.func55, Tryz.ntmps55
    go_wp2
    go_ret
    exact ⟨ret_bool (by symm; rw [beq_eq_false_iff_ne]; intro e; exact hne (by rw [← hl.out, ← hl'.out, e])), 0, rfl⟩

end
/- Lists held against each other, element by element. -/
section
open Go.RowKit Qm
def eqL {α : Type} (sm : α → α → Bool) : List α → List α → Bool
 | [], [] => true
 | x :: r, y :: s => sm x y && eqL sm r s
 | _, _ => false
theorem eqL_iff {α : Type} {sm : α → α → Bool} (h : ∀ x y, sm x y = true ↔ x = y) : ∀ {xs ys : List α}, eqL sm xs ys = true ↔ xs = ys
 | [], [] => by simp [eqL]
 | [], _ :: _ => by simp [eqL]
 | _ :: _, [] => by simp [eqL]
 | x :: r, y :: s => by simp only [eqL, Bool.and_eq_true, h, eqL_iff h, List.cons.injEq]
theorem eqL_len {α : Type} {sm : α → α → Bool} : ∀ {xs ys : List α}, xs.length ≠ ys.length → eqL sm xs ys = false
 | [], [], h => absurd rfl h
 | [], _ :: _, _ => rfl
 | _ :: _, [], _ => rfl
 | x :: r, y :: s, h => by
  simp only [eqL]
  rw [eqL_len (by simpa using h), Bool.and_false]
theorem eqL_step {α : Type} {sm : α → α → Bool} {xs ys : List α} {j : Nat} {x y : α} (hx : xs[j]? = some x) (hy : ys[j]? = some y) : eqL sm (xs.drop j) (ys.drop j) = (sm x y && eqL sm (xs.drop (j + 1)) (ys.drop (j + 1))) := by
 obtain ⟨h1, rfl⟩ := List.getElem?_eq_some_iff.1 hx
 obtain ⟨h2, rfl⟩ := List.getElem?_eq_some_iff.1 hy
 rw [List.drop_eq_getElem_cons h1, List.drop_eq_getElem_cons h2]
 rfl
def AsksEq {α : Type} (P : Program) (w : World) (F : FuncId) (R : List Value → α → Prop) (sm : α → α → Bool) : Prop :=
 (∀ (args : Array Value) (W : World), (callFunc F args).run P W = .ok (.enter F args) W) ∧
  ∀ (x y : α) (cx cy : List Value) (W : World), Below w.heap.size w W → R cx x → R cy y → Calls P F #[.agg cx.toArray, .agg cy.toArray] W fun e w' => e = .returned (.bool (sm x y)) ∧ Below W.heap.size W w'
end
/- slices.EqualFunc of slices whose elements have 2 cells. (Printed by wip/bin/mkeqf.py.) -/
section
open Go.RowKit Qm

def Shape_M (x : List Value) : Prop := ∃ (x0 : Int) (x1a : Option Addr) (x1n x1c : Nat), x = [.int .i64 x0, .slice x1a x1n x1c]
set_option maxRecDepth 100000 in
set_option maxHeartbeats 3200000 in
theorem equalF_M {α : Type} (R : List Value → α → Prop) (sm : α → α → Bool) (A B : Option Addr) (n c m d : Nat) (xs ys : List α) (F : FuncId) (w : World) (S : Nat → Prop) (hK : RSeq 2 R w S A n xs) (hL : RSeq 2 R w S B m ys) (hS : ∀ k, S k → k < w.heap.size) (hn : n ≤ maxLen) (hm : m ≤ maxLen) (hF : AsksEq Tryz.prog w F R sm) (hsh : ∀ x y, R x y → Shape_M x) :
  Calls Tryz.prog 53 #[.slice A n c, .slice B m d, .func (.func F) #[] #[]] w fun e w' => e = .returned (.bool (eqL sm xs ys)) ∧ Below w.heap.size w w' := by
 unfold maxLen at hn hm
 have HK := qh hK; have HL := qh hL; have HS := qh hS; have HF := qh hF; clear hK hL hS hF
 by_cases hnm : n = m
 ·subst hnm
  go_enter Tryz.func53, Tryz.ntmps53
  go_wp2
  go_loopg [17] n (fun g iv wr => ∃ (j : Nat), Hid (j + g = n) ∧ iv = .int .i64 j ∧ Hid (eqL sm xs ys = eqL sm (xs.drop j) (ys.drop j)) ∧ Below w.heap.size w wr)
  case atStart => exact ⟨0, qh (Nat.zero_add _), rfl, qh rfl, Below.refl _ _⟩
  case round =>
   obtain ⟨j, Hj, rfl, Hcl, hb⟩ := hrel
   have HBr := qh hb; clear hb
   by_cases hj : j < n
   ·obtain ⟨b, o, x, y, rfl, hb, hy, hxy, hxl, hcell⟩ := (HK.out.keep (w' := wr) (fun p hp => HBr.out.cell (HS.out _ hp)) fun _ _ h => h).at_ hj (by decide)
    obtain ⟨b', o', x', y', rfl, hb', hy', hxy', hxl', hcell'⟩ := (HL.out.keep (w' := wr) (fun p hp => HBr.out.cell (HS.out _ hp)) fun _ _ h => h).at_ hj (by decide)
    have Hdr : Hid (eqL sm (xs.drop j) (ys.drop j) = (sm y y' && eqL sm (xs.drop (j + 1)) (ys.drop (j + 1)))) := qh (eqL_step hy hy')
    have hlt : b' < wr.heap.size := ql (HS.out _ hb') HBr.out.size
    obtain ⟨x0, x1a, x1n, x1c, rfl⟩ := hsh _ _ hxy
    obtain ⟨y0, y1a, y1n, y1c, rfl⟩ := hsh _ _ hxy'
    have g0 := hcell 0 (by omega); have g1 := hcell 1 (by omega)
    have k0 := hcell' 0 (by omega); have k1 := hcell' 1 (by omega)
    simp only [List.getElem?_cons_zero, List.getElem?_cons_succ, Nat.add_zero] at g0 g1 k0 k1
    clear hcell hcell' hy hy'
    have hW1 : Below wr.heap.size wr ((wr.alloc (.cells #[.int .i64 x0, .slice x1a x1n x1c] 85)).alloc (.cells #[.int .i64 y0, .slice y1a y1n y1c] 85)) := ((Below.refl _ wr).alloc (qr _) _).alloc (by simp) _
    have hcall := HF.out.2 _ _ _ _ _ (HBr.out.trans (hW1.mono HBr.out.size)) hxy hxy'
    have henter := HF.out.1
    have HB2 := qh (HBr.out.trans (hW1.mono HBr.out.size))
    clear hW1 hxy hxy' hxl hxl'
    generalize sm y y' = q at hcall Hdr
    have Hcall := qh hcall; clear hcall
    cases q
    ·go_wp2_with fail
     refine Hcall.out.mono ?_
     rintro e w' ⟨rfl, hb'⟩
     have HB3 := qh (HB2.out.trans (hb'.mono HB2.out.size)); clear hb'
     go_wp2_with fail
     go_ret
     exact ⟨ret_bool (by rw [Hcl.out, Hdr.out]; rfl), HB3.out⟩
    ·go_wp2_with fail
     refine Hcall.out.mono ?_
     rintro e w' ⟨rfl, hb'⟩
     have HB3 := qh (HB2.out.trans (hb'.mono HB2.out.size)); clear hb'
     go_wp2_with fail
     go_roundg (gk - 1)
     case measure => have := Hj.out; omega
     case rel => exact ⟨j + 1, qh (by have := Hj.out; omega), by go_num, qh (by rw [Hcl.out, Hdr.out, Bool.true_and]), HB3.out⟩
   ·go_wp2_with fail
    go_ret
    refine ⟨ret_bool ?_, HBr.out⟩
    rw [Hcl.out, List.drop_of_length_le (by have := HK.out.len; omega), List.drop_of_length_le (by have := HL.out.len; omega)]; rfl
 ·have e1 : ((n : Int) != (m : Int)) = true := by simp; omega
  have e2 : ((n : Int) == (m : Int)) = false := by simp; omega
  have HE : Hid (eqL sm xs ys = false) := qh (eqL_len (by have := HK.out.len; have := HL.out.len; omega))
  go_enter Tryz.func53, Tryz.ntmps53
  go_wp2
  go_ret
  exact ⟨ret_bool HE.out.symm, Below.refl _ _⟩
end
/- Sets of members held against each other: tree.SameSet, quartermasterref.SameSet, walked. -/
section
open Go.RowKit Qm

def sameMem (x y : Mem) : Bool := decide (x.pl = y.pl) && (x.on == y.on)
set_option maxHeartbeats 3200000 in
theorem sameMemt_any (x y : Mem) (S : Nat → Prop) (cx cy : List Value) (w : World) (hx : RMem w S cx x) (hy : RMem w S cy y) (hS : ∀ k, S k → k < w.heap.size) :
  Calls Tryz.prog 54 #[.agg cx.toArray, .agg cy.toArray] w fun e w' => e = .returned (.bool (sameMem x y)) ∧ Below w.heap.size w w' := by
 obtain ⟨A, n, c, rfl, hn, hc, hon⟩ := hx
 obtain ⟨B, m, d, rfl, hm, hd, hon'⟩ := hy
 have hbx : Below w.heap.size w ((w.alloc (.cells #[.int .i64 x.pl, .slice A n c] 85)).alloc (.cells #[.int .i64 y.pl, .slice B m d] 85)) := ((Below.refl _ w).alloc (qr _) _).alloc (by simp) _
 have heq := equalB_any A B n m c d x.on y.on _ S (Row.keep hon fun p hp => hbx.cell (hS _ hp)) (Row.keep hon' fun p hp => hbx.cell (hS _ hp)) (Nat.le_trans hn hc) (Nat.le_trans hm hd)
 have HC : Hid (sameMem x y = (decide (x.pl = y.pl) && (x.on == y.on))) := qh rfl
 obtain ⟨pl, on⟩ := x
 obtain ⟨pl', on'⟩ := y
 dsimp only at heq HC hbx
 generalize sameMem ⟨pl, on⟩ ⟨pl', on'⟩ = R at HC ⊢
 generalize (on == on') = q at heq HC
 have Heq := qh heq
 have HB := qh hbx
 clear heq hbx hon hon' hS
 by_cases hp : pl = pl'
 ·subst hp
  have hpp : (pl == pl) = true := by simp
  have HR : Hid (R = q) := qh (by rw [HC.out, decide_eq_true rfl, Bool.true_and])
  clear HC
  go_enter Tryz.func54, Tryz.ntmps54
  go_wp2_with (first | (go_at_call 55; refine Heq.out.mono ?_; rintro e w3 ⟨rfl, nq, rfl⟩; refine Hid.out ?_))
  refine qh ?_
  go_wp2
  go_ret
  exact ⟨ret_bool (by rw [HR.out]), below_drewN HB.out _⟩
 ·have hpp : (pl == pl') = false := by simpa using hp
  have HR : Hid (R = false) := qh (by rw [HC.out, decide_eq_false hp, Bool.false_and])
  clear HC hp
  go_enter Tryz.func54, Tryz.ntmps54
  go_wp2
  go_ret
  exact ⟨ret_bool (by rw [HR.out]), HB.out⟩
set_option maxHeartbeats 3200000 in
theorem sameMemr_any (x y : Mem) (S : Nat → Prop) (cx cy : List Value) (w : World) (hx : RMem w S cx x) (hy : RMem w S cy y) (hS : ∀ k, S k → k < w.heap.size) :
  Calls Tryz.prog 70 #[.agg cx.toArray, .agg cy.toArray] w fun e w' => e = .returned (.bool (sameMem x y)) ∧ Below w.heap.size w w' := by
 obtain ⟨A, n, c, rfl, hn, hc, hon⟩ := hx
 obtain ⟨B, m, d, rfl, hm, hd, hon'⟩ := hy
 have hbx : Below w.heap.size w ((w.alloc (.cells #[.int .i64 x.pl, .slice A n c] 85)).alloc (.cells #[.int .i64 y.pl, .slice B m d] 85)) := ((Below.refl _ w).alloc (qr _) _).alloc (by simp) _
 have heq := equalB_any A B n m c d x.on y.on _ S (Row.keep hon fun p hp => hbx.cell (hS _ hp)) (Row.keep hon' fun p hp => hbx.cell (hS _ hp)) (Nat.le_trans hn hc) (Nat.le_trans hm hd)
 have HC : Hid (sameMem x y = (decide (x.pl = y.pl) && (x.on == y.on))) := qh rfl
 obtain ⟨pl, on⟩ := x
 obtain ⟨pl', on'⟩ := y
 dsimp only at heq HC hbx
 generalize sameMem ⟨pl, on⟩ ⟨pl', on'⟩ = R at HC ⊢
 generalize (on == on') = q at heq HC
 have Heq := qh heq
 have HB := qh hbx
 clear heq hbx hon hon' hS
 by_cases hp : pl = pl'
 ·subst hp
  have hpp : (pl == pl) = true := by simp
  have HR : Hid (R = q) := qh (by rw [HC.out, decide_eq_true rfl, Bool.true_and])
  clear HC
  go_enter Tryz.func70, Tryz.ntmps70
  go_wp2_with (first | (go_at_call 55; refine Heq.out.mono ?_; rintro e w3 ⟨rfl, nq, rfl⟩; refine Hid.out ?_))
  refine qh ?_
  go_wp2
  go_ret
  exact ⟨ret_bool (by rw [HR.out]), below_drewN HB.out _⟩
 ·have hpp : (pl == pl') = false := by simpa using hp
  have HR : Hid (R = false) := qh (by rw [HC.out, decide_eq_false hp, Bool.false_and])
  clear HC hp
  go_enter Tryz.func70, Tryz.ntmps70
  go_wp2
  go_ret
  exact ⟨ret_bool (by rw [HR.out]), HB.out⟩
set_option maxHeartbeats 3200000 in
theorem sameSett_any (xs ys : List Mem) (S : Nat → Prop) (A B : Option Addr) (n c m d : Nat) (w : World) (hT : RSet w S A n xs) (hU : RSet w S B m ys) (hS : ∀ k, S k → k < w.heap.size) (hn : n ≤ maxLen) (hm : m ≤ maxLen) :
  Calls Tryz.prog 16 #[.slice A n c, .slice B m d] w fun e w' => e = .returned (.bool (eqL sameMem xs ys)) ∧ Below w.heap.size w w' := by
 have hq := equalF_M (RMem w S) sameMem A B n c m d xs ys 54 w S hT hU hS hn hm
  ⟨fun args W => by kernel_rfl, fun x y cx cy W hb hx hy => sameMemt_any x y S cx cy W (hx.under hb hS) (hy.under hb hS) (fun k hk => ql (hS k hk) hb.size)⟩
  (fun x y h => by obtain ⟨A, n, c, rfl, _⟩ := h; exact ⟨_, _, _, _, rfl⟩)
 generalize eqL sameMem xs ys = q at hq ⊢
 have Hq := qh hq
 clear hq hT hU hS
 go_enter Tryz.func16, Tryz.ntmps16
 go_wp2_with (first | (go_at_call 53; refine Hq.out.mono ?_; rintro e w3 ⟨rfl, hb3⟩; refine Hid.out ?_))
 refine qh ?_
 have HB3 := qh hb3
 clear hb3
 go_wp2
 go_ret
 exact ⟨rfl, HB3.out⟩
set_option maxHeartbeats 3200000 in
theorem sameSetr_any (xs ys : List Mem) (S : Nat → Prop) (A B : Option Addr) (n c m d : Nat) (w : World) (hT : RSet w S A n xs) (hU : RSet w S B m ys) (hS : ∀ k, S k → k < w.heap.size) (hn : n ≤ maxLen) (hm : m ≤ maxLen) :
  Calls Tryz.prog 24 #[.slice A n c, .slice B m d] w fun e w' => e = .returned (.bool (eqL sameMem xs ys)) ∧ Below w.heap.size w w' := by
 have hq := equalF_M (RMem w S) sameMem A B n c m d xs ys 70 w S hT hU hS hn hm
  ⟨fun args W => by kernel_rfl, fun x y cx cy W hb hx hy => sameMemr_any x y S cx cy W (hx.under hb hS) (hy.under hb hS) (fun k hk => ql (hS k hk) hb.size)⟩
  (fun x y h => by obtain ⟨A, n, c, rfl, _⟩ := h; exact ⟨_, _, _, _, rfl⟩)
 generalize eqL sameMem xs ys = q at hq ⊢
 have Hq := qh hq
 clear hq hT hU hS
 go_enter Tryz.func24, Tryz.ntmps24
 go_wp2_with (first | (go_at_call 53; refine Hq.out.mono ?_; rintro e w3 ⟨rfl, hb3⟩; refine Hid.out ?_))
 refine qh ?_
 have HB3 := qh hb3
 clear hb3
 go_wp2
 go_ret
 exact ⟨rfl, HB3.out⟩
end
/- The closed facts on Resolve and Unmask: a small tree, three wishes. No program in sight. -/
section
open Go.RowKit Qm

end
/- resolve.Resolve, walked. -/
section
open Go.RowKit Qm

end
/- resolve.Unmask, walked (in all steps that there may be). -/
section
open Go.RowKit Qm

structure Um (w : World) (A : Option Addr) (n c : Nat) (A1 : Option Addr) (n1 c1 : Nat) (A2 : Option Addr) (n2 c2 : Nat) (A4 : Option Addr) (n4 c4 : Nat) (AM : Option Addr) (nM cM : Nat) (acc out : List Int) (cv : Value) (wr : World) : Prop where
 b : Below w.heap.size w wr
 t : Whole wr w.heap.size 24 [.slice A n c]
 wi : Whole wr (w.heap.size + 1) 30 [.slice A1 n1 c1, .slice A2 n2 c2, .slice AM nM cM, .slice A4 n4 c4]
 ms : RInts wr (fun k => w.heap.size + 1 < k ∧ k < wr.heap.size ∧ cv.ownBlock ≠ some k) AM nM acc
 hn : nM ≤ cM ∧ cM ≤ maxLen
 o : wr.ownsRow (w.heap.size + 1 + 1) 3 1 cv out.length (out.map (Value.int .i64))
section
variable {w : World} {A : Option Addr} {n c : Nat} {A1 A2 A4 AM : Option Addr} {n1 c1 n2 c2 n4 c4 nM cM : Nat} {acc out : List Int} {cv : Value} {wr wy : World}
theorem Um.lt (h : Um w A n c A1 n1 c1 A2 n2 c2 A4 n4 c4 AM nM cM acc out cv wr) : w.heap.size + 1 < wr.heap.size := h.wi.lt
end
end
/- A block that is known whole, read as elements of K cells. -/
section
open Go.RowKit Qm

theorem flat_lenG {K : Nat} : ∀ {cs : List (List Value)}, (∀ x ∈ cs, x.length = K) → cs.flatten.length = cs.length * K
 | [], _ => by simp
 | c :: r, h => by
  have := flat_lenG (K := K) (cs := r) fun x hx => h x (List.mem_cons_of_mem _ hx)
  have h0 := h c (List.mem_cons_self ..)
  rw [List.flatten_cons, List.length_append, this, h0, List.length_cons, Nat.succ_mul]; omega
theorem RSeq.whole {α : Type} {K : Nat} {R : List Value → α → Prop} {w : World} {S : Nat → Prop} {b n : Nat} {t : TypeId} (cs : List (List Value)) (ys : List α) (h : Whole w b t cs.flatten) (hl : ys.length = n) (hn : cs.length = n) (hK : ∀ x ∈ cs, x.length = K)
  (hR : ∀ (j : Nat) (x : List Value) (y : α), cs[j]? = some x → ys[j]? = some y → R x y) (hb : S b) : RSeq K R w S (some ⟨b, 0, none⟩) n ys :=
 ⟨cs, hl, hn, h.row hb (by rw [flat_lenG hK, hn]), hK, hR⟩
end
/- quartermasterlaw.resolved, walked: it returns true. -/
section
open Go.RowKit Qm

structure Re (w : World) (T : Nat) (A : Option Addr) (c : Nat) (ab : Nat) (ta : At) (KA : Option Addr) (kn : Nat) (ks : List Int) (wx : World) : Prop where
 t : RTree wx (fun i => i < T) A 4 smallT
 tb : Whole wx T 24 [.slice A 4 c]
 a : Whole wx ab 75 (atRow ta)
 m : Whole wx (T + 1 + 1) 85 [.int .i64 3, .slice none 0 0]
 v : Whole wx (T + 1 + 1 + 1) 30 [.slice (some ⟨ab, 0, none⟩) 1 1, .slice (some ⟨T + 1 + 1, 0, none⟩) 1 1, .slice KA kn kn, .slice none 0 0]
 k : RInts wx (fun i => T + 1 + 1 + 1 < i ∧ i < wx.heap.size) KA kn ks
 ok : (ta.nm.length ≤ maxLen ∧ ta.fl.length ≤ maxLen) ∧ kn ≤ maxLen ∧ ab ≠ T + 1 + 1 + 1
 bel : Below w.heap.size w wx
 hT : w.heap.size ≤ T
section
variable {w : World} {T : Nat} {A : Option Addr} {c : Nat} {ab : Nat} {ta : At} {KA : Option Addr} {kn : Nat} {ks : List Int} {wx wy : World}
end
end
/- What is wrong with a wish is never that there is none. No program in sight. -/
section
open Go.RowKit Qm

end
/- quartermasterlaw.at, walked: an index in range. -/
section
open Go.RowKit

theorem at_any (x m : Int) (w : World) (hm : 0 < m) (hm2 : m ≤ 9223372036854775807) (h0 : -9223372036854775808 ≤ x) (h1 : x ≤ 9223372036854775807) :
  Calls Tryz.prog 17 #[.int .i64 x, .int .i64 m] w fun e w' => (∃ r, e = .returned (.int .i64 r) ∧ 0 ≤ r ∧ r < m) ∧ w' = w := by
 have hr1 : -m < x.tmod m := by have := Int.lt_tmod_of_pos x hm; omega
 have hr2 : x.tmod m < m := Int.tmod_lt_of_pos x hm
 have hmz : (m == 0) = false := by simp; omega
 obtain ⟨r, hr⟩ : ∃ r, x.tmod m = r := ⟨_, rfl⟩
 rw [hr] at hr1 hr2
 have hw : IntKind.i64.wrap r = r := IntWalk.i64_in _ (by omega)
 go_enter Tryz.func17, Tryz.ntmps17
 by_cases hneg : r < 0
 ·go_wp2
  go_ret
  exact ⟨⟨_, rfl, by omega, by omega⟩, rfl⟩
 ·go_wp2
  go_ret
  exact ⟨⟨_, rfl, by omega, by omega⟩, rfl⟩
end
/- valid.holds, walked. -/
section
open Go.RowKit Qm

structure Hb (w : World) (A : Option Addr) (n c : Nat) (B : Option Addr) (q d k : Nat) (nr : List Value) (wx : World) : Prop where
 t : Whole wx w.heap.size 24 [.slice A n c]
 l : Whole wx (w.heap.size + 1) 26 [.slice B q d]
 k : Whole wx (w.heap.size + 1 + 1) 3 [.int .i64 (k : Int)]
 n : Whole wx (w.heap.size + 1 + 1 + 1) 99 nr
 e : Whole wx (w.heap.size + 1 + 1 + 1 + 1) 164 [.func (.func 112) #[] #[.pointer (some ⟨w.heap.size, 0, none⟩), .pointer (some ⟨w.heap.size + 1, 0, none⟩), .pointer (some ⟨w.heap.size + 1 + 1, 0, none⟩)]]
 bel : Below w.heap.size w wx
theorem Hb.move {w : World} {A : Option Addr} {n c : Nat} {B : Option Addr} {q d k : Nat} {nr : List Value} {wx wy : World} (h : Hb w A n c B q d k nr wx) (hb : Below wx.heap.size wx wy) : Hb w A n c B q d k nr wy :=
 ⟨h.t.below hb h.t.lt, h.l.below hb h.l.lt, h.k.below hb h.k.lt, h.n.below hb h.n.lt, h.e.below hb h.e.lt, h.bel.trans (hb.mono h.bel.size)⟩
theorem Hb.new (w : World) (A : Option Addr) (n c : Nat) (B : Option Addr) (q d k : Nat) (nr : List Value) :
  Hb w A n c B q d k nr (((((w.alloc (.cells #[.slice A n c] 24)).alloc (.cells #[.slice B q d] 26)).alloc (.cells #[.int .i64 (k : Int)] 3)).alloc (.cells nr.toArray 99)).alloc
   (.cells #[.func (.func 112) #[] #[.pointer (some ⟨w.heap.size, 0, none⟩), .pointer (some ⟨w.heap.size + 1, 0, none⟩), .pointer (some ⟨w.heap.size + 1 + 1, 0, none⟩)]] 164)) := by
 have h1 := Whole.new w _ 24 [.slice A n c] rfl
 have h2 := Whole.new (w.alloc (.cells #[.slice A n c] 24)) (w.heap.size + 1) 26 [.slice B q d] (by simp)
 have h3 := Whole.new ((w.alloc (.cells #[.slice A n c] 24)).alloc (.cells #[.slice B q d] 26)) (w.heap.size + 1 + 1) 3 [.int .i64 (k : Int)] (by simp)
 have h4 := Whole.new (((w.alloc (.cells #[.slice A n c] 24)).alloc (.cells #[.slice B q d] 26)).alloc (.cells #[.int .i64 (k : Int)] 3)) (w.heap.size + 1 + 1 + 1) 99 nr (by simp)
 exact ⟨(((h1.alloc _).alloc _).alloc _).alloc _, ((h2.alloc _).alloc _).alloc _, (h3.alloc _).alloc _, h4.alloc _, Whole.new _ _ _ [_] (by simp), (((((Below.refl _ w).alloc (qr _) _).alloc (by simp) _).alloc (by simp; omega) _).alloc (by simp; omega) _).alloc (by simp; omega) _⟩

theorem blockB_step {f : Mem → Bool} {k i : Nat} {l : List Mem} {m : Mem} (h : l[i]? = some m) : blockB f k i (l.drop i) = if i ≠ k ∧ f m = true then false else blockB f k (i + 1) (l.drop (i + 1)) := by
 obtain ⟨hj, rfl⟩ := List.getElem?_eq_some_iff.1 h
 rw [List.drop_eq_getElem_cons hj]
 rfl
theorem memAt_at {l : List Mem} {k : Nat} {m : Mem} (h : l[k]? = some m) : memAt l k = m := by
 unfold memAt
 rw [List.getD_eq_getElem?_getD, h]; rfl
theorem flagsN_kid {k : Int} {a : At} {f : Qm.W} {no : Bool} : ∀ {ks : List Nd} {x : Nd}, x ∈ ks → ∀ g ∈ flagsN x, g ∈ flagsL ks
 | y :: r, x, hx, g, hg => by
  simp only [flagsL, List.mem_append]
  rcases List.mem_cons.1 hx with rfl | hx
  ·exact .inl hg
  ·exact .inr (flagsN_kid (k := k) (a := a) (f := f) (no := no) hx g hg)
theorem any_not {α : Type} (p : α → Bool) (l : List α) : (!l.any fun x => !p x) = l.all p := by
 induction l with
 | nil => rfl
 | cons x r ih => simp only [List.any_cons, List.all_cons, Bool.not_or, Bool.not_not, ih]
set_option maxRecDepth 100000 in
set_option maxHeartbeats 6400000 in
theorem holds_any (ps : List Pk) (l : List Mem) (S : Nat → Prop) (A : Option Addr) (n c : Nat) (B : Option Addr) (q d : Nat) : ∀ (y : Nd) (k : Nat) (cx : List Value) (w : World), Cx ps l S A n c B q d w → k < q → RNd w S cx y → (∀ f ∈ flagsN y, f ∈ (pkOf ps (memAt l k).pl).fs) →
  Calls Tryz.prog 87 #[.agg #[.slice A n c], .slice B q d, .int .i64 (k : Int), .agg cx.toArray] w fun e w' => e = .returned (.bool (holdsN ps l k (memAt l k) y)) ∧ Below w.heap.size w w' := by
 refine Nd.ind fun kd a f no ks ih => ?_
 intro k cx w C hkq hx hfl
 obtain ⟨D, r, e, rfl, hre, he, h1, h2, h3, hK⟩ := hx.open_
 have HC : Hid (holdsN ps l k (memAt l k) (.mk kd a f no ks) = if kd = 1 then l.any (fun m => isA ps m a) else if kd = 2 then blockB (fun m => isA ps m a) k 0 l else if kd = 4 then someN ps l k (memAt l k) ks else if kd = 5 ∧ ifOff ps (memAt l k) f no = true then true else allN ps l k (memAt l k) ks) := qh rfl
 generalize holdsN ps l k (memAt l k) (.mk kd a f no ks) = R at HC ⊢
 have H5 := qh (Hb.new w A n c B q d k (ndRow kd a f no D r e))
 have hll := C.s.len
 have hkl : k < l.length := by omega
 -- the closures, in whatever world comes
 have Heach := qh (fun x (hx : x ∈ ks) cx' (W : World) (hb : Below w.heap.size w W) (hr : RNd w S cx' x) => ih x hx k cx' W (C.under hb) hkq (hr.under hb C.lt) (fun g hg => hfl g (by unfold flagsN; exact List.mem_append_right _ (flagsN_kid (k := kd) (a := a) (f := f) (no := no) hx g hg))))
 have HF5 : Hid (kd = 5 → f ∈ (pkOf ps (memAt l k).pl).fs) := qh fun h => hfl f (by unfold flagsN; rw [if_pos h]; simp)
 have HKD := qh hK
 have HCX := qh C
 have H1 := qh h1; have H2 := qh h2; have H3 := qh h3; have HE := qh he
 have HN := qh (show RNd w S (ndRow kd a f no D r e) (.mk kd a f no ks) from hx)
 clear hx hfl ih h1 h2 h3 hK
 have hqd := C.qd
 have hdm := C.dm
 clear C
 unfold maxLen at hdm he
 by_cases k1 : kd = 1
 ·subst k1
  have HR : Hid (R = l.any (fun m => isA ps m a)) := qh (by rw [HC.out, if_pos rfl])
  have hcf := containsF_M (RMem w S) (fun m => isA ps m a) B q d l 114 #[.pointer (some ⟨w.heap.size, 0, none⟩), .pointer (some ⟨w.heap.size + 1 + 1 + 1, 0, none⟩)] _ S (RSeq.keep HCX.out.s (fun p hp => H5.out.bel.cell (HCX.out.lt _ hp)) fun _ _ h => h) (fun x hx => ql (HCX.out.lt x hx) H5.out.bel.size) (by unfold maxLen; omega)
   ⟨fun args W => by kernel_rfl, fun m hm cx W hb hr => wants_any HCX.out a H1.out H2.out w.heap.size (w.heap.size + 1 + 1 + 1) 1 f no D r e hm cx hr W (H5.out.bel.trans (hb.mono H5.out.bel.size)) ((H5.out.move hb).t.cell 0) (fun i _ => (H5.out.move hb).n.cell i)⟩ (fun x y h => shape_mem h)
  have Hcf := qh hcf
  unfold ndRow at Hcf H5 ⊢
  clear hcf HC Heach HF5
  go_enter Tryz.func87, Tryz.ntmps87
  go_wp2_with (first | (go_at_call 84; refine Hcf.out.mono ?_; rintro e w6 ⟨rfl, hb6⟩; refine Hid.out ?_))
  refine qh ?_
  have H6 := qh (H5.out.move hb6)
  clear hb6
  go_wp2
  go_ret
  exact ⟨ret_bool HR.out.symm, H6.out.bel⟩
 by_cases k2 : kd = 2
 ·subst k2
  have HR : Hid (R = blockB (fun m => isA ps m a) k 0 l) := qh (by rw [HC.out, if_neg (by decide), if_pos rfl])
  have Hll := qh hll
  unfold ndRow at H5 ⊢
  clear HC Heach HF5
  go_enter Tryz.func87, Tryz.ntmps87
  go_wp2
  go_loopg [27] q (fun g iv wr => ∃ i : Nat, Hid (i + g = q) ∧ iv = .int .i64 i ∧ Hid (blockB (fun m => isA ps m a) k 0 l = blockB (fun m => isA ps m a) k i (l.drop i)) ∧ Hid (Hb w A n c B q d k [.int .i64 2, .string ⟨a.nm.toArray⟩, .int .i64 a.op, .int .i64 a.ver, .int .i64 a.slot, .string ⟨a.fl.toArray⟩, .bool a.on, .string ⟨f.toArray⟩, .bool no, .slice D r e] wr))
  case atStart => exact ⟨0, qh (Nat.zero_add _), rfl, qh rfl, H5⟩
  case round =>
   obtain ⟨i, Hi, rfl, Hcl, HR5⟩ := hrel
   clear H5
   by_cases hi : i < q
   ·obtain ⟨b, o, m, E, u, v, rfl, hbS, hm, huv, hv, hon, g0, g1⟩ := (HCX.out.s.under HR5.out.bel HCX.out.lt).at_ hi
    have Hst := qh (blockB_step (f := fun m => isA ps m a) (k := k) hm)
    have hbl : b < wr.heap.size := ql (HCX.out.lt _ hbS) HR5.out.bel.size
    have hal : Below wr.heap.size wr (wr.alloc (.cells #[.int .i64 m.pl, .slice E u v] 85)) := (Below.refl _ _).alloc (qr _) _
    have H6 := qh (HR5.out.move hal)
    have t0 := HR5.out.t.cell 0
    have kc0 := HR5.out.k.cell 0
    have n1 := HR5.out.n.cell 1; have n2 := HR5.out.n.cell 2; have n3 := HR5.out.n.cell 3; have n4 := HR5.out.n.cell 4; have n5 := HR5.out.n.cell 5; have n6 := HR5.out.n.cell 6
    simp only [qgz, qgs] at t0 kc0 n1 n2 n3 n4 n5 n6
    have elt := HR5.out.e.lt
    have elt0 : w.heap.size < wr.heap.size := by omega
    have elt1 : w.heap.size + 1 < wr.heap.size := by omega
    have elt2 : w.heap.size + 1 + 1 < wr.heap.size := by omega
    have elt3 : w.heap.size + 1 + 1 + 1 < wr.heap.size := by omega
    by_cases hik : i = k
    ·subst hik
     have HS : Hid (blockB (fun m => isA ps m a) i i (l.drop i) = blockB (fun m => isA ps m a) i (i + 1) (l.drop (i + 1))) := qh (by rw [Hst.out, if_neg (by simp)])
     go_wp2
     go_roundg (gk - 1)
     case measure => have := Hi.out; omega
     case rel => exact ⟨i + 1, qh (by have := Hi.out; omega), by go_num, qh (by rw [Hcl.out, HS.out]), H6⟩
    ·have hik1 : ((i : Int) != (k : Int)) = true := by simp; omega
     have His := qh (HCX.out.is (w' := wr.alloc (.cells #[.int .i64 m.pl, .slice E u v] 85)) (List.mem_of_getElem? hm) (Row.keep (w := wr) (w' := w) hon (fun p hp => (HR5.out.bel.cell (HCX.out.lt _ hp)).symm)) huv a H1.out H2.out H6.out.bel)
     clear hm hon hal
     generalize isA ps m a = x at His Hst
     cases x
     ·have HS : Hid (blockB (fun m => isA ps m a) k i (l.drop i) = blockB (fun m => isA ps m a) k (i + 1) (l.drop (i + 1))) := qh (by rw [Hst.out, if_neg (by simp)])
      go_wp2_with (first | (go_at_call 86; refine His.out.mono ?_; rintro e w7 ⟨rfl, hb7⟩; refine Hid.out ?_))
      refine qh ?_
      have H7 := qh (H6.out.move hb7)
      clear hb7 t0 kc0 n1 n2 n3 n4 n5 n6 elt elt0 elt1 elt2 elt3 hbl g0 g1
      go_wp2
      go_roundg (gk - 1)
      case measure => have := Hi.out; omega
      case rel => exact ⟨i + 1, qh (by have := Hi.out; omega), by go_num, qh (by rw [Hcl.out, HS.out]), H7⟩
     ·have HS : Hid (blockB (fun m => isA ps m a) k i (l.drop i) = false) := qh (by rw [Hst.out, if_pos ⟨hik, rfl⟩])
      go_wp2_with (first | (go_at_call 86; refine His.out.mono ?_; rintro e w7 ⟨rfl, hb7⟩; refine Hid.out ?_))
      refine qh ?_
      have H7 := qh (H6.out.move hb7)
      clear hb7 t0 kc0 n1 n2 n3 n4 n5 n6 elt elt0 elt1 elt2 elt3 hbl g0 g1
      go_wp2
      go_ret
      exact ⟨ret_bool (by rw [HR.out, Hcl.out, HS.out]), H7.out.bel⟩
   ·obtain rfl : q = i := by have := Hi.out; omega
    go_wp2
    go_ret
    exact ⟨ret_bool (by rw [HR.out, Hcl.out, List.drop_of_length_le (by have := Hll.out; omega)]; rfl), HR5.out.bel⟩
 by_cases k4 : kd = 4
 ·subst k4
  have HR : Hid (R = ks.any (holdsN ps l k (memAt l k))) := qh (by rw [HC.out, if_neg (by decide), if_neg (by decide), if_pos rfl, someN_eq])
  have hcf := containsF_N (RNd w S) (holdsN ps l k (memAt l k)) D r e ks 112 #[.pointer (some ⟨w.heap.size, 0, none⟩), .pointer (some ⟨w.heap.size + 1, 0, none⟩), .pointer (some ⟨w.heap.size + 1 + 1, 0, none⟩)] _ S (RSeq.keep (kids_seq HKD.out) (fun p hp => H5.out.bel.cell (HCX.out.lt _ hp)) fun _ _ h => h) (fun x hx => ql (HCX.out.lt x hx) H5.out.bel.size) (by unfold maxLen; omega)
   ⟨fun args W => by kernel_rfl, fun x hx cx W hb hr => each_any A B n c q d k w.heap.size (w.heap.size + 1) (w.heap.size + 1 + 1) cx (holdsN ps l k (memAt l k) x) W (shape_nd hr) ((H5.out.move hb).t.cell 0) ((H5.out.move hb).l.cell 0) ((H5.out.move hb).k.cell 0) (fun w' hb' => Heach.out x hx cx w' ((H5.out.bel.trans (hb.mono H5.out.bel.size)).trans (hb'.mono (Nat.le_trans H5.out.bel.size hb.size))) hr)⟩ (fun x y h => shape_nd h)
  generalize ks.any (holdsN ps l k (memAt l k)) = sm at hcf HR
  have Hcf := qh hcf
  unfold ndRow at Hcf H5 ⊢
  clear hcf HC Heach HF5
  go_enter Tryz.func87, Tryz.ntmps87
  go_wp2_with (first | (go_at_call 115; refine Hcf.out.mono ?_; rintro e w6 ⟨rfl, hb6⟩; refine Hid.out ?_))
  refine qh ?_
  have H6 := qh (H5.out.move hb6)
  clear hb6
  go_wp2
  go_ret
  exact ⟨ret_bool HR.out.symm, H6.out.bel⟩
 have k1' : (kd == 1) = false := by simpa using k1
 have k2' : (kd == 2) = false := by simpa using k2
 have k4' : (kd == 4) = false := by simpa using k4
 by_cases k5 : kd = 5
 ·subst k5
  have Hcf := qh (fun (wx : World) (H6 : Hb w A n c B q d k (ndRow 5 a f no D r e) wx) => containsF_N (RNd w S) (fun x => !holdsN ps l k (memAt l k) x) D r e ks 113 #[.pointer (some ⟨w.heap.size + 1 + 1 + 1 + 1, 0, none⟩)] wx S (RSeq.keep (kids_seq HKD.out) (fun p hp => H6.bel.cell (HCX.out.lt _ hp)) fun _ _ h => h) (fun x hx => ql (HCX.out.lt x hx) H6.bel.size) (by unfold maxLen; omega)
   ⟨fun args W => by kernel_rfl, fun x hx cx W hb hr => not_any A B n c q d k w.heap.size (w.heap.size + 1) (w.heap.size + 1 + 1) (w.heap.size + 1 + 1 + 1 + 1) cx (holdsN ps l k (memAt l k) x) W (shape_nd hr) ((H6.move hb).t.cell 0) ((H6.move hb).l.cell 0) ((H6.move hb).k.cell 0) ((H6.move hb).e.cell 0) (fun w' hb' => Heach.out x hx cx w' ((H6.bel.trans (hb.mono H6.bel.size)).trans (hb'.mono (Nat.le_trans H6.bel.size hb.size))) hr)⟩ (fun x y h => shape_nd h))
  have HRA : Hid ((!ks.any fun x => !holdsN ps l k (memAt l k) x) = allN ps l k (memAt l k) ks) := qh (by rw [any_not, allN_eq])
  generalize (ks.any fun x => !holdsN ps l k (memAt l k) x) = al at Hcf HRA
  generalize allN ps l k (memAt l k) ks = AL at HRA HC
  obtain ⟨b, o, m, E, u, v, rfl, hbS, hm, huv, hv, hon, g0, g1⟩ := HCX.out.s.at_ hkq
  have hme : memAt l k = m := memAt_at hm
  obtain ⟨hp0, hp1, hp2⟩ := HCX.out.ok m (List.mem_of_getElem? hm)
  have hff := HF5.out rfl
  rw [hme] at hff
  rw [hme] at HC
  have HIO : Hid (ifOff ps m f no = match ixOf f (pkOf ps m.pl).fs with | some j => onOf m.on j == no | none => false) := qh rfl
  obtain ⟨pl, on⟩ := m
  dsimp only at g0 g1 hon hp0 hp1 hp2 hff HC HIO
  have hpl := HCX.out.t.len
  obtain ⟨j, rfl⟩ : ∃ j : Nat, pl = j := ⟨pl.toNat, by omega⟩
  have hjn : j < n := by omega
  obtain ⟨b2, o2, p, F, fn, fc, kq, pa, pf, pno, G, gq, gd, rfl, hbS2, hp, hP, hcell⟩ := HCX.out.t.at_ hjn
  rw [pkOf_at hp] at hp2 hff HIO
  have h3 := hcell 3 (by omega)
  unfold pkRow ndRow at h3
  simp only [qgz, qgs] at h3
  obtain ⟨fi, hfi⟩ : ∃ fi, ixOf f p.fs = some fi := by
   cases h : ixOf f p.fs with
   | none => exact absurd hff (ixOf_none.1 h)
   | some i => exact ⟨i, rfl⟩
  have hlt := ixOf_lt hfi
  obtain ⟨b3, o3, rfl, hbS3, hbc⟩ := hon.at_ (k := fi) (by have := hon.len; omega)
  have hfu : (fi : Int) < u := by have := hon.len; omega
  have hfu0 : (0 : Int) ≤ (fi : Int) := by omega
  have HIO2 : Hid (ifOff ps ⟨(j : Int), on⟩ f no = (on.getD fi false == no)) := qh (by rw [HIO.out, hfi]; rfl)
  generalize on.getD fi false = ov at hbc HIO2
  have hix := fun wx (hb : Below w.heap.size w wx) => indexS_any F fn fc p.fs f wx S (hP.fs.row.below (w' := wx) hb HCX.out.lt) (Nat.le_trans hP.cap hP.max)
  rw [hfi] at hix
  unfold ixI at hix
  have Hix := qh hix
  have hbl : b < w.heap.size := HCX.out.lt _ hbS
  have hbl2 : b2 < w.heap.size := HCX.out.lt _ hbS2
  have hbl3 : b3 < w.heap.size := HCX.out.lt _ hbS3
  clear hix hP hcell hp hfi hlt hp2 hff hon hm HIO HF5 Heach hp0 hp1 k1 k2 k4
  unfold ndRow at H5 Hcf ⊢
  -- what the region reads, in the boxes' world
  have q0 := (H5.out.bel.cell (p := ⟨b, o + k * 2, none⟩) hbl).trans g0
  have q1 := (H5.out.bel.cell (p := ⟨b, o + k * 2 + 1, none⟩) hbl).trans g1
  have q3 := (H5.out.bel.cell (p := ⟨b2, o2 + j * 14 + 3, none⟩) hbl2).trans h3
  have qb := (H5.out.bel.cell (p := ⟨b3, o3 + fi, none⟩) hbl3).trans hbc
  have t0 := H5.out.t.cell 0
  have l0 := H5.out.l.cell 0
  have kc0 := H5.out.k.cell 0
  have n7 := H5.out.n.cell 7
  have n8 := H5.out.n.cell 8
  have n9 := H5.out.n.cell 9
  have e0 := H5.out.e.cell 0
  simp only [qgz, qgs] at t0 l0 kc0 n7 n8 n9 e0
  have hsz5 := H5.out.bel.size
  have elt := H5.out.e.lt
  have hjn1 : (j : Int) < n := by omega
  have hkq1 : (k : Int) < q := by omega
  clear g0 g1 h3 hbc
  go_enter Tryz.func87, Tryz.ntmps87
  go_wp2
  generalize World.alloc (World.alloc (World.alloc (World.alloc (World.alloc w _) _) _) _) _ = w5 at *
  have elt0 : w.heap.size < w5.heap.size := by omega
  have elt1 : w.heap.size + 1 < w5.heap.size := by omega
  have elt2 : w.heap.size + 1 + 1 < w5.heap.size := by omega
  have elt3 : w.heap.size + 1 + 1 + 1 < w5.heap.size := by omega
  go_region_held3 (fun w' => w'.cell? ⟨w.heap.size, 0, none⟩ = some (.slice (some ⟨b2, o2, none⟩) n c) ∧ w'.cell? ⟨w.heap.size + 1, 0, none⟩ = some (.slice (some ⟨b, o, none⟩) q d) ∧ w'.cell? ⟨w.heap.size + 1 + 1, 0, none⟩ = some (.int .i64 (k : Int)) ∧ w'.cell? ⟨b, o + k * 2, none⟩ = some (.int .i64 (j : Int)) ∧ w'.cell? ⟨b2, o2 + j * 14 + 3, none⟩ = some (.slice F fn fc) ∧ w'.cell? ⟨w.heap.size + 1 + 1 + 1, 7, none⟩ = some (.string ⟨f.toArray⟩))
   (first | go_keep | exact ⟨t0, l0, kc0, q0, q3, n7⟩)
   (first | (go_at_call 80; refine (Hix.out _ (below_drewN H5.out.bel 1)).mono ?_; rintro e wn ⟨rfl, hwn⟩; subst hwn) | fail)
  have H6 := qh (H5.out.move (below_drewN (Below.refl _ _) 1))
  have r0 : (w5.drewN 1).cell? ⟨b, o + k * 2, none⟩ = some (.int .i64 (j : Int)) := q0
  have r1 : (w5.drewN 1).cell? ⟨b, o + k * 2 + 1, none⟩ = some (.slice (some ⟨b3, o3, none⟩) u v) := q1
  have r3 : (w5.drewN 1).cell? ⟨b3, o3 + fi, none⟩ = some (.bool ov) := qb
  clear q0 q1 q3 qb t0 l0 kc0 n7 n8 n9 e0 hsz5 elt elt0 elt1 elt2 elt3
  generalize w5.drewN 1 = w6 at *
  have l0 := H6.out.l.cell 0
  have kc0 := H6.out.k.cell 0
  have n8 := H6.out.n.cell 8
  simp only [qgz, qgs] at l0 kc0 n8
  cases hov : (ov == no)
  ·have HIF : Hid (ifOff ps ⟨(j : Int), on⟩ f no = false) := qh (by rw [HIO2.out, hov])
   have HR : Hid (R = !al) := qh (by rw [HC.out, if_neg (by decide), if_neg (by decide), if_neg (by decide), if_neg (fun h => by rw [HIF.out] at h; exact absurd h.2 (by decide)), HRA.out])
   go_wp2
   go_quiet (fail)
   rename_i nq
   have H7 := qh (H6.out.move (below_drewN (Below.refl _ _) nq))
   clear r0 r1 r3 l0 kc0 n8
   generalize w6.drewN nq = w7 at *
   have n9 := H7.out.n.cell 9
   simp only [qgz, qgs] at n9
   have Hcf7 := qh (Hcf.out _ H7.out)
   go_wp2_with (first | (go_at_call 115; refine Hcf7.out.mono ?_; rintro e w8 ⟨rfl, hb8⟩; refine Hid.out ?_))
   refine qh ?_
   have H8 := qh (H7.out.move hb8)
   clear hb8
   go_wp2
   go_ret
   exact ⟨ret_bool HR.out.symm, H8.out.bel⟩
  ·have HIF : Hid (ifOff ps ⟨(j : Int), on⟩ f no = true) := qh (by rw [HIO2.out, hov])
   have HR : Hid (R = true) := qh (by rw [HC.out, if_neg (by decide), if_neg (by decide), if_neg (by decide), if_pos ⟨by trivial, HIF.out⟩])
   go_wp2
   go_quiet (fail)
   go_wp2
   go_ret
   exact ⟨ret_bool HR.out.symm, below_drewN H6.out.bel _⟩
 ·have k5' : (kd == 5) = false := by simpa using k5
  have Hcf := qh (fun (wx : World) (H6 : Hb w A n c B q d k (ndRow kd a f no D r e) wx) => containsF_N (RNd w S) (fun x => !holdsN ps l k (memAt l k) x) D r e ks 113 #[.pointer (some ⟨w.heap.size + 1 + 1 + 1 + 1, 0, none⟩)] wx S (RSeq.keep (kids_seq HKD.out) (fun p hp => H6.bel.cell (HCX.out.lt _ hp)) fun _ _ h => h) (fun x hx => ql (HCX.out.lt x hx) H6.bel.size) (by unfold maxLen; omega)
   ⟨fun args W => by kernel_rfl, fun x hx cx W hb hr => not_any A B n c q d k w.heap.size (w.heap.size + 1) (w.heap.size + 1 + 1) (w.heap.size + 1 + 1 + 1 + 1) cx (holdsN ps l k (memAt l k) x) W (shape_nd hr) ((H6.move hb).t.cell 0) ((H6.move hb).l.cell 0) ((H6.move hb).k.cell 0) ((H6.move hb).e.cell 0) (fun w' hb' => Heach.out x hx cx w' ((H6.bel.trans (hb.mono H6.bel.size)).trans (hb'.mono (Nat.le_trans H6.bel.size hb.size))) hr)⟩ (fun x y h => shape_nd h))
  have HRA : Hid ((!ks.any fun x => !holdsN ps l k (memAt l k) x) = allN ps l k (memAt l k) ks) := qh (by rw [any_not, allN_eq])
  generalize (ks.any fun x => !holdsN ps l k (memAt l k) x) = al at Hcf HRA
  generalize allN ps l k (memAt l k) ks = AL at HRA HC
  have HR : Hid (R = !al) := qh (by rw [HC.out, if_neg k1, if_neg k2, if_neg k4, if_neg (fun h => k5 h.1), HRA.out])
  have Hcf5 := qh (Hcf.out _ H5.out)
  unfold ndRow at Hcf5 H5 ⊢
  clear HC Heach HF5 Hcf k1 k2 k4 k5
  go_enter Tryz.func87, Tryz.ntmps87
  go_wp2_with (first | (go_at_call 115; refine Hcf5.out.mono ?_; rintro e w6 ⟨rfl, hb6⟩; refine Hid.out ?_))
  refine qh ?_
  have H6 := qh (H5.out.move hb6)
  clear hb6
  go_wp2
  go_ret
  exact ⟨ret_bool HR.out.symm, H6.out.bel⟩
end
end Go.Proofs.YtedbhlgjcnnknaaGreatDoor
