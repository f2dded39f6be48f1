/- quartermasterlaw.asked, walked: it returns true. -/
import Derived.Test.YtheccogihldjgaaDoorAW8
import Derived.Outline
namespace Go.Proofs.YtheccogihldjgaaDoor
open Go.RowKit Qm

def askS : ByteArray := ⟨#[97, 49, 62, 61, 50, 58, 49, 43, 120]⟩
theorem ask_print : (printS (atOf ⟨#[97, 49]⟩ 2 2 1 ⟨#[120]⟩ true)) = [97, 49, 62, 61, 50, 58, 49, 43, 120] ∧ printE (atOf ⟨#[97, 49]⟩ 2 2 1 ⟨#[120]⟩ true) = 0 := by
  have h : ckAtom (atOf ⟨#[97, 49]⟩ 2 2 1 ⟨#[120]⟩ true) = 0 := by decide
  unfold printS printE
  rw [if_pos h]
  refine ⟨?_, h⟩
  show textOf ⟨[97, 49], 2, 2, 1, [120], true⟩ = _
  unfold textOf
  have e2 : Lib.itoa 2 = [50] := by unfold Lib.itoa; rw [if_neg (by decide)]; exact decDigits_one (n := 2) (by decide)
  have e1 : Lib.itoa 1 = [49] := by unfold Lib.itoa; rw [if_neg (by decide)]; exact decDigits_one (n := 1) (by decide)
  simp [e1, e2, opText]
theorem ask_parse : parseAt [97, 49, 62, 61, 50, 58, 49, 43, 120] = (⟨[97, 49], 2, 2, 1, [120], true⟩, 0) := by
  have h : ckAtom (atOf ⟨#[97, 49]⟩ 2 2 1 ⟨#[120]⟩ true) = 0 := by decide
  have := parse_text h
  have e := ask_print.1
  unfold printS at e
  rw [if_pos h] at e
  rw [e] at this
  exact this

set_option maxRecDepth 100000 in
set_option maxHeartbeats 3200000 in
theorem asked_any (w : World) (hL : LaidV w) :
    Calls Tryd.prog 7 #[] w fun e w' => e = .returned (.bool true) ∧ Below w.heap.size w w' := by
  have HLV := Lib.hid hL; clear hL
  have hpr := fun wx => print_any ⟨#[97, 49]⟩ ⟨#[120]⟩ 2 2 1 true wx (by decide) (by decide)
  rw [ask_print.1, ask_print.2] at hpr
  have hpa := fun wx h => parse_any ⟨#[97, 49, 62, 61, 50, 58, 49, 43, 120]⟩ wx (by decide) h
  rw [show (⟨#[97, 49, 62, 61, 50, 58, 49, 43, 120]⟩ : ByteArray).data.toList = [97, 49, 62, 61, 50, 58, 49, 43, 120] from rfl, ask_parse] at hpa
  have hf1 := fun wx => fits_any ⟨#[97, 49]⟩ ⟨#[120]⟩ 2 2 1 3 1 true wx
  have hf2 := fun wx => fits_any ⟨#[97, 49]⟩ ⟨#[120]⟩ 2 2 1 1 1 true wx
  have hf3 := fun wx => fits_any ⟨#[97, 49]⟩ ⟨#[120]⟩ 2 2 1 2 2 true wx
  rw [show fitsP (atOf ⟨#[97, 49]⟩ 2 2 1 ⟨#[120]⟩ true) 3 1 = true from by decide] at hf1
  rw [show fitsP (atOf ⟨#[97, 49]⟩ 2 2 1 ⟨#[120]⟩ true) 1 1 = false from by decide] at hf2
  rw [show fitsP (atOf ⟨#[97, 49]⟩ 2 2 1 ⟨#[120]⟩ true) 2 2 = false from by decide] at hf3
  unfold AtEnd at hpa
  unfold atv at hpr hf1 hf2 hf3
  have B1 := Lib.hid (Boxed.new w ⟨#[97, 49]⟩ 2 2 1 ⟨#[120]⟩ true (t := 23))
  have Hpr := Lib.hid hpr; have Hpa := Lib.hid hpa; have Hf1 := Lib.hid hf1; have Hf2 := Lib.hid hf2; have Hf3 := Lib.hid hf3
  clear hpr hpa hf1 hf2 hf3
  go_enter Tryd.func7, Tryd.ntmps7
  go_wp2_with (first | (go_at_call 6; refine (Hpr.out _).mono ?_; rintro e w1 ⟨rfl, hb1⟩; refine Hid.out ?_))
  refine Lib.hid ?_
  have B2 := Lib.hid (B1.out.below hb1)
  clear B1 hb1
  go_wp2_with (first | (go_at_call 8; refine (Hpa.out _ (HLV.out.below B2.out.b)).mono ?_; rintro e w2 ⟨rfl, hb2⟩; refine Hid.out ?_))
  refine Lib.hid ?_
  have B3 := Lib.hid (B2.out.below hb2)
  clear B2 hb2
  have BB := Lib.hid (Boxed.new w2 ⟨#[97, 49]⟩ 2 2 1 ⟨#[120]⟩ true (t := 23))
  have B4 := Lib.hid (B3.out.below ((Below.refl _ w2).alloc (Nat.le_refl _) (.cells #[.string ⟨#[97, 49]⟩, .int .i64 2, .int .i64 2, .int .i64 1, .string ⟨#[120]⟩, .bool true] 23)))
  have d0 := B4.out.c0; have d1 := B4.out.c1; have d2 := B4.out.c2; have d3 := B4.out.c3; have d4 := B4.out.c4; have d5 := B4.out.c5
  have f0 := BB.out.c0; have f1 := BB.out.c1; have f2 := BB.out.c2; have f3 := BB.out.c3; have f4 := BB.out.c4; have f5 := BB.out.c5
  go_wp2_with (first | (go_at_call 10; with_reducible refine (Hf1.out _).mono ?_; rintro e w5 ⟨rfl, hb5⟩; refine Hid.out ?_))
  refine Lib.hid ?_
  have B5 := Lib.hid (B4.out.below hb5)
  clear B4 hb5 BB d0 d1 d2 d3 d4 d5 f0 f1 f2 f3 f4 f5
  have d0 := B5.out.c0; have d1 := B5.out.c1; have d2 := B5.out.c2; have d3 := B5.out.c3; have d4 := B5.out.c4; have d5 := B5.out.c5
  go_wp2_with (first | (go_at_call 10; with_reducible refine (Hf2.out _).mono ?_; rintro e w6 ⟨rfl, hb6⟩; refine Hid.out ?_))
  refine Lib.hid ?_
  have B6 := Lib.hid (B5.out.below hb6)
  clear B5 hb6 d0 d1 d2 d3 d4 d5
  have d0 := B6.out.c0; have d1 := B6.out.c1; have d2 := B6.out.c2; have d3 := B6.out.c3; have d4 := B6.out.c4; have d5 := B6.out.c5
  go_wp2_with (first | (go_at_call 10; with_reducible refine (Hf3.out _).mono ?_; rintro e w7 ⟨rfl, hb7⟩; refine Hid.out ?_))
  refine Lib.hid ?_
  have B7 := Lib.hid (B6.out.below hb7)
  clear B6 hb7 d0 d1 d2 d3 d4 d5
  go_wp2
  go_ret
  exact ⟨rfl, B7.out.b⟩
end Go.Proofs.YtheccogihldjgaaDoor
