/- AtomParts, walked: it returns true. -/
import Derived.Test.YtheccogihldjgaaDoorAtomBack1
namespace Go.Proofs.YtheccogihldjgaaDoor
open Go.RowKit Qm

/-- AtomParts at work: its three boxes. -/
structure Pt (w : World) (s : ByteArray) (op ver slot : Int) (f : ByteArray) (on : Bool) (v sl : Int) (wx : World) : Prop where
  a : Whole wx w.heap.size 23 [.string s, .int .i64 op, .int .i64 ver, .int .i64 slot, .string f, .bool on]
  v : Whole wx (w.heap.size + 1) 3 [.int .i64 v]
  s : Whole wx (w.heap.size + 2) 3 [.int .i64 sl]
  b : Below w.heap.size w wx
theorem Pt.below {w : World} {s : ByteArray} {op ver slot : Int} {f : ByteArray} {on : Bool} {v sl : Int} {wx wy : World} (h : Pt w s op ver slot f on v sl wx) (hb : Below wx.heap.size wx wy) : Pt w s op ver slot f on v sl wy :=
  ⟨h.a.below hb h.a.lt, h.v.below hb h.v.lt, h.s.below hb h.s.lt, h.b.trans (hb.mono h.b.size)⟩
theorem Pt.op_ {w : World} {s : ByteArray} {op ver slot : Int} {f : ByteArray} {on : Bool} {v sl : Int} {wx : World} (h : Pt w s op ver slot f on v sl wx) (o : Int) : Pt w s o ver slot f on v sl (wx.setCell ⟨w.heap.size, 1, none⟩ (.int .i64 o)) :=
  ⟨h.a.set_ 1 _, h.v.far (by show w.heap.size + 1 ≠ w.heap.size; omega) _, h.s.far (by show w.heap.size + 2 ≠ w.heap.size; omega) _, h.b.setCell (Nat.le_refl _) _⟩
theorem Pt.slot_ {w : World} {s : ByteArray} {op ver slot : Int} {f : ByteArray} {on : Bool} {v sl : Int} {wx : World} (h : Pt w s op ver slot f on v sl wx) (o : Int) : Pt w s op ver o f on v sl (wx.setCell ⟨w.heap.size, 3, none⟩ (.int .i64 o)) :=
  ⟨h.a.set_ 3 _, h.v.far (by show w.heap.size + 1 ≠ w.heap.size; omega) _, h.s.far (by show w.heap.size + 2 ≠ w.heap.size; omega) _, h.b.setCell (Nat.le_refl _) _⟩

set_option maxHeartbeats 1600000 in
theorem of_any (w : World) (s : ByteArray) (op ver slot : Int) (f : ByteArray) (on : Bool) (v sl o : Int) (r : Bool) (hr : fitsP (atOf s o ver slot f on) v sl = r) (wx : World) (h : Pt w s op ver slot f on v sl wx) :
    Calls Tryd.prog 9 #[.int .i64 o, .pointer (some ⟨w.heap.size, 0, none⟩), .pointer (some ⟨w.heap.size + 1, 0, none⟩), .pointer (some ⟨w.heap.size + 2, 0, none⟩)] wx fun e w' =>
      e = .returned (.bool r) ∧ Pt w s o ver slot f on v sl w' := by
  have H := Lib.hid h; clear h
  have hfits := fun wy => fits_any s f o ver slot v sl on wy
  rw [hr] at hfits
  unfold atv at hfits
  have Hf := Lib.hid hfits; clear hfits hr
  have a0 := H.out.a.cell 0; have a1 := H.out.a.cell 1; have a2 := H.out.a.cell 2; have a3 := H.out.a.cell 3; have a4 := H.out.a.cell 4; have a5 := H.out.a.cell 5
  have b1 := H.out.a.free 1
  have v0 := H.out.v.cell 0; have s0 := H.out.s.cell 0
  simp only [List.getElem?_cons_zero, List.getElem?_cons_succ] at a0 a1 a2 a3 a4 a5 v0 s0
  go_enter Tryd.func9, Tryd.ntmps9
  go_wp2_with (first | (go_at_call 10; refine (Hf.out _).mono ?_; rintro e w1 ⟨rfl, hb1⟩; refine Hid.out ?_))
  refine Lib.hid ?_
  have H2 := Lib.hid ((H.out.op_ o).below hb1)
  clear H hb1 a0 a1 a2 a3 a4 a5 v0 s0 b1
  go_wp2
  go_ret
  exact ⟨rfl, H2.out⟩

theorem fits_out {s f : ByteArray} {o ver slot v sl : Int} {on : Bool} (h : slot ≠ 0 ∧ slot ≠ sl) : fitsP (atOf s o ver slot f on) v sl = false := by
  unfold fitsP; exact if_pos h
theorem fits_in {s f : ByteArray} {o ver slot v sl : Int} {on : Bool} (h : ¬ (slot ≠ 0 ∧ slot ≠ sl)) : fitsP (atOf s o ver slot f on) v sl = if o = 1 then decide (v = ver) else if o = 2 then decide (ver ≤ v) else if o = 3 then decide (v < ver) else true := by
  unfold fitsP; exact if_neg h
set_option maxRecDepth 100000 in
set_option maxHeartbeats 6400000 in
theorem atomParts_any (s f : ByteArray) (op ver slot v sl : Int) (on : Bool) (w : World) (hs : s.size ≤ maxLen) (hf : f.size ≤ maxLen) (hL : LaidV w) :
    Calls Tryd.prog 4 #[atv s op ver slot f on, .int .i64 v, .int .i64 sl] w fun e w' => e = .returned (.bool true) ∧ Below w.heap.size w w' := by
  have HLV := Lib.hid hL; clear hL
  have hck := fun wx => check_any s f op ver slot on wx hs hf
  have P1 : Hid (Pt w s op ver slot f on v sl (((w.alloc (.cells #[.string s, .int .i64 op, .int .i64 ver, .int .i64 slot, .string f, .bool on] 23)).alloc (.cells #[.int .i64 v] 3)).alloc (.cells #[.int .i64 sl] 3))) := Lib.hid
    ⟨((Whole.new w _ _ [.string s, .int .i64 op, .int .i64 ver, .int .i64 slot, .string f, .bool on] rfl).alloc _).alloc _, (Whole.new _ _ _ [.int .i64 v] (by simp)).alloc _, Whole.new _ _ _ [.int .i64 sl] (by simp),
      (((Below.refl _ w).alloc (Nat.le_refl _) _).alloc (by simp) _).alloc (by simp; omega) _⟩
  obtain ⟨q, hq⟩ : ∃ q, ckAtom (atOf s op ver slot f on) = q := ⟨_, rfl⟩
  rw [hq] at hck
  clear hq
  unfold atv at hck ⊢
  have Hck := Lib.hid hck; clear hck
  go_enter Tryd.func4, Tryd.ntmps4
  go_wp2_with (first | (go_at_call 7; refine (asked_any _ (HLV.out.below P1.out.b)).mono ?_; rintro e w3 ⟨rfl, hb3⟩; refine Hid.out ?_))
  refine Lib.hid ?_
  replace P1 := Lib.hid (P1.out.below hb3)
  clear hb3
  have d0 := P1.out.a.cell 0; have d1 := P1.out.a.cell 1; have d2 := P1.out.a.cell 2; have d3 := P1.out.a.cell 3; have d4 := P1.out.a.cell 4; have d5 := P1.out.a.cell 5
  simp only [List.getElem?_cons_zero, List.getElem?_cons_succ] at d0 d1 d2 d3 d4 d5
  go_wp2_with (first | (go_at_call 11; refine (Hck.out _).mono ?_; rintro e w1 ⟨rfl, hb1⟩; refine Hid.out ?_))
  refine Lib.hid ?_
  replace P1 := Lib.hid (P1.out.below hb1)
  clear hb1 Hck
  by_cases h0 : q = 0
  · have hk1 : (q != 0) = false := by simpa using h0
    clear h0
    have G0 : fitsP (atOf s 0 ver 0 f on) v sl = true := fits_in (by simp)
    by_cases hsl : slot ≠ 0 ∧ slot ≠ sl
    · have F0 := Lib.hid (fits_out (s := s) (f := f) (o := 0) (ver := ver) (v := v) (on := on) hsl); have F1 := Lib.hid (fits_out (s := s) (f := f) (o := 1) (ver := ver) (v := v) (on := on) hsl)
      have F2 := Lib.hid (fits_out (s := s) (f := f) (o := 2) (ver := ver) (v := v) (on := on) hsl); have F3 := Lib.hid (fits_out (s := s) (f := f) (o := 3) (ver := ver) (v := v) (on := on) hsl)
      have G0 := Lib.hid G0
      clear hsl
      clear d0 d1 d2 d3 d4 d5
      go_wp2_with (first | (go_at_call 9; refine (of_any w s _ ver slot f on v sl _ _ F0 _ P1.out).mono ?_; rintro e w5 ⟨rfl, P2⟩; refine Hid.out ?_))
      refine Lib.hid ?_
      replace P1 := Lib.hid P2
      clear P2
      go_wp2_with (first | (go_at_call 9; refine (of_any w s _ ver slot f on v sl _ _ F1 _ P1.out).mono ?_; rintro e w5 ⟨rfl, P2⟩; refine Hid.out ?_))
      refine Lib.hid ?_
      replace P1 := Lib.hid P2
      clear P2
      go_wp2_with (first | (go_at_call 9; refine (of_any w s _ ver slot f on v sl _ _ F2 _ P1.out).mono ?_; rintro e w5 ⟨rfl, P2⟩; refine Hid.out ?_))
      refine Lib.hid ?_
      replace P1 := Lib.hid P2
      clear P2
      go_wp2_with (first | (go_at_call 9; refine (of_any w s _ ver slot f on v sl _ _ F3 _ P1.out).mono ?_; rintro e w5 ⟨rfl, P2⟩; refine Hid.out ?_))
      refine Lib.hid ?_
      replace P1 := Lib.hid P2
      clear P2
      have b3 := P1.out.a.free 3
      have d3 := P1.out.a.cell 3
      simp only [List.getElem?_cons_zero, List.getElem?_cons_succ] at d3
      go_wp2
      go_ret
      exact ⟨rfl, P1.out.b.setCell (Nat.le_refl _) _⟩
    · have F0 : fitsP (atOf s 0 ver slot f on) v sl = true := fits_in hsl
      by_cases c1 : v < ver
      · have F1 : fitsP (atOf s 1 ver slot f on) v sl = false := (fits_in hsl).trans (by simp; omega)
        have F2 : fitsP (atOf s 2 ver slot f on) v sl = false := (fits_in hsl).trans (by simp; omega)
        have F3 : fitsP (atOf s 3 ver slot f on) v sl = true := (fits_in hsl).trans (by simp; omega)
        have F0 := Lib.hid F0; have F1 := Lib.hid F1; have F2 := Lib.hid F2; have F3 := Lib.hid F3; have G0 := Lib.hid G0
        clear hsl c1
        clear d0 d1 d2 d3 d4 d5
        go_wp2_with (first | (go_at_call 9; refine (of_any w s _ ver slot f on v sl _ _ F0 _ P1.out).mono ?_; rintro e w5 ⟨rfl, P2⟩; refine Hid.out ?_))
        refine Lib.hid ?_
        replace P1 := Lib.hid P2
        clear P2
        go_wp2_with (first | (go_at_call 9; refine (of_any w s _ ver slot f on v sl _ _ F1 _ P1.out).mono ?_; rintro e w5 ⟨rfl, P2⟩; refine Hid.out ?_))
        refine Lib.hid ?_
        replace P1 := Lib.hid P2
        clear P2
        go_wp2_with (first | (go_at_call 9; refine (of_any w s _ ver slot f on v sl _ _ F2 _ P1.out).mono ?_; rintro e w5 ⟨rfl, P2⟩; refine Hid.out ?_))
        refine Lib.hid ?_
        replace P1 := Lib.hid P2
        clear P2
        go_wp2_with (first | (go_at_call 9; refine (of_any w s _ ver slot f on v sl _ _ F3 _ P1.out).mono ?_; rintro e w5 ⟨rfl, P2⟩; refine Hid.out ?_))
        refine Lib.hid ?_
        replace P1 := Lib.hid P2
        clear P2
        have b3 := P1.out.a.free 3
        have d3 := P1.out.a.cell 3
        simp only [List.getElem?_cons_zero, List.getElem?_cons_succ] at d3
        go_wp2_with (first | (go_at_call 9; refine Hid.out ?_))
        refine Lib.hid ?_
        have P2 := Lib.hid (P1.out.slot_ 0)
        clear P1
        have P1 := P2
        clear P2 b3 d3
        go_wp2_with (first | (go_at_call 9; refine (of_any w s _ ver 0 f on v sl _ _ G0 _ P1.out).mono ?_; rintro e w5 ⟨rfl, P2⟩; refine Hid.out ?_))
        refine Lib.hid ?_
        replace P1 := Lib.hid P2
        clear P2
        go_wp2
        go_ret
        exact ⟨rfl, P1.out.b⟩
      · by_cases c2 : v = ver
        · have F1 : fitsP (atOf s 1 ver slot f on) v sl = true := (fits_in hsl).trans (by simp; omega)
          have F2 : fitsP (atOf s 2 ver slot f on) v sl = true := (fits_in hsl).trans (by simp; omega)
          have F3 : fitsP (atOf s 3 ver slot f on) v sl = false := (fits_in hsl).trans (by simp; omega)
          have G1 : fitsP (atOf s 1 ver 0 f on) v sl = true := (fits_in (by simp)).trans (by simp; omega)
          have F0 := Lib.hid F0; have F1 := Lib.hid F1; have F2 := Lib.hid F2; have F3 := Lib.hid F3; have G0 := Lib.hid G0; have G1 := Lib.hid G1
          clear hsl c1 c2
          clear d0 d1 d2 d3 d4 d5
          go_wp2_with (first | (go_at_call 9; refine (of_any w s _ ver slot f on v sl _ _ F0 _ P1.out).mono ?_; rintro e w5 ⟨rfl, P2⟩; refine Hid.out ?_))
          refine Lib.hid ?_
          replace P1 := Lib.hid P2
          clear P2
          go_wp2_with (first | (go_at_call 9; refine (of_any w s _ ver slot f on v sl _ _ F1 _ P1.out).mono ?_; rintro e w5 ⟨rfl, P2⟩; refine Hid.out ?_))
          refine Lib.hid ?_
          replace P1 := Lib.hid P2
          clear P2
          go_wp2_with (first | (go_at_call 9; refine (of_any w s _ ver slot f on v sl _ _ F2 _ P1.out).mono ?_; rintro e w5 ⟨rfl, P2⟩; refine Hid.out ?_))
          refine Lib.hid ?_
          replace P1 := Lib.hid P2
          clear P2
          go_wp2_with (first | (go_at_call 9; refine (of_any w s _ ver slot f on v sl _ _ F3 _ P1.out).mono ?_; rintro e w5 ⟨rfl, P2⟩; refine Hid.out ?_))
          refine Lib.hid ?_
          replace P1 := Lib.hid P2
          clear P2
          have b3 := P1.out.a.free 3
          have d3 := P1.out.a.cell 3
          simp only [List.getElem?_cons_zero, List.getElem?_cons_succ] at d3
          go_wp2_with (first | (go_at_call 9; refine Hid.out ?_))
          refine Lib.hid ?_
          have P2 := Lib.hid (P1.out.slot_ 0)
          clear P1
          have P1 := P2
          clear P2 b3 d3
          go_wp2_with (first | (go_at_call 9; refine (of_any w s _ ver 0 f on v sl _ _ G0 _ P1.out).mono ?_; rintro e w5 ⟨rfl, P2⟩; refine Hid.out ?_))
          refine Lib.hid ?_
          replace P1 := Lib.hid P2
          clear P2
          go_wp2_with (first | (go_at_call 9; refine (of_any w s _ ver 0 f on v sl _ _ G1 _ P1.out).mono ?_; rintro e w5 ⟨rfl, P2⟩; refine Hid.out ?_))
          refine Lib.hid ?_
          replace P1 := Lib.hid P2
          clear P2
          go_wp2
          go_ret
          exact ⟨rfl, P1.out.b⟩
        · have F1 : fitsP (atOf s 1 ver slot f on) v sl = false := (fits_in hsl).trans (by simp; omega)
          have F2 : fitsP (atOf s 2 ver slot f on) v sl = true := (fits_in hsl).trans (by simp; omega)
          have F3 : fitsP (atOf s 3 ver slot f on) v sl = false := (fits_in hsl).trans (by simp; omega)
          have F0 := Lib.hid F0; have F1 := Lib.hid F1; have F2 := Lib.hid F2; have F3 := Lib.hid F3; have G0 := Lib.hid G0
          clear hsl c1 c2
          clear d0 d1 d2 d3 d4 d5
          go_wp2_with (first | (go_at_call 9; refine (of_any w s _ ver slot f on v sl _ _ F0 _ P1.out).mono ?_; rintro e w5 ⟨rfl, P2⟩; refine Hid.out ?_))
          refine Lib.hid ?_
          replace P1 := Lib.hid P2
          clear P2
          go_wp2_with (first | (go_at_call 9; refine (of_any w s _ ver slot f on v sl _ _ F1 _ P1.out).mono ?_; rintro e w5 ⟨rfl, P2⟩; refine Hid.out ?_))
          refine Lib.hid ?_
          replace P1 := Lib.hid P2
          clear P2
          go_wp2_with (first | (go_at_call 9; refine (of_any w s _ ver slot f on v sl _ _ F2 _ P1.out).mono ?_; rintro e w5 ⟨rfl, P2⟩; refine Hid.out ?_))
          refine Lib.hid ?_
          replace P1 := Lib.hid P2
          clear P2
          go_wp2_with (first | (go_at_call 9; refine (of_any w s _ ver slot f on v sl _ _ F3 _ P1.out).mono ?_; rintro e w5 ⟨rfl, P2⟩; refine Hid.out ?_))
          refine Lib.hid ?_
          replace P1 := Lib.hid P2
          clear P2
          have b3 := P1.out.a.free 3
          have d3 := P1.out.a.cell 3
          simp only [List.getElem?_cons_zero, List.getElem?_cons_succ] at d3
          go_wp2_with (first | (go_at_call 9; refine Hid.out ?_))
          refine Lib.hid ?_
          have P2 := Lib.hid (P1.out.slot_ 0)
          clear P1
          have P1 := P2
          clear P2 b3 d3
          go_wp2_with (first | (go_at_call 9; refine (of_any w s _ ver 0 f on v sl _ _ G0 _ P1.out).mono ?_; rintro e w5 ⟨rfl, P2⟩; refine Hid.out ?_))
          refine Lib.hid ?_
          replace P1 := Lib.hid P2
          clear P2
          go_wp2
          go_ret
          exact ⟨rfl, P1.out.b⟩
  · have hk1 : (q != 0) = true := by simpa using h0
    clear h0 d0 d1 d2 d3 d4 d5
    go_wp2_with (first | (go_at_call 7; refine (asked_any _ (HLV.out.below P1.out.b)).mono ?_; rintro e w3 ⟨rfl, hb3⟩; refine Hid.out ?_))
    refine Lib.hid ?_
    replace P1 := Lib.hid (P1.out.below hb3)
    clear hb3
    go_wp2
    go_ret
    exact ⟨rfl, P1.out.b⟩
end Go.Proofs.YtheccogihldjgaaDoor
