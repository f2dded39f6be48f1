/- NeedBack, walked: it returns true. -/
import Derived.Test.YtnkmonmkhmcgaaaGreatDoorNW12
import Derived.Deep.DeepCutAuto
namespace Go.Proofs.YtnkmonmkhmcgaaaGreatDoor
open Go.RowKit Qm

/-- Two needs in their boxes. -/
structure Tb (w : World) (S : Nat → Prop) (x1 x2 : List Value) (y z : Nd) (wx : World) : Prop where
  a : Whole wx w.heap.size 26 x1
  b : Whole wx (w.heap.size + 1) 26 x2
  r1 : RNd wx S x1 y
  r2 : RNd wx S x2 z
  bel : Below w.heap.size w wx
  lt : ∀ k, S k → k < w.heap.size
theorem Tb.ltx {w wx : World} {S : Nat → Prop} {x1 x2 : List Value} {y z : Nd} (h : Tb w S x1 x2 y z wx) : ∀ k, S k → k < wx.heap.size := fun k hk => Nat.lt_of_lt_of_le (h.lt k hk) h.bel.size
theorem Tb.below {w wx wy : World} {S : Nat → Prop} {x1 x2 : List Value} {y z : Nd} (h : Tb w S x1 x2 y z wx) (hb : Below wx.heap.size wx wy) : Tb w S x1 x2 y z wy :=
  ⟨h.a.below hb h.a.lt, h.b.below hb h.b.lt, h.r1.under hb h.ltx, h.r2.under hb h.ltx, h.bel.trans (hb.mono h.bel.size), h.lt⟩
theorem Tb.mk0 (w : World) (S : Nat → Prop) {x1 x2 : List Value} {y z : Nd} (h1 : RNd w S x1 y) (h2 : RNd w S x2 z) (hS : ∀ k, S k → k < w.heap.size) : Tb w S x1 x2 y z ((w.alloc (.cells x1.toArray 26)).alloc (.cells x2.toArray 26)) := by
  have hb : Below w.heap.size w ((w.alloc (.cells x1.toArray 26)).alloc (.cells x2.toArray 26)) := ((Below.refl _ w).alloc (Nat.le_refl _) _).alloc (by simp) _
  exact ⟨(Whole.new w _ _ x1 rfl).alloc _, Whole.new (w.alloc (.cells x1.toArray 26)) (w.heap.size + 1) _ x2 (by simp), h1.under hb hS, h2.under hb hS, hb, hS⟩

set_option maxRecDepth 100000 in
set_option maxHeartbeats 6400000 in
theorem needBack_any (y z : Nd) (S : Nat → Prop) (x1 x2 : List Value) (t : ByteArray) (w : World) (h1 : RNd w S x1 y) (h2 : RNd w S x2 z) (hS : ∀ k, S k → k < w.heap.size) (ht : t.size ≤ maxLen) (hL : LaidV w) (hM : MaxW w) :
    Calls Tryz.prog 3 #[.agg x1.toArray, .agg x2.toArray, .string t] w fun e w' => e = .returned (.bool true) ∧ Below w.heap.size w w' := by
  have HLV := Lib.hid hL; have HMV := Lib.hid hM; clear hL hM
  have T0 := Lib.hid (Tb.mk0 w S h1 h2 hS)
  have hp1 := fun wx h1 h2 => nprint_any y S x1 wx h1 h2
  have hp2 := fun wx h1 h2 => nprint_any z S x2 wx h1 h2
  have hsm := fun wx h1 h2 h3 => same_any y z S x1 x2 wx h1 h2 h3
  have hnd := fun wx h1 h2 => needed_any wx h1 h2
  have hEQ : Hid (ckNeed y = 0 → ckNeed z = 0 → (printNd y == printNd z) = sameNd y z) := Lib.hid fun a b => by
    have e1 : printNd y = ndText y := by unfold printNd; rw [if_pos a]
    have e2 : printNd z = ndText z := by unfold printNd; rw [if_pos b]
    rw [e1, e2, Bool.eq_iff_iff, same_iff, beq_iff_eq]
    exact ⟨fun h => ndText_inj a b h, fun h => by rw [h]⟩
  have hPK : Hid (ckNeed y = 0 → parseNd (printNd y) = (y, 0) ∧ (printNd y).length ≤ 4000) := Lib.hid fun a => by
    have e1 : printNd y = ndText y := by unfold printNd; rw [if_pos a]
    rw [e1]
    exact ⟨parseNd_text a, ndText_len a⟩
  generalize printNd y = p1 at hp1 hEQ hPK
  generalize printNd z = p2 at hp2 hEQ
  generalize ckNeed y = q1 at hp1 hEQ hPK
  generalize ckNeed z = q2 at hp2 hEQ
  generalize sameNd y z = sm at hsm hEQ
  have hsy := fun S2 cx wx h1 h2 h3 => same_any y y S2 cx x1 wx h1 h2 h3
  rw [(same_iff y y).2 rfl] at hsy
  have hpy := fun (q : Int) (l : Qm.W) (hq : parseNd l = (y, q)) e wa wb (h : NParsePost wa l e wb) => (show NParsePost wa l e wb ∧ parseNd l = (y, q) from ⟨h, hq⟩)
  obtain ⟨k, a, f, no, ks⟩ := y
  obtain ⟨k2, a2, g2, no2, ks2⟩ := z
  obtain ⟨A, n, c, rfl, -⟩ := h1.open_
  obtain ⟨A2, n2, c2, rfl, -⟩ := h2.open_
  clear h1 h2 hS hpy
  obtain ⟨nm, op, ver, slot, fl, on⟩ := a
  obtain ⟨nm2, op2, ver2, slot2, fl2, on2⟩ := a2
  unfold ndRow at T0 hp1 hp2 hsm hsy ⊢
  have Hp1 := Lib.hid hp1; have Hp2 := Lib.hid hp2; have Hsm := Lib.hid hsm; have Hnd := Lib.hid hnd; have Hsy := Lib.hid hsy
  clear hp1 hp2 hsm hnd hsy
  go_enter Tryz.func3, Tryz.ntmps3
  go_wp2_with (first | (go_at_call 5; with_reducible refine (Hp1.out _ T0.out.r1 T0.out.ltx).mono ?_; rintro e w1 ⟨rfl, hb1⟩; refine Hid.out ?_))
  refine Lib.hid ?_
  have T1 := Lib.hid (T0.out.below hb1); clear hb1 T0
  have f0 := T1.out.b.cell 0; have f1 := T1.out.b.cell 1; have f2 := T1.out.b.cell 2; have f3 := T1.out.b.cell 3; have f4 := T1.out.b.cell 4; have f5 := T1.out.b.cell 5; have f6 := T1.out.b.cell 6; have f7 := T1.out.b.cell 7; have f8 := T1.out.b.cell 8; have f9 := T1.out.b.cell 9
  simp only [List.getElem?_cons_zero, List.getElem?_cons_succ] at f0 f1 f2 f3 f4 f5 f6 f7 f8 f9
  have flt := T1.out.b.lt
  go_upto_region 3 with (first | (go_at_call 5; with_reducible refine (Hp2.out _ T1.out.r2 T1.out.ltx).mono ?_; rintro e w2 ⟨rfl, hb2⟩; refine Hid.out ?_))
  refine Lib.hid ?_
  have T2 := Lib.hid (T1.out.below hb2); clear hb2 T1 Hp2
  clear f0 f1 f2 f3 f4 f5 f6 f7 f8 f9 flt
  go_upto_region 3 with fail
  go_cut [45] (fun v wx => v = .bool false ∧ Tb w S [.int .i64 k, .string ⟨nm.toArray⟩, .int .i64 op, .int .i64 ver, .int .i64 slot, .string ⟨fl.toArray⟩, .bool on, .string ⟨f.toArray⟩, .bool no, .slice A n c] [.int .i64 k2, .string ⟨nm2.toArray⟩, .int .i64 op2, .int .i64 ver2, .int .i64 slot2, .string ⟨fl2.toArray⟩, .bool on2, .string ⟨g2.toArray⟩, .bool no2, .slice A2 n2 c2] (.mk k ⟨nm, op, ver, slot, fl, on⟩ f no ks) (.mk k2 ⟨nm2, op2, ver2, slot2, fl2, on2⟩ g2 no2 ks2) wx)
  case first =>
    go_wp2_with (first | (go_at_call 6; refine (Hnd.out _ (HLV.out.below T2.out.bel) (HMV.out.below T2.out.bel)).mono ?_; rintro e w3 ⟨rfl, hb3⟩; refine Hid.out ?_))
    refine Lib.hid ?_
    have T3 := Lib.hid (T2.out.below hb3); clear hb3 T2 Hnd
    by_cases h1 : q1 = 0
    · by_cases h2 : q2 = 0
      · have e1 : (q1 == 0) = true := by simpa using h1
        have e2 : (q2 == 0) = true := by simpa using h2
        have heq := hEQ.out h1 h2
        clear h1 h2
        have d0 := T3.out.a.cell 0; have d1 := T3.out.a.cell 1; have d2 := T3.out.a.cell 2; have d3 := T3.out.a.cell 3; have d4 := T3.out.a.cell 4; have d5 := T3.out.a.cell 5; have d6 := T3.out.a.cell 6; have d7 := T3.out.a.cell 7; have d8 := T3.out.a.cell 8; have d9 := T3.out.a.cell 9
        simp only [List.getElem?_cons_zero, List.getElem?_cons_succ] at d0 d1 d2 d3 d4 d5 d6 d7 d8 d9
        have dlt := T3.out.a.lt
        have f0 := T3.out.b.cell 0; have f1 := T3.out.b.cell 1; have f2 := T3.out.b.cell 2; have f3 := T3.out.b.cell 3; have f4 := T3.out.b.cell 4; have f5 := T3.out.b.cell 5; have f6 := T3.out.b.cell 6; have f7 := T3.out.b.cell 7; have f8 := T3.out.b.cell 8; have f9 := T3.out.b.cell 9
        simp only [List.getElem?_cons_zero, List.getElem?_cons_succ] at f0 f1 f2 f3 f4 f5 f6 f7 f8 f9
        have flt := T3.out.b.lt
        cases sm
        · have e3 : (p1 == p2) = false := heq
          clear heq
          go_wp2_with (first | (go_at_call 7; refine (Hsm.out _ T3.out.r1 T3.out.r2 T3.out.ltx).mono ?_; rintro e w4 ⟨rfl, hb4⟩; refine Hid.out ?_))
          refine Lib.hid ?_
          have T4 := Lib.hid (T3.out.below hb4); clear hb4 T3
          go_wp2
          go_meet
          case rel => exact ⟨rfl, T4.out⟩
        · have e3 : p1 = p2 := by simpa using heq
          subst e3
          clear heq
          go_wp2_with (first | (go_at_call 7; refine (Hsm.out _ T3.out.r1 T3.out.r2 T3.out.ltx).mono ?_; rintro e w4 ⟨rfl, hb4⟩; refine Hid.out ?_))
          refine Lib.hid ?_
          have T4 := Lib.hid (T3.out.below hb4); clear hb4 T3
          go_wp2
          go_meet
          case rel => exact ⟨rfl, T4.out⟩
      · have e1 : (q1 == 0) = true := by simpa using h1
        have e2 : (q2 == 0) = false := by simpa using h2
        clear h1 h2
        go_wp2
        go_meet
        case rel => exact ⟨rfl, T3.out⟩
    · have e1 : (q1 == 0) = false := by simpa using h1
      clear h1
      go_wp2
      go_meet
      case rel => exact ⟨rfl, T3.out⟩
  case rest =>
    obtain ⟨rfl, T3⟩ := hcut
    replace T3 := Lib.hid T3
    clear T2 hEQ Hsm Hnd Hp1
    go_upto_if 47 with fail
    go_cut [] (fun wx => Below w.heap.size w wx)
    case first =>
      by_cases h1 : q1 = 0
      · have e1 : (q1 == 0) = true := by simpa using h1
        obtain ⟨hpp, hln⟩ := hPK.out h1
        have hpa := fun wx hL hM => (nparse_any ⟨p1.toArray⟩ wx (by rw [bsz]; unfold maxLen; omega) hL hM).mono fun e w' h => NParsePost.lit h (by rw [show (⟨p1.toArray⟩ : ByteArray).data.toList = p1 from by simp]; exact hpp)
        unfold ndRow at hpa
        have Hpa := Lib.hid hpa
        clear h1 hpp hln hpa
        go_wp2_with (first | (go_at_call 8; refine (Hpa.out _ (HLV.out.below T3.out.bel) (HMV.out.below T3.out.bel)).mono ?_; rintro e w4 ⟨A3, n3, c3, rfl, hr4, -, hb4⟩; refine Hid.out ?_))
        refine Lib.hid ?_
        have T4 := Lib.hid (T3.out.below hb4)
        clear hb4 T3
        have hal : Below w4.heap.size w4 (w4.alloc (.cells #[.int .i64 k, .string ⟨nm.toArray⟩, .int .i64 op, .int .i64 ver, .int .i64 slot, .string ⟨fl.toArray⟩, .bool on, .string ⟨f.toArray⟩, .bool no, .slice A3 n3 c3] 26)) := (Below.refl _ _).alloc (Nat.le_refl _) _
        have T5 := Lib.hid (T4.out.below hal)
        have HR5 := Lib.hid (hr4.under hal fun q hq => hq.2)
        have HS5 : Hid (∀ q, (S q ∨ (w4.heap.size ≤ w4.heap.size ∧ q < w4.heap.size)) → q < (w4.alloc (.cells #[.int .i64 k, .string ⟨nm.toArray⟩, .int .i64 op, .int .i64 ver, .int .i64 slot, .string ⟨fl.toArray⟩, .bool on, .string ⟨f.toArray⟩, .bool no, .slice A3 n3 c3] 26)).heap.size) := Lib.hid fun q hq => by
          rcases hq with hq | hq
          · exact T5.out.ltx q hq
          · exact Nat.lt_of_lt_of_le hq.2 hal.size
        have hsame := Hsy.out (fun q => S q ∨ (w4.heap.size ≤ w4.heap.size ∧ q < w4.heap.size)) _ _ (HR5.out.more fun q hq => .inr ⟨Nat.le_refl _, hq.2⟩) (T5.out.r1.more fun q hq => .inl hq) HS5.out
        have Hsame := Lib.hid hsame
        clear hsame hr4 hal HR5 HS5
        have d0 := T4.out.a.cell 0; have d1 := T4.out.a.cell 1; have d2 := T4.out.a.cell 2; have d3 := T4.out.a.cell 3; have d4 := T4.out.a.cell 4; have d5 := T4.out.a.cell 5; have d6 := T4.out.a.cell 6; have d7 := T4.out.a.cell 7; have d8 := T4.out.a.cell 8; have d9 := T4.out.a.cell 9
        simp only [List.getElem?_cons_zero, List.getElem?_cons_succ] at d0 d1 d2 d3 d4 d5 d6 d7 d8 d9
        have dlt := T4.out.a.lt
        go_wp2_with (first | (go_at_call 7; refine Hsame.out.mono ?_; rintro e w6 ⟨rfl, hb6⟩; refine Hid.out ?_))
        refine Lib.hid ?_
        have T6 := Lib.hid (T5.out.below hb6); clear hb6 T5
        go_wp2
        go_meet
        case rel => exact T6.out.bel
      · have e1 : (q1 == 0) = false := by simpa using h1
        clear h1
        go_wp2
        go_meet
        case rel => exact T3.out.bel
    case rest =>
      have HB := Lib.hid hcut
      clear hcut T3 hPK Hsy
      have hpa := fun wx hL hM => nparse_any t wx ht hL hM
      have hbk := fun x => parseNd_back (l := t.data.toList) (n := x)
      obtain ⟨⟨x, q⟩, hq⟩ : ∃ q, parseNd t.data.toList = q := ⟨_, rfl⟩
      rw [hq] at hbk
      obtain ⟨xk, xa, xf, xn, xks⟩ := x
      have hpa2 := fun wx hL hM => (hpa wx hL hM).mono fun e w' h => NParsePost.lit h hq
      have Hbk := Lib.hid hbk
      obtain ⟨xnm, xop, xver, xslot, xfl, xon⟩ := xa
      unfold ndRow at hpa2
      have Hpa := Lib.hid hpa2
      clear hpa hpa2 hbk hq
      go_wp2_with (first | (go_at_call 8; refine (Hpa.out _ (HLV.out.below HB.out) (HMV.out.below HB.out)).mono ?_; rintro e w4 ⟨A3, n3, c3, rfl, hr4, -, hb4⟩; refine Hid.out ?_))
      refine Lib.hid ?_
      have HB4 := Lib.hid (HB.out.trans (hb4.mono HB.out.size))
      have hal : Below w4.heap.size w4 (w4.alloc (.cells #[.int .i64 xk, .string ⟨xnm.toArray⟩, .int .i64 xop, .int .i64 xver, .int .i64 xslot, .string ⟨xfl.toArray⟩, .bool xon, .string ⟨xf.toArray⟩, .bool xn, .slice A3 n3 c3] 26)) := (Below.refl _ _).alloc (Nat.le_refl _) _
      have HB5 := Lib.hid (HB4.out.trans (hal.mono HB4.out.size))
      by_cases h0 : q = 0
      · subst h0
        obtain ⟨hck, htx⟩ := Hbk.out _ rfl
        have hpr := nprint_any _ _ _ _ (hr4.under hal fun q hq => hq.2) (fun q hq => Nat.lt_of_lt_of_le hq.2 hal.size)
        rw [show printNd (.mk xk ⟨xnm, xop, xver, xslot, xfl, xon⟩ xf xn xks) = t.data.toList from by unfold printNd; rw [if_pos hck, htx], hck] at hpr
        have Hpr := Lib.hid hpr
        have heq : ((⟨t.data.toList.toArray⟩ : ByteArray).toList == t.toList) = true := by rw [Lib.toList_data]; simp
        clear hpr hck htx hb4 hal hr4
        go_wp2_with (first | (go_at_call 5; refine Hpr.out.mono ?_; rintro e w6 ⟨rfl, hb6⟩; refine Hid.out ?_))
        refine Lib.hid ?_
        have HB6 := Lib.hid (HB5.out.trans (hb6.mono HB5.out.size)); clear hb6
        go_wp2
        go_ret
        exact ⟨rfl, HB6.out⟩
      · have e1 : (q == 0) = false := by simpa using h0
        clear h0 hr4 hb4 hal
        go_wp2
        go_ret
        exact ⟨rfl, HB5.out⟩
end Go.Proofs.YtnkmonmkhmcgaaaGreatDoor
