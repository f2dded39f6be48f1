/- Parts of the proof: walks and plain laws, side by side. -/
import Derived.Test.YtnkmonmkhmcgaaaGreatDoorM10
import Derived.Deep.DeepCutAuto
import Derived.Test.YtnkmonmkhmcgaaaGreatDoorM2
import Derived.Test.YtnkmonmkhmcgaaaGreatDoorM4
import Derived.Test.YtnkmonmkhmcgaaaGreatDoorM3
import Derived.Test.YtnkmonmkhmcgaaaGreatDoorM1
import Derived.Test.YtnkmonmkhmcgaaaGreatDoorM5
import Derived.Test.YtnkmonmkhmcgaaaGreatDoorM6
import Derived.Test.YtnkmonmkhmcgaaaGreatDoorM7
import Derived.Test.YtnkmonmkhmcgaaaGreatDoorM8
import Derived.Test.YtnkmonmkhmcgaaaGreatDoorM9
set_option linter.unusedVariables false
set_option linter.unusedSimpArgs false
set_option linter.unusedSectionVars false
/- NeedBack, walked: it returns true. -/
namespace Go.Proofs.YtnkmonmkhmcgaaaGreatDoor
open Go.RowKit Qm

/-- Two needs in their boxes. -/
structure Tb (w : World) (S : Nat → Prop) (x1 x2 : List Value) (y z : Nd) (wx : World) : Prop where
  a : Whole wx w.heap.size 26 x1
  b : Whole wx (w.heap.size + 1) 26 x2
  r1 : RNd wx S x1 y
  r2 : RNd wx S x2 z
  bel : Below w.heap.size w wx
  lt : ∀ k, S k → k < w.heap.size
theorem Tb.ltx {w wx : World} {S : Nat → Prop} {x1 x2 : List Value} {y z : Nd} (h : Tb w S x1 x2 y z wx) : ∀ k, S k → k < wx.heap.size := fun k hk => Nat.lt_of_lt_of_le (h.lt k hk) h.bel.size
theorem Tb.below {w wx wy : World} {S : Nat → Prop} {x1 x2 : List Value} {y z : Nd} (h : Tb w S x1 x2 y z wx) (hb : Below wx.heap.size wx wy) : Tb w S x1 x2 y z wy :=
  ⟨h.a.below hb h.a.lt, h.b.below hb h.b.lt, h.r1.under hb h.ltx, h.r2.under hb h.ltx, h.bel.trans (hb.mono h.bel.size), h.lt⟩
theorem Tb.mk0 (w : World) (S : Nat → Prop) {x1 x2 : List Value} {y z : Nd} (h1 : RNd w S x1 y) (h2 : RNd w S x2 z) (hS : ∀ k, S k → k < w.heap.size) : Tb w S x1 x2 y z ((w.alloc (.cells x1.toArray 26)).alloc (.cells x2.toArray 26)) := by
  have hb : Below w.heap.size w ((w.alloc (.cells x1.toArray 26)).alloc (.cells x2.toArray 26)) := ((Below.refl _ w).alloc (Nat.le_refl _) _).alloc (by simp) _
  exact ⟨(Whole.new w _ _ x1 rfl).alloc _, Whole.new (w.alloc (.cells x1.toArray 26)) (w.heap.size + 1) _ x2 (by simp), h1.under hb hS, h2.under hb hS, hb, hS⟩

set_option maxRecDepth 100000 in
set_option maxHeartbeats 6400000 in
theorem needBack_any (y z : Nd) (S : Nat → Prop) (x1 x2 : List Value) (t : ByteArray) (w : World) (h1 : RNd w S x1 y) (h2 : RNd w S x2 z) (hS : ∀ k, S k → k < w.heap.size) (ht : t.size ≤ maxLen) (hL : LaidV w) (hM : MaxW w) :
    Calls Tryz.prog 3 #[.agg x1.toArray, .agg x2.toArray, .string t] w fun e w' => e = .returned (.bool true) ∧ Below w.heap.size w w' := by
  have HLV := Lib.hid hL; have HMV := Lib.hid hM; clear hL hM
  have T0 := Lib.hid (Tb.mk0 w S h1 h2 hS)
  have hp1 := fun wx h1 h2 => nprint_any y S x1 wx h1 h2
  have hp2 := fun wx h1 h2 => nprint_any z S x2 wx h1 h2
  have hsm := fun wx h1 h2 h3 => same_any y z S x1 x2 wx h1 h2 h3
  have hnd := fun wx h1 h2 => needed_any wx h1 h2
  have hEQ : Hid (ckNeed y = 0 → ckNeed z = 0 → (printNd y == printNd z) = sameNd y z) := Lib.hid fun a b => by
    have e1 : printNd y = ndText y := by unfold printNd; rw [if_pos a]
    have e2 : printNd z = ndText z := by unfold printNd; rw [if_pos b]
    rw [e1, e2, Bool.eq_iff_iff, same_iff, beq_iff_eq]
    exact ⟨fun h => ndText_inj a b h, fun h => by rw [h]⟩
  have hPK : Hid (ckNeed y = 0 → parseNd (printNd y) = (y, 0) ∧ (printNd y).length ≤ 4000) := Lib.hid fun a => by
    have e1 : printNd y = ndText y := by unfold printNd; rw [if_pos a]
    rw [e1]
    exact ⟨parseNd_text a, ndText_len a⟩
  generalize printNd y = p1 at hp1 hEQ hPK
  generalize printNd z = p2 at hp2 hEQ
  generalize ckNeed y = q1 at hp1 hEQ hPK
  generalize ckNeed z = q2 at hp2 hEQ
  generalize sameNd y z = sm at hsm hEQ
  have hsy := fun S2 cx wx h1 h2 h3 => same_any y y S2 cx x1 wx h1 h2 h3
  rw [(same_iff y y).2 rfl] at hsy
  have hpy := fun (q : Int) (l : Qm.W) (hq : parseNd l = (y, q)) e wa wb (h : NParsePost wa l e wb) => (show NParsePost wa l e wb ∧ parseNd l = (y, q) from ⟨h, hq⟩)
  obtain ⟨k, a, f, no, ks⟩ := y
  obtain ⟨k2, a2, g2, no2, ks2⟩ := z
  obtain ⟨A, n, c, rfl, -⟩ := h1.open_
  obtain ⟨A2, n2, c2, rfl, -⟩ := h2.open_
  clear h1 h2 hS hpy
  obtain ⟨nm, op, ver, slot, fl, on⟩ := a
  obtain ⟨nm2, op2, ver2, slot2, fl2, on2⟩ := a2
  unfold ndRow at T0 hp1 hp2 hsm hsy ⊢
  have Hp1 := Lib.hid hp1; have Hp2 := Lib.hid hp2; have Hsm := Lib.hid hsm; have Hnd := Lib.hid hnd; have Hsy := Lib.hid hsy
  clear hp1 hp2 hsm hnd hsy
  go_enter Tryz.func3, Tryz.ntmps3
  go_wp2_with (first | (go_at_call 5; with_reducible refine (Hp1.out _ T0.out.r1 T0.out.ltx).mono ?_; rintro e w1 ⟨rfl, hb1⟩; refine Hid.out ?_))
  refine Lib.hid ?_
  have T1 := Lib.hid (T0.out.below hb1); clear hb1 T0
  have f0 := T1.out.b.cell 0; have f1 := T1.out.b.cell 1; have f2 := T1.out.b.cell 2; have f3 := T1.out.b.cell 3; have f4 := T1.out.b.cell 4; have f5 := T1.out.b.cell 5; have f6 := T1.out.b.cell 6; have f7 := T1.out.b.cell 7; have f8 := T1.out.b.cell 8; have f9 := T1.out.b.cell 9
  simp only [List.getElem?_cons_zero, List.getElem?_cons_succ] at f0 f1 f2 f3 f4 f5 f6 f7 f8 f9
  have flt := T1.out.b.lt
  go_upto_region 3 with (first | (go_at_call 5; with_reducible refine (Hp2.out _ T1.out.r2 T1.out.ltx).mono ?_; rintro e w2 ⟨rfl, hb2⟩; refine Hid.out ?_))
  refine Lib.hid ?_
  have T2 := Lib.hid (T1.out.below hb2); clear hb2 T1 Hp2
  clear f0 f1 f2 f3 f4 f5 f6 f7 f8 f9 flt
  go_upto_region 3 with fail
  go_cut [45] (fun v wx => v = .bool false ∧ Tb w S [.int .i64 k, .string ⟨nm.toArray⟩, .int .i64 op, .int .i64 ver, .int .i64 slot, .string ⟨fl.toArray⟩, .bool on, .string ⟨f.toArray⟩, .bool no, .slice A n c] [.int .i64 k2, .string ⟨nm2.toArray⟩, .int .i64 op2, .int .i64 ver2, .int .i64 slot2, .string ⟨fl2.toArray⟩, .bool on2, .string ⟨g2.toArray⟩, .bool no2, .slice A2 n2 c2] (.mk k ⟨nm, op, ver, slot, fl, on⟩ f no ks) (.mk k2 ⟨nm2, op2, ver2, slot2, fl2, on2⟩ g2 no2 ks2) wx)
  case first =>
    go_wp2_with (first | (go_at_call 6; refine (Hnd.out _ (HLV.out.below T2.out.bel) (HMV.out.below T2.out.bel)).mono ?_; rintro e w3 ⟨rfl, hb3⟩; refine Hid.out ?_))
    refine Lib.hid ?_
    have T3 := Lib.hid (T2.out.below hb3); clear hb3 T2 Hnd
    by_cases h1 : q1 = 0
    · by_cases h2 : q2 = 0
      · have e1 : (q1 == 0) = true := by simpa using h1
        have e2 : (q2 == 0) = true := by simpa using h2
        have heq := hEQ.out h1 h2
        clear h1 h2
        have d0 := T3.out.a.cell 0; have d1 := T3.out.a.cell 1; have d2 := T3.out.a.cell 2; have d3 := T3.out.a.cell 3; have d4 := T3.out.a.cell 4; have d5 := T3.out.a.cell 5; have d6 := T3.out.a.cell 6; have d7 := T3.out.a.cell 7; have d8 := T3.out.a.cell 8; have d9 := T3.out.a.cell 9
        simp only [List.getElem?_cons_zero, List.getElem?_cons_succ] at d0 d1 d2 d3 d4 d5 d6 d7 d8 d9
        have dlt := T3.out.a.lt
        have f0 := T3.out.b.cell 0; have f1 := T3.out.b.cell 1; have f2 := T3.out.b.cell 2; have f3 := T3.out.b.cell 3; have f4 := T3.out.b.cell 4; have f5 := T3.out.b.cell 5; have f6 := T3.out.b.cell 6; have f7 := T3.out.b.cell 7; have f8 := T3.out.b.cell 8; have f9 := T3.out.b.cell 9
        simp only [List.getElem?_cons_zero, List.getElem?_cons_succ] at f0 f1 f2 f3 f4 f5 f6 f7 f8 f9
        have flt := T3.out.b.lt
        cases sm
        · have e3 : (p1 == p2) = false := heq
          clear heq
          go_wp2_with (first | (go_at_call 7; refine (Hsm.out _ T3.out.r1 T3.out.r2 T3.out.ltx).mono ?_; rintro e w4 ⟨rfl, hb4⟩; refine Hid.out ?_))
          refine Lib.hid ?_
          have T4 := Lib.hid (T3.out.below hb4); clear hb4 T3
          go_wp2
          go_meet
          case rel => exact ⟨rfl, T4.out⟩
        · have e3 : p1 = p2 := by simpa using heq
          subst e3
          clear heq
          go_wp2_with (first | (go_at_call 7; refine (Hsm.out _ T3.out.r1 T3.out.r2 T3.out.ltx).mono ?_; rintro e w4 ⟨rfl, hb4⟩; refine Hid.out ?_))
          refine Lib.hid ?_
          have T4 := Lib.hid (T3.out.below hb4); clear hb4 T3
          go_wp2
          go_meet
          case rel => exact ⟨rfl, T4.out⟩
      · have e1 : (q1 == 0) = true := by simpa using h1
        have e2 : (q2 == 0) = false := by simpa using h2
        clear h1 h2
        go_wp2
        go_meet
        case rel => exact ⟨rfl, T3.out⟩
    · have e1 : (q1 == 0) = false := by simpa using h1
      clear h1
      go_wp2
      go_meet
      case rel => exact ⟨rfl, T3.out⟩
  case rest =>
    obtain ⟨rfl, T3⟩ := hcut
    replace T3 := Lib.hid T3
    clear T2 hEQ Hsm Hnd Hp1
    go_upto_if 47 with fail
    go_cut [] (fun wx => Below w.heap.size w wx)
    case first =>
      by_cases h1 : q1 = 0
      · have e1 : (q1 == 0) = true := by simpa using h1
        obtain ⟨hpp, hln⟩ := hPK.out h1
        have hpa := fun wx hL hM => (nparse_any ⟨p1.toArray⟩ wx (by rw [bsz]; unfold maxLen; omega) hL hM).mono fun e w' h => NParsePost.lit h (by rw [show (⟨p1.toArray⟩ : ByteArray).data.toList = p1 from by simp]; exact hpp)
        unfold ndRow at hpa
        have Hpa := Lib.hid hpa
        clear h1 hpp hln hpa
        go_wp2_with (first | (go_at_call 8; refine (Hpa.out _ (HLV.out.below T3.out.bel) (HMV.out.below T3.out.bel)).mono ?_; rintro e w4 ⟨A3, n3, c3, rfl, hr4, -, hb4⟩; refine Hid.out ?_))
        refine Lib.hid ?_
        have T4 := Lib.hid (T3.out.below hb4)
        clear hb4 T3
        have hal : Below w4.heap.size w4 (w4.alloc (.cells #[.int .i64 k, .string ⟨nm.toArray⟩, .int .i64 op, .int .i64 ver, .int .i64 slot, .string ⟨fl.toArray⟩, .bool on, .string ⟨f.toArray⟩, .bool no, .slice A3 n3 c3] 26)) := (Below.refl _ _).alloc (Nat.le_refl _) _
        have T5 := Lib.hid (T4.out.below hal)
        have HR5 := Lib.hid (hr4.under hal fun q hq => hq.2)
        have HS5 : Hid (∀ q, (S q ∨ (w4.heap.size ≤ w4.heap.size ∧ q < w4.heap.size)) → q < (w4.alloc (.cells #[.int .i64 k, .string ⟨nm.toArray⟩, .int .i64 op, .int .i64 ver, .int .i64 slot, .string ⟨fl.toArray⟩, .bool on, .string ⟨f.toArray⟩, .bool no, .slice A3 n3 c3] 26)).heap.size) := Lib.hid fun q hq => by
          rcases hq with hq | hq
          · exact T5.out.ltx q hq
          · exact Nat.lt_of_lt_of_le hq.2 hal.size
        have hsame := Hsy.out (fun q => S q ∨ (w4.heap.size ≤ w4.heap.size ∧ q < w4.heap.size)) _ _ (HR5.out.more fun q hq => .inr ⟨Nat.le_refl _, hq.2⟩) (T5.out.r1.more fun q hq => .inl hq) HS5.out
        have Hsame := Lib.hid hsame
        clear hsame hr4 hal HR5 HS5
        have d0 := T4.out.a.cell 0; have d1 := T4.out.a.cell 1; have d2 := T4.out.a.cell 2; have d3 := T4.out.a.cell 3; have d4 := T4.out.a.cell 4; have d5 := T4.out.a.cell 5; have d6 := T4.out.a.cell 6; have d7 := T4.out.a.cell 7; have d8 := T4.out.a.cell 8; have d9 := T4.out.a.cell 9
        simp only [List.getElem?_cons_zero, List.getElem?_cons_succ] at d0 d1 d2 d3 d4 d5 d6 d7 d8 d9
        have dlt := T4.out.a.lt
        go_wp2_with (first | (go_at_call 7; refine Hsame.out.mono ?_; rintro e w6 ⟨rfl, hb6⟩; refine Hid.out ?_))
        refine Lib.hid ?_
        have T6 := Lib.hid (T5.out.below hb6); clear hb6 T5
        go_wp2
        go_meet
        case rel => exact T6.out.bel
      · have e1 : (q1 == 0) = false := by simpa using h1
        clear h1
        go_wp2
        go_meet
        case rel => exact T3.out.bel
    case rest =>
      have HB := Lib.hid hcut
      clear hcut T3 hPK Hsy
      have hpa := fun wx hL hM => nparse_any t wx ht hL hM
      have hbk := fun x => parseNd_back (l := t.data.toList) (n := x)
      obtain ⟨⟨x, q⟩, hq⟩ : ∃ q, parseNd t.data.toList = q := ⟨_, rfl⟩
      rw [hq] at hbk
      obtain ⟨xk, xa, xf, xn, xks⟩ := x
      have hpa2 := fun wx hL hM => (hpa wx hL hM).mono fun e w' h => NParsePost.lit h hq
      have Hbk := Lib.hid hbk
      obtain ⟨xnm, xop, xver, xslot, xfl, xon⟩ := xa
      unfold ndRow at hpa2
      have Hpa := Lib.hid hpa2
      clear hpa hpa2 hbk hq
      go_wp2_with (first | (go_at_call 8; refine (Hpa.out _ (HLV.out.below HB.out) (HMV.out.below HB.out)).mono ?_; rintro e w4 ⟨A3, n3, c3, rfl, hr4, -, hb4⟩; refine Hid.out ?_))
      refine Lib.hid ?_
      have HB4 := Lib.hid (HB.out.trans (hb4.mono HB.out.size))
      have hal : Below w4.heap.size w4 (w4.alloc (.cells #[.int .i64 xk, .string ⟨xnm.toArray⟩, .int .i64 xop, .int .i64 xver, .int .i64 xslot, .string ⟨xfl.toArray⟩, .bool xon, .string ⟨xf.toArray⟩, .bool xn, .slice A3 n3 c3] 26)) := (Below.refl _ _).alloc (Nat.le_refl _) _
      have HB5 := Lib.hid (HB4.out.trans (hal.mono HB4.out.size))
      by_cases h0 : q = 0
      · subst h0
        obtain ⟨hck, htx⟩ := Hbk.out _ rfl
        have hpr := nprint_any _ _ _ _ (hr4.under hal fun q hq => hq.2) (fun q hq => Nat.lt_of_lt_of_le hq.2 hal.size)
        rw [show printNd (.mk xk ⟨xnm, xop, xver, xslot, xfl, xon⟩ xf xn xks) = t.data.toList from by unfold printNd; rw [if_pos hck, htx], hck] at hpr
        have Hpr := Lib.hid hpr
        have heq : ((⟨t.data.toList.toArray⟩ : ByteArray).toList == t.toList) = true := by rw [Lib.toList_data]; simp
        clear hpr hck htx hb4 hal hr4
        go_wp2_with (first | (go_at_call 5; refine Hpr.out.mono ?_; rintro e w6 ⟨rfl, hb6⟩; refine Hid.out ?_))
        refine Lib.hid ?_
        have HB6 := Lib.hid (HB5.out.trans (hb6.mono HB5.out.size)); clear hb6
        go_wp2
        go_ret
        exact ⟨rfl, HB6.out⟩
      · have e1 : (q == 0) = false := by simpa using h0
        clear h0 hr4 hb4 hal
        go_wp2
        go_ret
        exact ⟨rfl, HB5.out⟩
end Go.Proofs.YtnkmonmkhmcgaaaGreatDoor

/- The document's reader with a stack answers as the program's, in plain words. -/
namespace Qm
open Go

/-- What stands open: its kind, flag, whether it has a bang, the kids so far. -/
structure Fr where
  k : Int
  f : W
  no : Bool
  ys : List Nd
def Fr.push (g : Fr) (n : Nd) : Fr := ⟨g.k, g.f, g.no, g.ys ++ [n]⟩
def Fr.shut (g : Fr) : Nd := .mk g.k At.zero g.f g.no g.ys
def putS (rc : List Fr → List W → Option Nd) (n : Nd) : List Fr → List W → Option Nd
  | [], r => if r = [] then some n else none
  | g :: gs, r => rc (g.push n :: gs) r
def openS (rc : List Fr → List W → Option Nd) (g : Fr) (fs : List Fr) : List W → Option Nd
  | [] => none
  | v :: r => if v = [40] then rc (g :: fs) r else none
def shutS (rc : List Fr → List W → Option Nd) : List Fr → List W → Option Nd
  | [], _ => none
  | g :: gs, r => putS rc g.shut gs r
def leafN_ (w : W) : Nd := .mk (if (cutBang w).2 then 2 else 1) (parseAt (cutBang w).1).1 [] false []
def itemS (rc : List Fr → List W → Option Nd) (fs : List Fr) (w : W) (r : List W) : Option Nd :=
  if w = [40] then rc (⟨3, [], false, []⟩ :: fs) r
  else if w = [124, 124] then openS rc ⟨4, [], false, []⟩ fs r
  else if w.getLast? = some 63 then
    (if isName (cutBang w.dropLast).1 then openS rc ⟨5, (cutBang w.dropLast).1, (cutBang w.dropLast).2, []⟩ fs r else none)
  else if (parseAt (cutBang w).1).2 = 0 then putS rc (leafN_ w) fs r else none
def stk : Nat → List Fr → List W → Option Nd
  | 0, _, _ => none
  | _ + 1, _, [] => none
  | f + 1, fs, w :: r => if w = [41] then shutS (stk f) fs r else if fs.length = 4 then none else itemS (stk f) fs w r

theorem stk_fuel : ∀ (f f' : Nat) (fs : List Fr) (ws : List W), ws.length < f → ws.length < f' → stk f fs ws = stk f' fs ws
  | 0, _, _, _, h, _ => by omega
  | _, 0, _, _, _, h => by omega
  | f + 1, f' + 1, fs, [], _, _ => rfl
  | f + 1, f' + 1, fs, w :: r, h, h' => by
    simp only [List.length_cons] at h h'
    have ih := fun fs => stk_fuel f f' fs r (by omega) (by omega)
    have io : ∀ g, openS (stk f) g fs r = openS (stk f') g fs r := fun g => by
      cases r with
      | nil => rfl
      | cons v r2 =>
        simp only [List.length_cons] at h h'
        simp only [openS]; rw [stk_fuel f f' _ r2 (by omega) (by omega)]
    have ip : ∀ n gs, putS (stk f) n gs r = putS (stk f') n gs r := fun n gs => by cases gs <;> simp [putS, ih]
    have is : shutS (stk f) fs r = shutS (stk f') fs r := by cases fs <;> simp [shutS, ip]
    have ii : itemS (stk f) fs w r = itemS (stk f') fs w r := by unfold itemS; rw [ih, io, io, ip]
    simp only [stk, is, ii]

/-- With fuel enough. -/
def STK (fs : List Fr) (ws : List W) : Option Nd := stk (ws.length + 1) fs ws
theorem openS_STK (g : Fr) (fs : List Fr) (r : List W) {f : Nat} (h : r.length ≤ f) : openS (stk f) g fs r = openS STK g fs r := by
  cases r with
  | nil => rfl
  | cons v r2 => simp only [openS]; simp only [List.length_cons] at h; rw [STK, stk_fuel f (r2.length + 1) _ r2 (by omega) (by omega)]
theorem putS_STK (n : Nd) (fs : List Fr) (r : List W) {f : Nat} (h : r.length < f) : putS (stk f) n fs r = putS STK n fs r := by
  cases fs with
  | nil => rfl
  | cons g gs => simp only [putS]; rw [STK, stk_fuel f (r.length + 1) _ r (by omega) (by omega)]
theorem STK_cons (fs : List Fr) (w : W) (r : List W) : STK fs (w :: r) = if w = [41] then shutS STK fs r else if fs.length = 4 then none else itemS STK fs w r := by
  have e1 : shutS (stk (r.length + 1)) fs r = shutS STK fs r := by
    cases fs with
    | nil => rfl
    | cons g gs => exact putS_STK _ _ _ (by omega)
  have e2 : itemS (stk (r.length + 1)) fs w r = itemS STK fs w r := by
    unfold itemS
    rw [openS_STK _ _ _ (by omega), openS_STK _ _ _ (by omega), putS_STK _ _ _ (by omega)]; rfl
  show stk (r.length + 1 + 1) fs (w :: r) = _
  simp only [stk, e1, e2]
theorem STK_nil (fs : List Fr) : STK fs [] = none := rfl

def contS (gs : List Fr) (g : Fr) : Option (List Nd × List W) → Option Nd
  | none => none
  | some (ks, ws') => match ws' with
    | [] => none
    | v :: r => if v = [41] then putS STK (Fr.shut ⟨g.k, g.f, g.no, g.ys ++ ks⟩) gs r else none
def contB (fs : List Fr) : Option (Nd × List W) → Option Nd
  | none => none
  | some (n, r) => putS STK n fs r
theorem contS_close (g : Fr) (gs : List Fr) (h : g.ys = []) (o : Option (List Nd × List W)) : contS gs g o = contB gs (closeB g.k g.f g.no o) := by
  rcases o with _ | ⟨ks, _ | ⟨v, r⟩⟩
  · rfl
  · rfl
  · simp only [contS, closeB]
    by_cases e : v = [41]
    · rw [if_pos e, if_pos e]; simp [contB, Fr.shut, h]
    · rw [if_neg e, if_neg e]; rfl
theorem readN_less {d : Nat} {ws us' : List W} {y : Nd} (h : readN d ws = some (y, us')) : us'.length < ws.length := by
  obtain ⟨e, _, _⟩ := of_readN _ _ _ _ h
  have hw := words_ne y
  rw [e]
  cases hq : wordsN y with
  | nil => exact absurd hq hw
  | cons a r => simp; omega

theorem stk_read : ∀ (L : Nat), (∀ (gs : List Fr) (g : Fr) (ws : List W) (F : Nat), ws.length ≤ L → gs.length < 4 → ws.length < F → STK (g :: gs) ws = contS gs g (readKids (readN (3 - gs.length)) F ws)) ∧
    (∀ (fs : List Fr) (w : W) (r : List W), r.length < L → fs.length < 4 → w ≠ [41] → STK fs (w :: r) = contB fs (readN (4 - fs.length) (w :: r))) := by
  intro L
  induction L with
  | zero =>
    refine ⟨fun gs g ws F hl hg hF => ?_, fun fs w r h => by omega⟩
    obtain rfl : ws = [] := List.eq_nil_of_length_eq_zero (by omega)
    obtain ⟨F', rfl⟩ : ∃ F', F = F' + 1 := ⟨F - 1, by omega⟩
    rfl
  | succ L ih =>
    obtain ⟨ihA, ihB⟩ := ih
    have hB : ∀ (fs : List Fr) (w : W) (r : List W), r.length < L + 1 → fs.length < 4 → w ≠ [41] → STK fs (w :: r) = contB fs (readN (4 - fs.length) (w :: r)) := by
      intro fs w r hr hf hw
      obtain ⟨d, hd⟩ : ∃ d, 4 - fs.length = d + 1 := ⟨3 - fs.length, by omega⟩
      have hd' : d = 3 - fs.length := by omega
      rw [hd, readN_cons, STK_cons, if_neg hw, if_neg (by omega)]
      have body : ∀ (k : Int) (f : W) (no : Bool) (us : List W), us.length ≤ L → STK (⟨k, f, no, []⟩ :: fs) us = contB fs (readBody (readN d) k f no us) := fun k f no us hu => by
        rw [ihA fs ⟨k, f, no, []⟩ us (us.length + 1) hu hf (by omega), contS_close _ _ rfl, ← hd']; rfl
      have opn : ∀ (k : Int) (f : W) (no : Bool), openS STK ⟨k, f, no, []⟩ fs r = contB fs (openB (readN d) k f no r) := fun k f no => by
        cases r with
        | nil => rfl
        | cons v r2 =>
          simp only [List.length_cons] at hr
          simp only [openS, openB]
          by_cases e : v = [40]
          · rw [if_pos e, if_pos e, body _ _ _ _ (by omega)]
          · rw [if_neg e, if_neg e]; rfl
      unfold itemS readS
      by_cases h1 : w = [40]
      · rw [if_pos h1, if_pos h1, body _ _ _ _ (by omega)]
      rw [if_neg h1, if_neg h1]
      by_cases h2 : w = [124, 124]
      · rw [if_pos h2, if_pos h2, opn]
      rw [if_neg h2, if_neg h2]
      by_cases h3 : w.getLast? = some 63
      · rw [if_pos h3, if_pos h3]
        by_cases h4 : isName (cutBang w.dropLast).1 = true
        · rw [if_pos h4, if_pos h4, opn]
        · rw [if_neg h4, if_neg h4]; rfl
      rw [if_neg h3, if_neg h3]
      unfold leafB
      by_cases h4 : (parseAt (cutBang w).1).2 = 0
      · rw [if_pos h4, if_pos h4]; rfl
      · rw [if_neg h4, if_neg h4]; rfl
    refine ⟨fun gs g ws F hl hg hF => ?_, hB⟩
    obtain ⟨F', rfl⟩ : ∃ F', F = F' + 1 := ⟨F - 1, by omega⟩
    cases ws with
    | nil => rfl
    | cons w r =>
      simp only [List.length_cons] at hl hF
      unfold readKids
      by_cases hw : w = [41]
      · rw [STK_cons, if_pos hw]; simp [shutS, contS, hw]
      · simp only [if_neg hw]
        by_cases h4 : gs.length = 3
        · rw [STK_cons, if_neg hw, if_pos (by simp [h4]), h4]; rfl
        · have hb := hB (g :: gs) w r (by omega) (by simp; omega) hw
          rw [hb]
          have e : 4 - (g :: gs).length = 3 - gs.length := by rw [List.length_cons]; omega
          rw [e]
          have hless := fun y us' => readN_less (d := 3 - gs.length) (ws := w :: r) (us' := us') (y := y)
          cases hq : readN (3 - gs.length) (w :: r) with
          | none => rfl
          | some p =>
            obtain ⟨n, r'⟩ := p
            have hl' := hless n r' hq
            simp only [List.length_cons] at hl'
            simp only [contB, putS]
            rw [ihA gs (g.push n) r' F' (by omega) hg (by omega)]
            cases readKids (readN (3 - gs.length)) F' r' with
            | none => rfl
            | some q =>
              obtain ⟨ks, ws'⟩ := q
              cases ws' with
              | nil => rfl
              | cons v r2 => simp [contS, Fr.push, Fr.shut]

def stkTold : Option Nd → Nd × Int
  | none => (Nd.zero, 1)
  | some n => finNd n
theorem shut_none (r : List W) : ∃ q, readN 4 ([41] :: r) = none ∧ q = () := by
  refine ⟨(), ?_, rfl⟩
  rw [readN_cons]
  unfold readS leafB
  rw [if_neg (by decide), if_neg (by decide), if_neg (by decide), if_neg (by decide +kernel)]
theorem stk_told (l : W) (h : l.length ≤ 20000) : stkTold (STK [] (splitB 32 l)) = parseNd l := by
  unfold parseNd
  rw [if_neg (by omega)]
  cases hs : splitB 32 l with
  | nil => exact absurd hs (by unfold splitB; exact splitGo_ne)
  | cons w r =>
    by_cases hw : w = [41]
    · subst hw
      obtain ⟨_, h1, _⟩ := shut_none r
      rw [h1, STK_cons, if_pos rfl]; rfl
    · rw [(stk_read (r.length + 1)).2 [] w r (by omega) (by simp) hw]
      show stkTold (contB [] (readN 4 (w :: r))) = _
      rcases readN 4 (w :: r) with _ | ⟨n, _ | ⟨v, u⟩⟩
      · rfl
      · simp [contB, putS, stkTold, toldNd]
      · simp [contB, putS, stkTold, toldNd]
end Qm

/- quartermasterref.ReadNeed: what stands open, in memory. -/
namespace Go.Proofs.YtnkmonmkhmcgaaaGreatDoor
open Go.RowKit Qm

abbrev Hd := Option Addr × Nat
def obs (A : Option Addr) (hs : List Hd) : List Nat := (A :: hs.map (·.1)).filterMap fun a => a.map (·.block)
def frow (g : Fr) (h : Hd) : List Value := ndRow g.k At.zero g.f g.no h.1 g.ys.length h.2
def frows : List Fr → List Hd → List Value
  | g :: gs, h :: hs => frows gs hs ++ frow g h
  | _, _ => []
def KidOk (wx : World) (B : Nat) (F : Nat → Prop) (g : Fr) (h : Hd) : Prop :=
  ∃ cs : List (List Value), cs.length = g.ys.length ∧ wx.ownsRow B 26 10 (.slice h.1 g.ys.length h.2) g.ys.length cs.flatten ∧
    (∀ (i : Nat) (x : List Value) (y : Nd), cs[i]? = some x → g.ys[i]? = some y → RNd wx F x y) ∧ g.f.length ≤ maxLen
def KidsOk (wx : World) (B : Nat) (F : Nat → Prop) : List Fr → List Hd → Prop
  | [], [] => True
  | g :: gs, h :: hs => KidOk wx B F g h ∧ KidsOk wx B F gs hs
  | _, _ => False
/-- the blocks that are no array of what stands open -/
def Fre (wx : World) (B : Nat) (A : Option Addr) (hs : List Hd) (i : Nat) : Prop := B ≤ i ∧ i < wx.heap.size ∧ i ∉ obs A hs
structure Op (B : Nat) (fs : List Fr) (hs : List Hd) (A : Option Addr) (c : Nat) (wx : World) : Prop where
  own : wx.ownsRow B 26 10 (.slice A fs.length c) fs.length (frows fs hs)
  kids : KidsOk wx B (Fre wx B A hs) fs hs
  nodup : (obs A hs).Nodup
section
variable {wx wy : World} {B : Nat} {F F' : Nat → Prop} {g : Fr} {gs fs : List Fr} {h : Hd} {hs : List Hd} {A : Option Addr} {c : Nat}
theorem ob_own {A : Option Addr} {n c i : Nat} : (Value.slice A n c).ownBlock = some i ↔ A.map (·.block) = some i := by
  cases A <;> simp [Value.ownBlock]
theorem obs_mem {i : Nat} : i ∈ obs A hs ↔ A.map (·.block) = some i ∨ ∃ h ∈ hs, h.1.map (·.block) = some i := by
  unfold obs
  rw [List.mem_filterMap]
  constructor
  · rintro ⟨a, ha, e⟩
    rcases List.mem_cons.1 ha with rfl | ha
    · exact .inl e
    · obtain ⟨h, hh, rfl⟩ := List.mem_map.1 ha
      exact .inr ⟨h, hh, e⟩
  · rintro (e | ⟨h, hh, e⟩)
    · exact ⟨A, List.mem_cons_self .., e⟩
    · exact ⟨h.1, List.mem_cons_of_mem _ (List.mem_map.2 ⟨h, hh, rfl⟩), e⟩
theorem own_ge {base : Nat} {e : TypeId} {size n : Nat} {v : Value} {xs : List Value} (ho : wx.ownsRow base e size v n xs) {i : Nat} (hi : v.ownBlock = some i) : base ≤ i ∧ i < wx.heap.size := ho.lt i hi
theorem KidOk.more (hk : KidOk wx B F g h) (hF : ∀ i, F i → F' i) : KidOk wx B F' g h := by
  obtain ⟨cs, h1, h2, h3, h4⟩ := hk
  exact ⟨cs, h1, h2, fun i x y a b => (h3 i x y a b).more hF, h4⟩
theorem KidsOk.more : ∀ {gs : List Fr} {hs : List Hd}, KidsOk wx B F gs hs → (∀ i, F i → F' i) → KidsOk wx B F' gs hs
  | [], [], _, _ => trivial
  | _ :: _, _ :: _, hk, hF => ⟨hk.1.more hF, KidsOk.more hk.2 hF⟩
theorem KidOk.far {D : Nat → Prop} (hk : KidOk wx B F g h) (hf : Far D wx wy) (hF : ∀ i, F i → i < wx.heap.size ∧ ¬ D i) (hD : ∀ i, h.1.map (·.block) = some i → ¬ D i) : KidOk wy B F g h := by
  obtain ⟨cs, h1, h2, h3, h4⟩ := hk
  exact ⟨cs, h1, hf.own h2 fun g e => hD g (ob_own.1 e), fun i x y a b => (h3 i x y a b).keep fun p hp => hf.cell (hF _ hp).1 (hF _ hp).2, h4⟩
theorem KidsOk.far {D : Nat → Prop} : ∀ {gs : List Fr} {hs : List Hd}, KidsOk wx B F gs hs → Far D wx wy → (∀ i, F i → i < wx.heap.size ∧ ¬ D i) → (∀ h ∈ hs, ∀ i, h.1.map (·.block) = some i → ¬ D i) → KidsOk wy B F gs hs
  | [], [], _, _, _, _ => trivial
  | _ :: _, _ :: _, hk, hf, hF, hD => ⟨hk.1.far hf hF (hD _ (List.mem_cons_self ..)), KidsOk.far hk.2 hf hF fun h hh => hD h (List.mem_cons_of_mem _ hh)⟩
theorem KidsOk.ge : ∀ {gs : List Fr} {hs : List Hd}, KidsOk wx B F gs hs → ∀ h ∈ hs, ∀ i, h.1.map (·.block) = some i → B ≤ i ∧ i < wx.heap.size
  | [], [], _, h, hh, _, _ => by simp at hh
  | _ :: _, h0 :: _, hk, h, hh, i, e => by
    rcases List.mem_cons.1 hh with rfl | hh
    · obtain ⟨cs, h1, h2, _⟩ := hk.1
      exact h2.lt i (ob_own.2 e)
    · exact hk.2.ge h hh i e
theorem KidsOk.len : ∀ {gs : List Fr} {hs : List Hd}, KidsOk wx B F gs hs → gs.length = hs.length
  | [], [], _ => rfl
  | _ :: _, _ :: _, hk => by simp [hk.2.len]
theorem frows_len : ∀ {gs : List Fr} {hs : List Hd}, gs.length = hs.length → (frows gs hs).length = gs.length * 10
  | [], [], _ => rfl
  | _ :: gs, _ :: hs, e => by
    simp only [List.length_cons, Nat.add_right_cancel_iff] at e
    simp only [frows, List.length_append, frows_len e, List.length_cons, frow, ndRow, List.length_nil]; omega
  | [], _ :: _, e => by simp at e
  | _ :: _, [], e => by simp at e
theorem Op.obs_ge (ho : Op B fs hs A c wx) {i : Nat} (hi : i ∈ obs A hs) : B ≤ i ∧ i < wx.heap.size := by
  rcases obs_mem.1 hi with e | ⟨h, hh, e⟩
  · exact ho.own.lt i (ob_own.2 e)
  · exact ho.kids.ge h hh i e
/-- Blocks below B, and new ones, may change. -/
theorem Op.far (ho : Op B fs hs A c wx) (hf : Far (fun i => i < B) wx wy) : Op B fs hs A c wy where
  own := hf.own ho.own fun i e => by have := (ho.own.lt i e).1; omega
  kids := (ho.kids.far hf (fun i hi => ⟨hi.2.1, by have := hi.1; omega⟩) fun h hh i e => by have := (ho.kids.ge h hh i e).1; omega).more fun i hi => ⟨hi.1, Nat.lt_of_lt_of_le hi.2.1 hf.size, hi.2.2⟩
  nodup := ho.nodup
theorem Op.below (ho : Op B fs hs A c wx) (hb : Below wx.heap.size wx wy) : Op B fs hs A c wy := ho.far (Far.of_below _ hb)
theorem Op.nil (w : World) : Op B [] [] none 0 w := ⟨⟨rfl, .inl ⟨rfl, rfl⟩⟩, trivial, by simp [obs]⟩
theorem own_take {base : Nat} {e : TypeId} {size n c : Nat} {A : Option Addr} {xs x : List Value} (ho : wx.ownsRow base e size (.slice A (n + 1) c) (n + 1) (xs ++ x)) (hx : xs.length = n * size) : wx.ownsRow base e size (.slice A n c) n xs := by
  rcases ho.2 with ⟨_, h0⟩ | ⟨g, cap, cur, hv, hb, hh, hc, hm, hs, ht⟩
  · omega
  · injection hv with e1 e2 e3
    subst e1 e3
    refine ⟨hx, .inr ⟨g, _, cur, rfl, hb, hh, by omega, hm, hs, ?_⟩⟩
    have := congrArg (List.take (n * size)) ht
    rw [List.take_take, Nat.min_eq_left (Nat.mul_le_mul_right _ (Nat.le_succ n)), ← hx, List.take_left] at this
    rw [← hx]; exact this
theorem own_set {base : Nat} {e : TypeId} {size n c b p : Nat} {xs : List Value} (ho : wx.ownsRow base e size (.slice (some ⟨b, 0, none⟩) n c) n xs) (hp : p < n * size) (u : Value) : (wx.setCell ⟨b, p, none⟩ u).ownsRow base e size (.slice (some ⟨b, 0, none⟩) n c) n (xs.set p u) := by
  rcases ho.2 with ⟨h0, _⟩ | ⟨g, cap, cur, hv, hb, hh, hc, hm, hs, ht⟩
  · cases h0
  · injection hv with e1 e2 e3
    injection e1 with e1; injection e1 with e1
    subst e1 e3
    have hW : Whole wx b e cur.toList := by unfold Whole; simpa using hh
    have hW2 := hW.set_ p u
    unfold Whole at hW2
    refine ⟨by simp [ho.1], .inr ⟨b, _, _, rfl, hb, hW2, hc, hm, by simp [hs], ?_⟩⟩
    rw [List.toList_toArray, ← ht, List.take_set]
theorem frow_push (g : Fr) (h : Hd) (n : Nd) (h' : Hd) : frow (g.push n) h' = (frow g h).set 9 (.slice h'.1 (g.ys.length + 1) h'.2) := by
  simp [frow, Fr.push, ndRow]
/-- The top one is taken off. -/
theorem Op.pop (ho : Op B (g :: gs) (h :: hs) A c wx) : Op B gs hs A c wx ∧ RNd wx (Fre wx B A hs) (frow g h) g.shut := by
  have hl := ho.kids.2.len
  have hF : ∀ i, Fre wx B A (h :: hs) i → Fre wx B A hs i := fun i hi => ⟨hi.1, hi.2.1, fun hm => hi.2.2 (by
    rcases obs_mem.1 hm with e | ⟨h', hh, e⟩
    · exact obs_mem.2 (.inl e)
    · exact obs_mem.2 (.inr ⟨h', List.mem_cons_of_mem _ hh, e⟩))⟩
  have hnd := ho.nodup
  refine ⟨⟨own_take ho.own (frows_len hl), ho.kids.2.more hF, ?_⟩, ?_⟩
  · refine List.Nodup.sublist ?_ hnd
    unfold obs
    exact List.Sublist.filterMap _ (List.Sublist.cons_cons _ (List.sublist_cons_self _ _))
  · obtain ⟨cs, h1, h2, h3, h4⟩ := ho.kids.1
    obtain ⟨A', c', he, k1, k2, hr⟩ := own_formK h2
    injection he with e1 _ e2
    subst e1 e2
    refine RNd.shut k1 k2 (Nat.zero_le _) (Nat.zero_le _) h4 ⟨cs, rfl, h1, hr.more fun i hi => ?_, fun i x y a b => (h3 i x y a b).more hF⟩
    have hlt := h2.lt i hi
    refine ⟨hlt.1, hlt.2, fun hm => ?_⟩
    have e := ob_own.1 hi
    unfold obs at hnd
    rw [List.map_cons, List.filterMap_cons, List.filterMap_cons] at hnd
    rcases obs_mem.1 hm with e' | ⟨h', hh, e'⟩
    · rw [e, e'] at hnd
      simp at hnd
    · rw [e] at hnd
      have hin : i ∈ (hs.map (·.1)).filterMap fun a => a.map (·.block) := List.mem_filterMap.2 ⟨h'.1, List.mem_map.2 ⟨h', hh, rfl⟩, e'⟩
      cases hA : A.map (·.block) with
      | none => rw [hA] at hnd; exact (List.nodup_cons.1 hnd).1 hin
      | some q => rw [hA] at hnd; exact (List.nodup_cons.1 (List.nodup_cons.1 hnd).2).1 hin
/-- A new one is opened. -/
theorem Op.open_ (ho : Op B fs hs A c wx) {A' : Option Addr} {c' : Nat} {k : Int} {f : Qm.W} {no : Bool} (hf : f.length ≤ maxLen)
    (hown : wy.ownsRow B 26 10 (.slice A' (fs.length + 1) c') (fs.length + 1) (frows fs hs ++ ndRow k At.zero f no none 0 0)) (hg : wx.grownBy wy (Value.slice A fs.length c).ownBlock)
    (hv : (Value.slice A' (fs.length + 1) c').ownBlock = (Value.slice A fs.length c).ownBlock ∨ (Value.slice A' (fs.length + 1) c').ownBlock = some wx.heap.size) :
    Op B (⟨k, f, no, []⟩ :: fs) ((none, 0) :: hs) A' c' wy := by
  have f1 : Far (fun i => A.map (·.block) = some i) wx wy := Far.of_grown hg fun i e => ob_own.1 e.symm
  have ho' : ∀ i, i ∈ obs A' ((none, 0) :: hs) → i ∈ obs A hs ∨ i = wx.heap.size := fun i hi => by
    rcases obs_mem.1 hi with e | ⟨h', hh, e⟩
    · have e2 := (ob_own (A := A') (n := fs.length + 1) (c := c')).2 e
      rcases hv with hv | hv
      · rw [hv] at e2; exact .inl (obs_mem.2 (.inl (ob_own.1 e2)))
      · rw [hv] at e2; injection e2 with e2; exact .inr e2.symm
    · rcases List.mem_cons.1 hh with rfl | hh
      · cases e
      · exact .inl (obs_mem.2 (.inr ⟨h', hh, e⟩))
  have hnd := ho.nodup
  have hnk : ∀ h ∈ hs, ∀ i, h.1.map (·.block) = some i → ¬ A.map (·.block) = some i := fun h hh i e e2 => by
    unfold obs at hnd
    rw [List.filterMap_cons, e2] at hnd
    exact (List.nodup_cons.1 hnd).1 (List.mem_filterMap.2 ⟨h.1, List.mem_map.2 ⟨h, hh, rfl⟩, e⟩)
  refine ⟨hown, ⟨⟨[], rfl, ⟨rfl, .inl ⟨rfl, rfl⟩⟩, fun i x y a => by simp at a, hf⟩, ?_⟩, ?_⟩
  · refine KidsOk.more (F := Fre wx B A hs) (ho.kids.far f1 (fun i hi => ⟨hi.2.1, fun e => hi.2.2 (obs_mem.2 (.inl e))⟩) hnk) fun i hi => ⟨hi.1, Nat.lt_of_lt_of_le hi.2.1 f1.size, fun hm => ?_⟩
    rcases ho' i hm with h1 | h1
    · exact hi.2.2 h1
    · have := hi.2.1; omega
  · unfold obs at hnd ⊢
    rw [List.map_cons, List.filterMap_cons, List.filterMap_cons]
    rw [List.filterMap_cons] at hnd
    have hrest : ((hs.map (·.1)).filterMap fun a => a.map (·.block)).Nodup := by
      cases hA : A.map (·.block) with
      | none => rw [hA] at hnd; exact hnd
      | some q => rw [hA] at hnd; exact (List.nodup_cons.1 hnd).2
    cases hA' : A'.map (·.block) with
    | none => exact hrest
    | some q =>
      refine List.nodup_cons.2 ⟨fun hin => ?_, hrest⟩
      obtain ⟨a, ha, e⟩ := List.mem_filterMap.1 hin
      obtain ⟨h', hh, rfl⟩ := List.mem_map.1 ha
      have e2 := (ob_own (A := A') (n := fs.length + 1) (c := c')).2 hA'
      rcases hv with hv | hv
      · rw [hv] at e2; exact hnk h' hh q e (ob_own.1 e2)
      · rw [hv] at e2; injection e2 with e2
        have := (ho.kids.ge h' hh q e).2; omega
theorem nd2 {a b : Option Nat} {l : List Nat} : ((a.toList ++ (b.toList ++ l)).Nodup) ↔ (a.toList ++ l).Nodup ∧ (b.toList ++ l).Nodup ∧ (∀ q, a = some q → ¬ b = some q) := by
  cases a <;> cases b <;> simp [List.nodup_cons, eq_comm] <;> grind
theorem obs_eq (A : Option Addr) (h : Hd) (hs : List Hd) : obs A (h :: hs) = (A.map (·.block)).toList ++ ((h.1.map (·.block)).toList ++ (hs.map (·.1)).filterMap fun a => a.map (·.block)) := by
  unfold obs
  rw [List.map_cons, List.filterMap_cons, List.filterMap_cons]
  cases A.map (·.block) <;> cases h.1.map (·.block) <;> simp_all
/-- The top one gets a kid. -/
theorem Op.push {b : Nat} (ho : Op B (g :: gs) (h :: hs) (some ⟨b, 0, none⟩) c wx) {x : List Value} {n : Nd} (hx : RNd wx (Fre wx B (some ⟨b, 0, none⟩) (h :: hs)) x n) {cs : List (List Value)} (hcs : cs.length = g.ys.length)
    (hkid : ∀ (i : Nat) (x : List Value) (y : Nd), cs[i]? = some x → g.ys[i]? = some y → RNd wx (Fre wx B (some ⟨b, 0, none⟩) (h :: hs)) x y) {A' : Option Addr} {c' : Nat}
    (hown : wy.ownsRow B 26 10 (.slice A' (g.ys.length + 1) c') (g.ys.length + 1) (cs.flatten ++ x)) (hg : wx.grownBy wy (Value.slice h.1 g.ys.length h.2).ownBlock)
    (hv : (Value.slice A' (g.ys.length + 1) c').ownBlock = (Value.slice h.1 g.ys.length h.2).ownBlock ∨ (Value.slice A' (g.ys.length + 1) c').ownBlock = some wx.heap.size) :
    Op B (g.push n :: gs) ((A', c') :: hs) (some ⟨b, 0, none⟩) c (wy.setCell ⟨b, gs.length * 10 + 9, none⟩ (.slice A' (g.ys.length + 1) c')) ∧
      (∀ {x : List Value} {y : Nd}, RNd wx (Fre wx B (some ⟨b, 0, none⟩) (h :: hs)) x y → RNd (wy.setCell ⟨b, gs.length * 10 + 9, none⟩ (.slice A' (g.ys.length + 1) c')) (Fre (wy.setCell ⟨b, gs.length * 10 + 9, none⟩ (.slice A' (g.ys.length + 1) c')) B (some ⟨b, 0, none⟩) ((A', c') :: hs)) x y) ∧ ¬ A'.map (·.block) = some b := by
  obtain ⟨_, _, _, _, hfl⟩ := ho.kids.1
  have hl := ho.kids.2.len
  have f1 : Far (fun i => h.1.map (·.block) = some i) wx wy := Far.of_grown hg fun i e => ob_own.1 e.symm
  have hb := ho.own.lt b rfl
  have hnd := ho.nodup
  rw [obs_eq, nd2] at hnd
  obtain ⟨n1, n2, n3⟩ := hnd
  have n4 : ¬ h.1.map (·.block) = some b := fun e => n3 b rfl e
  have ho' : ∀ i, A'.map (·.block) = some i → h.1.map (·.block) = some i ∨ i = wx.heap.size := fun i e => by
    have e2 := (ob_own (A := A') (n := g.ys.length + 1) (c := c')).2 e
    rcases hv with hv | hv
    · rw [hv] at e2; exact .inl (ob_own.1 e2)
    · rw [hv] at e2; injection e2 with e2; exact .inr e2.symm
  have n5 : ¬ A'.map (·.block) = some b := fun e => by
    rcases ho' b e with h1 | h1
    · exact n4 h1
    · omega
  have n6 : ∀ h' ∈ hs, ∀ i, h'.1.map (·.block) = some i → ¬ h.1.map (·.block) = some i := fun h' hh i e e2 => by
    rw [e2] at n2
    exact (List.nodup_cons.1 n2).1 (List.mem_filterMap.2 ⟨h'.1, List.mem_map.2 ⟨h', hh, rfl⟩, e⟩)
  have n7 : ∀ h' ∈ hs, ¬ h'.1.map (·.block) = some b := fun h' hh e => (List.nodup_cons.1 n1).1 (List.mem_filterMap.2 ⟨h'.1, List.mem_map.2 ⟨h', hh, rfl⟩, e⟩)
  have f2 : Far (fun i => i = b) wy (wy.setCell ⟨b, gs.length * 10 + 9, none⟩ (.slice A' (g.ys.length + 1) c')) := Far.set_ (D := fun i => i = b) rfl _ _
  have hF : ∀ i, Fre wx B (some ⟨b, 0, none⟩) (h :: hs) i → Fre (wy.setCell ⟨b, gs.length * 10 + 9, none⟩ (.slice A' (g.ys.length + 1) c')) B (some ⟨b, 0, none⟩) ((A', c') :: hs) i := fun i hi => by
    refine ⟨hi.1, Nat.lt_of_lt_of_le hi.2.1 (Nat.le_trans f1.size f2.size), fun hm => ?_⟩
    rcases obs_mem.1 hm with e | ⟨h', hh, e⟩
    · exact hi.2.2 (obs_mem.2 (.inl e))
    · rcases List.mem_cons.1 hh with rfl | hh
      · rcases ho' i e with h1 | h1
        · exact hi.2.2 (obs_mem.2 (.inr ⟨h, List.mem_cons_self .., h1⟩))
        · have := hi.2.1; omega
      · exact hi.2.2 (obs_mem.2 (.inr ⟨h', List.mem_cons_of_mem _ hh, e⟩))
  have k1 : ∀ i, Fre wx B (some ⟨b, 0, none⟩) (h :: hs) i → i < wx.heap.size ∧ ¬ h.1.map (·.block) = some i := fun i hi => ⟨hi.2.1, fun e => hi.2.2 (obs_mem.2 (.inr ⟨h, List.mem_cons_self .., e⟩))⟩
  have k2 : ∀ i, Fre wx B (some ⟨b, 0, none⟩) (h :: hs) i → i < wy.heap.size ∧ ¬ i = b := fun i hi => ⟨Nat.lt_of_lt_of_le hi.2.1 f1.size, fun e => hi.2.2 (obs_mem.2 (.inl (by rw [e]; rfl)))⟩
  have mv : ∀ {x : List Value} {y : Nd}, RNd wx (Fre wx B (some ⟨b, 0, none⟩) (h :: hs)) x y → RNd (wy.setCell ⟨b, gs.length * 10 + 9, none⟩ (.slice A' (g.ys.length + 1) c')) (Fre (wy.setCell ⟨b, gs.length * 10 + 9, none⟩ (.slice A' (g.ys.length + 1) c')) B (some ⟨b, 0, none⟩) ((A', c') :: hs)) x y := fun hr =>
    ((hr.keep fun p hp => f1.cell (k1 _ hp).1 (k1 _ hp).2).keep fun p hp => f2.cell (k2 _ hp).1 (k2 _ hp).2).more hF
  have hlen : (g.push n).ys.length = g.ys.length + 1 := by simp [Fr.push]
  refine ⟨⟨?_, ⟨⟨cs ++ [x], by simp [hcs, hlen], ?_, fun i x' y' h1 h2 => ?_, hfl⟩, ?_⟩, ?_⟩, mv, n5⟩
  · have e1 := f1.own ho.own (fun i e => by have := ob_own.1 e; simp at this; subst this; exact n4)
    have e2 := own_set e1 (p := gs.length * 10 + 9) (by simp; omega) (.slice A' (g.ys.length + 1) c')
    have e3 : (frows (g :: gs) (h :: hs)).set (gs.length * 10 + 9) (.slice A' (g.ys.length + 1) c') = frows (g.push n :: gs) ((A', c') :: hs) := by
      simp only [frows]
      rw [frow_push g h n (A', c'), List.set_append_right _ _ (by rw [frows_len hl]; omega), frows_len hl]
      congr 2; omega
    rw [e3] at e2
    exact e2
  · rw [hlen, List.flatten_append]
    have := f2.own hown fun i e => by have := ob_own.1 e; intro e'; subst e'; exact n5 this
    simpa using this
  · by_cases hj : i < cs.length
    · rw [List.getElem?_append_left hj] at h1
      have h2' : g.ys[i]? = some y' := by
        have : (g.push n).ys = g.ys ++ [n] := rfl
        rwa [this, List.getElem?_append_left (by omega)] at h2
      exact mv (hkid i x' y' h1 h2')
    · have hj' : i = cs.length := by have := (List.getElem?_eq_some_iff.1 h1).1; simp at this; omega
      subst hj'
      rw [List.getElem?_append_right (Nat.le_refl _), Nat.sub_self] at h1
      have : (g.push n).ys = g.ys ++ [n] := rfl
      rw [this, hcs, List.getElem?_append_right (Nat.le_refl _), Nat.sub_self] at h2
      simp only [List.getElem?_cons_zero, Option.some.injEq] at h1 h2
      subst h1 h2
      exact mv hx
  · exact ((ho.kids.2.far f1 k1 n6).far f2 k2 fun h' hh i e e' => by subst e'; exact n7 h' hh e).more hF
  · rw [obs_eq, nd2]
    refine ⟨n1, ?_, fun q e e2 => by simp at e; subst e; exact n5 e2⟩
    cases hA' : A'.map (·.block) with
    | none =>
      cases hh : h.1.map (·.block) with
      | none => rw [hh] at n2; exact n2
      | some q => rw [hh] at n2; exact (List.nodup_cons.1 n2).2
    | some q =>
      rcases ho' q hA' with h1 | h1
      · rw [h1] at n2; exact n2
      · refine List.nodup_cons.2 ⟨fun hin => ?_, ?_⟩
        · obtain ⟨a, ha, e⟩ := List.mem_filterMap.1 hin
          obtain ⟨h', hh, rfl⟩ := List.mem_map.1 ha
          have := (ho.kids.ge h' (List.mem_cons_of_mem _ hh) q e).2
          omega
        · cases hh : h.1.map (·.block) with
          | none => rw [hh] at n2; exact n2
          | some q => rw [hh] at n2; exact (List.nodup_cons.1 n2).2
/-- Ten stores into the last element of an owned row. -/
theorem own_set10 {base : Nat} {e : TypeId} {k c b : Nat} {ys z : List Value} (ho : wx.ownsRow base e 10 (.slice (some ⟨b, 0, none⟩) (k + 1) c) (k + 1) (ys ++ z)) (hy : ys.length = k * 10) (v0 v1 v2 v3 v4 v5 v6 v7 v8 v9 : Value) :
    ∃ wz, (((((((((((wx.setCell ⟨b, k * 10, none⟩ v0).setCell ⟨b, k * 10 + 1, none⟩ v1).setCell ⟨b, k * 10 + 2, none⟩ v2).setCell ⟨b, k * 10 + 3, none⟩ v3).setCell ⟨b, k * 10 + 4, none⟩ v4).setCell ⟨b, k * 10 + 5, none⟩ v5).setCell ⟨b, k * 10 + 6, none⟩ v6).setCell ⟨b, k * 10 + 7, none⟩ v7).setCell ⟨b, k * 10 + 8, none⟩ v8).setCell ⟨b, k * 10 + 9, none⟩ v9)) = wz ∧
      wz.ownsRow base e 10 (.slice (some ⟨b, 0, none⟩) (k + 1) c) (k + 1) (ys ++ [v0, v1, v2, v3, v4, v5, v6, v7, v8, v9]) ∧ Far (fun i => i = b) wx wz ∧ wz.heap.size = wx.heap.size := by
  have hz : z.length = 10 := by have := ho.1; simp only [List.length_append] at this; omega
  refine ⟨_, rfl, ?_, ?_, ?_⟩
  · have st : ∀ {w : World} {zs : List Value} (j : Nat) (u : Value), zs.length = 10 → j < 10 → w.ownsRow base e 10 (.slice (some ⟨b, 0, none⟩) (k + 1) c) (k + 1) (ys ++ zs) → (w.setCell ⟨b, k * 10 + j, none⟩ u).ownsRow base e 10 (.slice (some ⟨b, 0, none⟩) (k + 1) c) (k + 1) (ys ++ zs.set j u) := fun j u hl hj h => by
      have := own_set h (p := k * 10 + j) (by omega) u
      rwa [List.set_append_right _ _ (by omega), hy, Nat.add_sub_cancel_left] at this
    match z, hz with
    | [y0, y1, y2, y3, y4, y5, y6, y7, y8, y9], _ =>
      exact st 9 v9 rfl (by decide) (st 8 v8 rfl (by decide) (st 7 v7 rfl (by decide) (st 6 v6 rfl (by decide) (st 5 v5 rfl (by decide) (st 4 v4 rfl (by decide) (st 3 v3 rfl (by decide) (st 2 v2 rfl (by decide) (st 1 v1 rfl (by decide) (st 0 v0 rfl (by decide) ho)))))))))
  · have st : ∀ (wx : World) (i : Nat) (u : Value), Far (fun i => i = b) wx (wx.setCell ⟨b, i, none⟩ u) := fun wx i u => Far.set_ (D := fun i => i = b) rfl i u
    refine (st wx _ v0).trans ((st _ _ v1).trans ((st _ _ v2).trans ((st _ _ v3).trans ((st _ _ v4).trans ((st _ _ v5).trans ((st _ _ v6).trans ((st _ _ v7).trans ((st _ _ v8).trans (st _ _ v9) ?_) ?_) ?_) ?_) ?_) ?_) ?_) ?_) ?_ <;> exact fun _ _ h => h
  · simp only [World.setCell, Array.size_modify]
theorem fr_push_inj {g : Fr} {n : Nd} : (g.push n).ys.length = g.ys.length + 1 := by simp [Fr.push]
/-- The last kid of the top one is written anew. -/
theorem Op.refill {b : Nat} {n0 n : Nd} (ho : Op B (g.push n0 :: gs) ((some ⟨b, 0, none⟩, h.2) :: hs) A c wx) {v0 v1 v2 v3 v4 v5 v6 v7 v8 v9 : Value}
    (hx : RNd wx (Fre wx B A ((some ⟨b, 0, none⟩, h.2) :: hs)) [v0, v1, v2, v3, v4, v5, v6, v7, v8, v9] n) {wz : World}
    (hwz : (((((((((((wx.setCell ⟨b, g.ys.length * 10, none⟩ v0).setCell ⟨b, g.ys.length * 10 + 1, none⟩ v1).setCell ⟨b, g.ys.length * 10 + 2, none⟩ v2).setCell ⟨b, g.ys.length * 10 + 3, none⟩ v3).setCell ⟨b, g.ys.length * 10 + 4, none⟩ v4).setCell ⟨b, g.ys.length * 10 + 5, none⟩ v5).setCell ⟨b, g.ys.length * 10 + 6, none⟩ v6).setCell ⟨b, g.ys.length * 10 + 7, none⟩ v7).setCell ⟨b, g.ys.length * 10 + 8, none⟩ v8).setCell ⟨b, g.ys.length * 10 + 9, none⟩ v9)) = wz) :
    Op B (g.push n :: gs) ((some ⟨b, 0, none⟩, h.2) :: hs) A c wz ∧ Far (fun i => i = b) wx wz := by
  obtain ⟨cs, h1, h2, h3, h4⟩ := ho.kids.1
  have hnd := ho.nodup
  rw [obs_eq, nd2] at hnd
  obtain ⟨n1, n2, n3⟩ := hnd
  rw [fr_push_inj] at h1 h2
  obtain ⟨cs0, cl, rfl⟩ : ∃ cs0 cl, cs = cs0 ++ [cl] := by
    rcases List.eq_nil_or_concat cs with rfl | ⟨a, l, rfl⟩
    · simp at h1
    · exact ⟨a, l, by simp⟩
  have hc0 : cs0.length = g.ys.length := by simpa using h1
  have hten : ∀ x ∈ cs0, x.length = 10 := fun x hx => by
    obtain ⟨i, hi, e⟩ := List.mem_iff_getElem.1 hx
    exact (h3 i x ((g.push n0).ys[i]'(by rw [fr_push_inj]; omega)) (by rw [List.getElem?_append_left hi, ← e]; exact List.getElem?_eq_getElem hi) (List.getElem?_eq_getElem _)).ten
  have hfl : cs0.flatten.length = g.ys.length * 10 := by
    rw [← hc0]
    clear h1 h2 h3 hc0
    induction cs0 with
    | nil => rfl
    | cons x r ih => simp only [List.flatten_cons, List.length_append, hten x (List.mem_cons_self ..), ih fun y hy => hten y (List.mem_cons_of_mem _ hy), List.length_cons]; omega
  have ef : (cs0 ++ [cl]).flatten = cs0.flatten ++ cl := by simp
  rw [ef] at h2
  obtain ⟨wz', e1, o1, f1, z1⟩ := own_set10 h2 hfl v0 v1 v2 v3 v4 v5 v6 v7 v8 v9
  obtain rfl : wz' = wz := e1.symm.trans hwz
  have hF : ∀ i, Fre wx B A ((some ⟨b, 0, none⟩, h.2) :: hs) i → i < wx.heap.size ∧ ¬ i = b := fun i hi => ⟨hi.2.1, fun e => hi.2.2 (obs_mem.2 (.inr ⟨_, List.mem_cons_self .., by rw [e]; rfl⟩))⟩
  have hF2 : ∀ i, Fre wx B A ((some ⟨b, 0, none⟩, h.2) :: hs) i → Fre wz' B A ((some ⟨b, 0, none⟩, h.2) :: hs) i := fun i hi => ⟨hi.1, by rw [z1]; exact hi.2.1, hi.2.2⟩
  have mv : ∀ {x : List Value} {y : Nd}, RNd wx (Fre wx B A ((some ⟨b, 0, none⟩, h.2) :: hs)) x y → RNd wz' (Fre wz' B A ((some ⟨b, 0, none⟩, h.2) :: hs)) x y := fun hr => (hr.keep fun p hp => f1.cell (hF _ hp).1 (hF _ hp).2).more hF2
  refine ⟨⟨?_, ⟨⟨cs0 ++ [[v0, v1, v2, v3, v4, v5, v6, v7, v8, v9]], by rw [fr_push_inj]; simp [hc0], ?_, fun i x' y' a1 a2 => ?_, h4⟩, ?_⟩, ho.nodup⟩, f1⟩
  · have := f1.own ho.own fun i e => by
      have := ob_own.1 e
      intro e'; subst e'
      exact n3 _ this rfl
    have e : frows (g.push n0 :: gs) ((some ⟨b, 0, none⟩, h.2) :: hs) = frows (g.push n :: gs) ((some ⟨b, 0, none⟩, h.2) :: hs) := by
      simp only [frows]; congr 1; rw [frow_push g h n0, frow_push g h n]
    rw [e] at this
    exact this
  · rw [fr_push_inj]; simpa using o1
  · by_cases hj : i < cs0.length
    · have a1' : (cs0 ++ [cl])[i]? = some x' := by rw [List.getElem?_append_left hj] at a1 ⊢; exact a1
      have a2' : (g.push n0).ys[i]? = some y' := by
        have q : ∀ m : Nd, (g.push m).ys = g.ys ++ [m] := fun _ => rfl
        rw [q, List.getElem?_append_left (by omega)] at a2 ⊢
        exact a2
      exact mv (h3 i x' y' a1' a2')
    · have hj' : i = cs0.length := by have := (List.getElem?_eq_some_iff.1 a1).1; simp at this; omega
      subst hj'
      rw [List.getElem?_append_right (Nat.le_refl _), Nat.sub_self] at a1
      have q : ∀ m : Nd, (g.push m).ys = g.ys ++ [m] := fun _ => rfl
      rw [q, hc0, List.getElem?_append_right (Nat.le_refl _), Nat.sub_self] at a2
      simp only [List.getElem?_cons_zero, Option.some.injEq] at a1 a2
      subst a1 a2
      exact mv hx
  · refine (ho.kids.2.far f1 hF fun h' hh i e e' => ?_).more hF2
    subst e'
    exact (List.nodup_cons.1 n2).1 (List.mem_filterMap.2 ⟨h'.1, List.mem_map.2 ⟨h', hh, rfl⟩, e⟩)
/-- The top one's row is written anew. -/
theorem Op.retop {b : Nat} {k0 k : Int} {f0 f : Qm.W} {o0 no : Bool} (ho : Op B (⟨k0, f0, o0, []⟩ :: fs) ((none, 0) :: hs) (some ⟨b, 0, none⟩) c wx) (hf : f.length ≤ maxLen) {wz : World}
    (hwz : (((((((((((wx.setCell ⟨b, fs.length * 10, none⟩ (.int .i64 k)).setCell ⟨b, fs.length * 10 + 1, none⟩ (.string ⟨#[]⟩)).setCell ⟨b, fs.length * 10 + 2, none⟩ (.int .i64 0)).setCell ⟨b, fs.length * 10 + 3, none⟩ (.int .i64 0)).setCell ⟨b, fs.length * 10 + 4, none⟩ (.int .i64 0)).setCell ⟨b, fs.length * 10 + 5, none⟩ (.string ⟨#[]⟩)).setCell ⟨b, fs.length * 10 + 6, none⟩ (.bool false)).setCell ⟨b, fs.length * 10 + 7, none⟩ (.string ⟨f.toArray⟩)).setCell ⟨b, fs.length * 10 + 8, none⟩ (.bool no)).setCell ⟨b, fs.length * 10 + 9, none⟩ (.slice none 0 0))) = wz) :
    Op B (⟨k, f, no, []⟩ :: fs) ((none, 0) :: hs) (some ⟨b, 0, none⟩) c wz ∧ Far (fun i => i = b) wx wz := by
  have hl := ho.kids.2.len
  have hnd := ho.nodup
  rw [obs_eq, nd2] at hnd
  obtain ⟨n1, n2, n3⟩ := hnd
  obtain ⟨wz', e1, o1, f1, z1⟩ := own_set10 (k := fs.length) ho.own (frows_len hl) (.int .i64 k) (.string ⟨#[]⟩) (.int .i64 0) (.int .i64 0) (.int .i64 0) (.string ⟨#[]⟩) (.bool false) (.string ⟨f.toArray⟩) (.bool no) (.slice none 0 0)
  obtain rfl : wz' = wz := e1.symm.trans hwz
  have hF : ∀ i, Fre wx B (some ⟨b, 0, none⟩) ((none, 0) :: hs) i → i < wx.heap.size ∧ ¬ i = b := fun i hi => ⟨hi.2.1, fun e => hi.2.2 (obs_mem.2 (.inl (by rw [e]; rfl)))⟩
  refine ⟨⟨o1, ⟨⟨[], rfl, ⟨rfl, .inl ⟨rfl, rfl⟩⟩, fun i x y a => by simp at a, hf⟩, ?_⟩, ho.nodup⟩, f1⟩
  refine (ho.kids.2.far f1 hF fun h' hh i e e' => ?_).more fun i hi => ⟨hi.1, by rw [z1]; exact hi.2.1, hi.2.2⟩
  subst e'
  exact (List.nodup_cons.1 n1).1 (List.mem_filterMap.2 ⟨h'.1, List.mem_map.2 ⟨h', hh, rfl⟩, e⟩)
/-- append, in a region that draws its order. -/
theorem step_append_own {P : Program} {ops : Array Oper} {o : Oper} {a : Act} {w : World} {K : Act → World → Prop} {Q : Exit → Act → World → Prop} {E : Prop} (hgd : o.guard = none) (s x : Operand) (t : TypeId)
    (ho : o.op = .call { callee := .builtin .append, args := #[s, x], argTypes := #[t, t] })
    (base : Nat) (e : TypeId) (i : TypeInfo) (z : Value) (size bytes : Nat) (ht : P.underlying t = some (.slice e)) (hi : P.info? e = some i) (hz : i.zero = some z)
    (hsize : i.size = size) (hby : i.bytes = bytes) (hzs : z.cells.size = size) (hsz : 0 < size)
    (v : Value) (n : Nat) (xs : List Value) (hs : a.eval s = v) (hown : w.ownsRow base e size v n xs)
    (ad : Addr) (m c : Nat) (news : List Value) (hx : a.eval x = .slice (some ad) m c) (hl : news.length = m * size) (hnews : ∀ j u, news[j]? = some u → w.cell? (ad.add j) = some u) (h1 : ∀ u ∈ news, u.oneCell' = true)
    (h63 : n + m ≤ maxLen) (hbytes : (n + m) * bytes ≤ 140737488355328) (hbase : base ≤ w.heap.size)
    (h : ∀ v' w', w'.ownsRow base e size v' (n + m) (xs ++ news) → w.grownBy w' v.ownBlock → (v' = .slice none 0 0 ↔ v = .slice none 0 0 ∧ m = 0) → (v'.ownBlock = v.ownBlock ∨ v'.ownBlock = some w.heap.size) → K (a.put o.dst v') w') :
    if Region.wanted o (yielded ops a.tmps) = true then Oper.wp P o a w K Q else E := by
  have hw : Region.wanted o (yielded ops a.tmps) = true := by simp [Region.wanted, hgd]
  rw [if_pos hw]
  obtain ⟨v', w', hr, h2, h3, h4, h5⟩ := run_append_own_at (P := P) w base t o.type e i z size bytes ht hi hz hsize hby hzs hsz v n xs hown ad m c news hl hnews h1 h63 hbytes hbase
  unfold Oper.wp execOp
  simp only [ho, resolve, invoke, builtin, Sem.run_bind, Sem.run_pure, Result.andThen_ok, List.map_toArray, List.map_cons, List.map_nil, hs, hx, hr]
  exact h v' w' h2 h3 h4 h5
end
end Go.Proofs.YtnkmonmkhmcgaaaGreatDoor
