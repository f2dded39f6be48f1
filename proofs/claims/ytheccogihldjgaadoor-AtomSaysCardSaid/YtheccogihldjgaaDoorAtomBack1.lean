/- AtomBack, walked: it returns true. -/
import Derived.Test.YtheccogihldjgaaDoorAW9
namespace Go.Proofs.YtheccogihldjgaaDoor
open Go.RowKit Qm

theorem at_eta (s f : ByteArray) (op ver slot : Int) (on : Bool) : atV (atOf s op ver slot f on) = atv s op ver slot f on := by
  obtain ⟨⟨s⟩⟩ := s; obtain ⟨⟨f⟩⟩ := f; rfl

theorem at_of (x : At) : atOf ⟨x.nm.toArray⟩ x.op x.ver x.slot ⟨x.fl.toArray⟩ x.on = x := by
  cases x; simp [atOf]
theorem atOf_inj {s f s' f' : ByteArray} {op ver slot op' ver' slot' : Int} {on on' : Bool} (h : atOf s op ver slot f on = atOf s' op' ver' slot' f' on') : s = s' ∧ op = op' ∧ ver = ver' ∧ slot = slot' ∧ f = f' ∧ on = on' := by
  unfold atOf at h
  injection h with h1 h2 h3 h4 h5 h6
  exact ⟨by rw [bs_mk s, bs_mk s', h1], h2, h3, h4, by rw [bs_mk f, bs_mk f', h5], h6⟩
theorem bs_differ {s s' : ByteArray} (h : ¬ s = s') : (s.toList == s'.toList) = false := by
  rw [Lib.toList_data, Lib.toList_data, beq_eq_false_iff_ne]
  intro e
  exact h (by rw [bs_mk s, bs_mk s', e])
/-- Two atoms in their boxes. -/
def TwoIn (w : World) (x y : List Value) (v : Value) (wx : World) : Prop :=
  v = .bool false ∧ Whole wx w.heap.size 23 x ∧ Whole wx (w.heap.size + 1) 23 y ∧ Below w.heap.size w wx
set_option maxRecDepth 100000 in
set_option maxHeartbeats 6400000 in
theorem atomBack_any (s f s' f' t : ByteArray) (op ver slot op' ver' slot' : Int) (on on' : Bool) (w : World) (hs : s.size ≤ maxLen) (hf : f.size ≤ maxLen) (hs' : s'.size ≤ maxLen) (hf' : f'.size ≤ maxLen) (ht : t.size ≤ maxLen) (hL : LaidV w) :
    Calls Tryd.prog 3 #[atv s op ver slot f on, atv s' op' ver' slot' f' on', .string t] w fun e w' => e = .returned (.bool true) ∧ Below w.heap.size w w' := by
  have HLV := Lib.hid hL; clear hL
  have hp1 := fun wx => print_any s f op ver slot on wx hs hf
  have hp2 := fun wx => print_any s' f' op' ver' slot' on' wx hs' hf'
  have A1 := Lib.hid ((Whole.new w _ 23 [.string s, .int .i64 op, .int .i64 ver, .int .i64 slot, .string f, .bool on] rfl).alloc (.cells #[.string s', .int .i64 op', .int .i64 ver', .int .i64 slot', .string f', .bool on'] 23))
  have A2 := Lib.hid (Whole.new (w.alloc (.cells #[.string s, .int .i64 op, .int .i64 ver, .int .i64 slot, .string f, .bool on] 23)) (w.heap.size + 1) 23 [.string s', .int .i64 op', .int .i64 ver', .int .i64 slot', .string f', .bool on'] (by simp))
  have BB := Lib.hid (((Below.refl _ w).alloc (Nat.le_refl _) (.cells #[.string s, .int .i64 op, .int .i64 ver, .int .i64 slot, .string f, .bool on] 23)).alloc (by simp) (.cells #[.string s', .int .i64 op', .int .i64 ver', .int .i64 slot', .string f', .bool on'] 23))
  unfold atv at hp1 hp2 ⊢
  have Hp1 := Lib.hid hp1; have Hp2 := Lib.hid hp2; clear hp1 hp2
  go_enter Tryd.func3, Tryd.ntmps3
  go_wp2_with (first | (go_at_call 6; with_reducible refine (Hp1.out _).mono ?_; rintro e w1 ⟨rfl, hb1⟩; refine Hid.out ?_))
  refine Lib.hid ?_
  replace A1 := Lib.hid (A1.out.below hb1 A1.out.lt)
  replace A2 := Lib.hid (A2.out.below hb1 A2.out.lt)
  replace BB := Lib.hid (BB.out.trans (hb1.mono BB.out.size))
  clear hb1
  have d0 := A1.out.cell 0; have d1 := A1.out.cell 1; have d2 := A1.out.cell 2; have d3 := A1.out.cell 3; have d4 := A1.out.cell 4; have d5 := A1.out.cell 5
  have f0 := A2.out.cell 0; have f1 := A2.out.cell 1; have f2 := A2.out.cell 2; have f3 := A2.out.cell 3; have f4 := A2.out.cell 4; have f5 := A2.out.cell 5
  simp only [List.getElem?_cons_zero, List.getElem?_cons_succ] at d0 d1 d2 d3 d4 d5 f0 f1 f2 f3 f4 f5
  go_upto_region 3 with (first | (go_at_call 6; with_reducible refine (Hp2.out _).mono ?_; rintro e w2 ⟨rfl, hb2⟩; refine Hid.out ?_))
  refine Lib.hid ?_
  replace A1 := Lib.hid (A1.out.below hb2 A1.out.lt)
  replace A2 := Lib.hid (A2.out.below hb2 A2.out.lt)
  replace BB := Lib.hid (BB.out.trans (hb2.mono BB.out.size))
  clear hb2
  clear Hp2 d0 d1 d2 d3 d4 d5 f0 f1 f2 f3 f4 f5
  go_upto_region 3 with fail
  go_cut [45] (TwoIn w [.string s, .int .i64 op, .int .i64 ver, .int .i64 slot, .string f, .bool on] [.string s', .int .i64 op', .int .i64 ver', .int .i64 slot', .string f', .bool on'])
  case first =>
    by_cases h1 : printE (atOf s op ver slot f on) = 0
    · by_cases h2 : printE (atOf s' op' ver' slot' f' on') = 0
      · have e1 : (printE (atOf s op ver slot f on) == 0) = true := by simpa using h1
        have e2 : (printE (atOf s' op' ver' slot' f' on') == 0) = true := by simpa using h2
        by_cases hab : atOf s op ver slot f on = atOf s' op' ver' slot' f' on'
        · obtain ⟨rfl, rfl, rfl, rfl, rfl, rfl⟩ := atOf_inj hab
          clear hab h1 h2
          go_wp2_with (first | (go_at_call 7; refine (asked_any _ (HLV.out.below BB.out)).mono ?_; rintro e w3 ⟨rfl, hb3⟩; refine Hid.out ?_))
          refine Lib.hid ?_
          replace A1 := Lib.hid (A1.out.below hb3 A1.out.lt)
          replace A2 := Lib.hid (A2.out.below hb3 A2.out.lt)
          replace BB := Lib.hid (BB.out.trans (hb3.mono BB.out.size))
          clear hb3
          have d0 := A1.out.cell 0; have d1 := A1.out.cell 1; have d2 := A1.out.cell 2; have d3 := A1.out.cell 3; have d4 := A1.out.cell 4; have d5 := A1.out.cell 5
          have f0 := A2.out.cell 0; have f1 := A2.out.cell 1; have f2 := A2.out.cell 2; have f3 := A2.out.cell 3; have f4 := A2.out.cell 4; have f5 := A2.out.cell 5
          simp only [List.getElem?_cons_zero, List.getElem?_cons_succ] at d0 d1 d2 d3 d4 d5 f0 f1 f2 f3 f4 f5
          go_wp2
          go_meet
          case rel => exact ⟨rfl, A1.out, A2.out, BB.out⟩
        · have hne : (printS (atOf s op ver slot f on) == printS (atOf s' op' ver' slot' f' on')) = false := by
            rw [beq_eq_false_iff_ne]
            intro h
            unfold printS at h
            unfold printE at h1 h2
            rw [if_pos h1, if_pos h2] at h
            exact hab (text_inj h1 h2 h)
          have Hab := Lib.hid hab
          clear hab h1 h2
          go_wp2_with (first | (go_at_call 7; refine (asked_any _ (HLV.out.below BB.out)).mono ?_; rintro e w3 ⟨rfl, hb3⟩; refine Hid.out ?_))
          refine Lib.hid ?_
          replace A1 := Lib.hid (A1.out.below hb3 A1.out.lt)
          replace A2 := Lib.hid (A2.out.below hb3 A2.out.lt)
          replace BB := Lib.hid (BB.out.trans (hb3.mono BB.out.size))
          clear hb3
          have d0 := A1.out.cell 0; have d1 := A1.out.cell 1; have d2 := A1.out.cell 2; have d3 := A1.out.cell 3; have d4 := A1.out.cell 4; have d5 := A1.out.cell 5
          have f0 := A2.out.cell 0; have f1 := A2.out.cell 1; have f2 := A2.out.cell 2; have f3 := A2.out.cell 3; have f4 := A2.out.cell 4; have f5 := A2.out.cell 5
          simp only [List.getElem?_cons_zero, List.getElem?_cons_succ] at d0 d1 d2 d3 d4 d5 f0 f1 f2 f3 f4 f5
          by_cases c1 : s = s'
          · subst c1
            by_cases c2 : op = op'
            · subst c2
              by_cases c3 : ver = ver'
              · subst c3
                by_cases c4 : slot = slot'
                · subst c4
                  by_cases c5 : f = f'
                  · subst c5
                    have c6 : (on == on') = false := by
                      rw [beq_eq_false_iff_ne]; rintro rfl; exact Hab.out rfl
                    go_wp2
                    go_meet
                    case rel => exact ⟨rfl, A1.out, A2.out, BB.out⟩
                  · have c5' := bs_differ c5
                    go_wp2
                    go_meet
                    case rel => exact ⟨rfl, A1.out, A2.out, BB.out⟩
                · have c4' : (slot == slot') = false := by simpa using c4
                  go_wp2
                  go_meet
                  case rel => exact ⟨rfl, A1.out, A2.out, BB.out⟩
              · have c3' : (ver == ver') = false := by simpa using c3
                go_wp2
                go_meet
                case rel => exact ⟨rfl, A1.out, A2.out, BB.out⟩
            · have c2' : (op == op') = false := by simpa using c2
              go_wp2
              go_meet
              case rel => exact ⟨rfl, A1.out, A2.out, BB.out⟩
          · have c1' := bs_differ c1
            go_wp2
            go_meet
            case rel => exact ⟨rfl, A1.out, A2.out, BB.out⟩
      · have e1 : (printE (atOf s op ver slot f on) == 0) = true := by simpa using h1
        have e2 : (printE (atOf s' op' ver' slot' f' on') == 0) = false := by simpa using h2
        clear h1 h2
        go_wp2_with (first | (go_at_call 7; refine (asked_any _ (HLV.out.below BB.out)).mono ?_; rintro e w3 ⟨rfl, hb3⟩; refine Hid.out ?_))
        refine Lib.hid ?_
        replace A1 := Lib.hid (A1.out.below hb3 A1.out.lt)
        replace A2 := Lib.hid (A2.out.below hb3 A2.out.lt)
        replace BB := Lib.hid (BB.out.trans (hb3.mono BB.out.size))
        clear hb3
        have d0 := A1.out.cell 0; have d1 := A1.out.cell 1; have d2 := A1.out.cell 2; have d3 := A1.out.cell 3; have d4 := A1.out.cell 4; have d5 := A1.out.cell 5
        have f0 := A2.out.cell 0; have f1 := A2.out.cell 1; have f2 := A2.out.cell 2; have f3 := A2.out.cell 3; have f4 := A2.out.cell 4; have f5 := A2.out.cell 5
        simp only [List.getElem?_cons_zero, List.getElem?_cons_succ] at d0 d1 d2 d3 d4 d5 f0 f1 f2 f3 f4 f5
        go_wp2
        go_meet
        case rel => exact ⟨rfl, A1.out, A2.out, BB.out⟩
    · have e1 : (printE (atOf s op ver slot f on) == 0) = false := by simpa using h1
      clear h1
      go_wp2_with (first | (go_at_call 7; refine (asked_any _ (HLV.out.below BB.out)).mono ?_; rintro e w3 ⟨rfl, hb3⟩; refine Hid.out ?_))
      refine Lib.hid ?_
      replace A1 := Lib.hid (A1.out.below hb3 A1.out.lt)
      replace A2 := Lib.hid (A2.out.below hb3 A2.out.lt)
      replace BB := Lib.hid (BB.out.trans (hb3.mono BB.out.size))
      clear hb3
      have d0 := A1.out.cell 0; have d1 := A1.out.cell 1; have d2 := A1.out.cell 2; have d3 := A1.out.cell 3; have d4 := A1.out.cell 4; have d5 := A1.out.cell 5
      have f0 := A2.out.cell 0; have f1 := A2.out.cell 1; have f2 := A2.out.cell 2; have f3 := A2.out.cell 3; have f4 := A2.out.cell 4; have f5 := A2.out.cell 5
      simp only [List.getElem?_cons_zero, List.getElem?_cons_succ] at d0 d1 d2 d3 d4 d5 f0 f1 f2 f3 f4 f5
      go_wp2
      go_meet
      case rel => exact ⟨rfl, A1.out, A2.out, BB.out⟩
  case rest =>
    obtain ⟨rfl, A1', A2', BB'⟩ := hcut
    clear A1 A2 BB
    have A1 := Lib.hid A1'; have A2 := Lib.hid A2'; have BB := Lib.hid BB'
    clear A1' A2' BB'
    have d0 := A1.out.cell 0; have d1 := A1.out.cell 1; have d2 := A1.out.cell 2; have d3 := A1.out.cell 3; have d4 := A1.out.cell 4; have d5 := A1.out.cell 5
    have f0 := A2.out.cell 0; have f1 := A2.out.cell 1; have f2 := A2.out.cell 2; have f3 := A2.out.cell 3; have f4 := A2.out.cell 4; have f5 := A2.out.cell 5
    simp only [List.getElem?_cons_zero, List.getElem?_cons_succ] at d0 d1 d2 d3 d4 d5 f0 f1 f2 f3 f4 f5
    obtain ⟨q1, hq1⟩ : ∃ q, printE (atOf s op ver slot f on) = q := ⟨_, rfl⟩
    obtain ⟨p1, hp1⟩ : ∃ q, printS (atOf s op ver slot f on) = q := ⟨_, rfl⟩
    rw [hq1, hp1]
    have HQ1 := Lib.hid hq1; have HP1 := Lib.hid hp1
    clear hq1 hp1 Hp1
    generalize printE (atOf s' op' ver' slot' f' on') = q2
    generalize printS (atOf s' op' ver' slot' f' on') = p2
    go_upto_if 47 with fail
    go_cut [] (fun wx => Below w.heap.size w wx)
    case first =>
      by_cases h1 : q1 = 0
      · have e1 : (q1 == 0) = true := by simpa using h1
        have hk : ckAtom (atOf s op ver slot f on) = 0 := HQ1.out.trans h1
        have hS : p1 = textOf (atOf s op ver slot f on) := by rw [← HP1.out]; unfold printS; rw [if_pos hk]
        have hlen := textOf_len (atOk hk)
        rw [← hS] at hlen
        have hpa := fun wx h => parse_any ⟨p1.toArray⟩ wx (by rw [bs_size]; unfold maxLen; omega) h
        rw [show (⟨p1.toArray⟩ : ByteArray).data.toList = p1 from by simp, show parseAt p1 = (atOf s op ver slot f on, 0) from by rw [hS]; exact parse_text hk] at hpa
        simp only [AtEnd, atOf, bs_self] at hpa
        clear hS
        have Hpa := Lib.hid hpa
        clear hpa hlen hk h1
        go_wp2_with (first | (go_at_call 8; refine (Hpa.out _ (HLV.out.below BB.out)).mono ?_; rintro e w4 ⟨rfl, hb4⟩; refine Hid.out ?_))
        refine Lib.hid ?_
        replace A1 := Lib.hid (A1.out.below hb4 A1.out.lt)
        replace A2 := Lib.hid (A2.out.below hb4 A2.out.lt)
        replace BB := Lib.hid (BB.out.trans (hb4.mono BB.out.size))
        clear hb4
        clear d0 d1 d2 d3 d4 d5 f0 f1 f2 f3 f4 f5
        have d0 := A1.out.cell 0; have d1 := A1.out.cell 1; have d2 := A1.out.cell 2; have d3 := A1.out.cell 3; have d4 := A1.out.cell 4; have d5 := A1.out.cell 5
        have f0 := A2.out.cell 0; have f1 := A2.out.cell 1; have f2 := A2.out.cell 2; have f3 := A2.out.cell 3; have f4 := A2.out.cell 4; have f5 := A2.out.cell 5
        simp only [List.getElem?_cons_zero, List.getElem?_cons_succ] at d0 d1 d2 d3 d4 d5 f0 f1 f2 f3 f4 f5
        have hlt := A1.out.lt
        have B9 := Lib.hid (BB.out.alloc BB.out.size (.cells #[.string s, .int .i64 op, .int .i64 ver, .int .i64 slot, .string f, .bool on] 23))
        go_wp2
        go_meet
        case rel => exact B9.out
      · have e1 : (q1 == 0) = false := by simpa using h1
        clear h1
        go_wp2
        go_meet
        case rel => exact BB.out
    case rest =>
      clear A1 A2 BB d0 d1 d2 d3 d4 d5 f0 f1 f2 f3 f4 f5
      have BB := Lib.hid hcut
      clear hcut
      have hpa := fun wx h => parse_any t wx ht h
      have hbk := fun x => parse_back (l := t.data.toList) (x := x)
      obtain ⟨⟨x, q⟩, hq⟩ : ∃ q, parseAt t.data.toList = q := ⟨_, rfl⟩
      rw [hq] at hpa hbk
      have Hbk := Lib.hid hbk
      simp only [AtEnd] at hpa
      have Hpa := Lib.hid hpa
      clear hpa hbk hq
      by_cases h0 : q = 0
      · subst h0
        obtain ⟨hx1, hx2⟩ := Hbk.out x rfl
        have hln := isName_len (atOk hx1).nm
        have hlf : x.fl.length ≤ 8 := by
          by_cases h : x.fl = []
          · rw [h]; exact Nat.zero_le _
          · exact (isName_len ((atOk hx1).fl h)).2
        have hpr := fun wx => print_any ⟨x.nm.toArray⟩ ⟨x.fl.toArray⟩ x.op x.ver x.slot x.on wx (by rw [bs_size]; unfold maxLen; omega) (by rw [bs_size]; unfold maxLen; omega)
        rw [at_of] at hpr
        have hS : printS x = t.data.toList := by unfold printS; rw [if_pos hx1, hx2]
        have hE : printE x = 0 := hx1
        rw [hS, hE] at hpr
        unfold atv at hpr
        have Hpr := Lib.hid hpr
        clear hpr hS hE hx1 hx2 hln hlf
        have heq := bs_eq t.data.toList t
        rw [decide_eq_true rfl] at heq
        cases x with | mk xn xo xv xs xf xb =>
        simp only [] at Hpa Hpr
        go_wp2_with (first | (go_at_call 8; refine (Hpa.out _ (HLV.out.below BB.out)).mono ?_; rintro e w4 ⟨rfl, hb4⟩; refine Hid.out ?_))
        refine Lib.hid ?_
        have B5 := Lib.hid (BB.out.trans (hb4.mono BB.out.size))
        clear hb4
        have B6 := Lib.hid (B5.out.alloc B5.out.size (.cells #[.string ⟨xn.toArray⟩, .int .i64 xo, .int .i64 xv, .int .i64 xs, .string ⟨xf.toArray⟩, .bool xb] 23))
        go_wp2_with (first | (go_at_call 6; refine (Hpr.out _).mono ?_; rintro e w5 ⟨rfl, hb5⟩; refine Hid.out ?_))
        refine Lib.hid ?_
        have B7 := Lib.hid (B6.out.trans (hb5.mono B6.out.size))
        clear hb5
        go_wp2
        go_ret
        exact ⟨rfl, B7.out⟩
      · have h1 : (q == 0) = false := by simpa using h0
        cases x with | mk xn xo xv xs xf xb =>
        simp only [] at Hpa
        go_wp2_with (first | (go_at_call 8; refine (Hpa.out _ (HLV.out.below BB.out)).mono ?_; rintro e w4 ⟨rfl, hb4⟩; refine Hid.out ?_))
        refine Lib.hid ?_
        have B5 := Lib.hid (BB.out.trans (hb4.mono BB.out.size))
        clear hb4
        have B6 := Lib.hid (B5.out.alloc B5.out.size (.cells #[.string ⟨xn.toArray⟩, .int .i64 xo, .int .i64 xv, .int .i64 xs, .string ⟨xf.toArray⟩, .bool xb] 23))
        go_wp2
        go_ret
        exact ⟨rfl, B6.out⟩
end Go.Proofs.YtheccogihldjgaaDoor
