/- Parts of the proof: walks and plain laws, side by side. -/
import Derived.Test.YtokibfankmjphaaGreatDoorM15
import Derived.Test.YtokibfankmjphaaGreatDoorM14
import Derived.Test.YtokibfankmjphaaGreatDoorM3
import Derived.IntWalk
import Derived.Test.YtokibfankmjphaaGreatDoorM4
import Derived.Test.YtokibfankmjphaaGreatDoorShelf
import Derived.Test.YtokibfankmjphaaGreatDoorM1
import Derived.Test.YtokibfankmjphaaGreatDoorM2
import Derived.Test.YtokibfankmjphaaGreatDoorM5
import Derived.Test.YtokibfankmjphaaGreatDoorM6
import Derived.Test.YtokibfankmjphaaGreatDoorM7
import Derived.Test.YtokibfankmjphaaGreatDoorM8
import Derived.Test.YtokibfankmjphaaGreatDoorM9
import Derived.Test.YtokibfankmjphaaGreatDoorM10
import Derived.Test.YtokibfankmjphaaGreatDoorM11
import Derived.Test.YtokibfankmjphaaGreatDoorM12
import Derived.Test.YtokibfankmjphaaGreatDoorM13
set_option linter.unusedVariables false
set_option linter.unusedSimpArgs false
set_option linter.unusedSectionVars false
/- valid.CheckWish, walked. -/
namespace Go.Proofs.YtokibfankmjphaaGreatDoor
open Go.RowKit Qm

structure Wb (w : World) (A : Option Addr) (n c : Nat) (wv : List Value) (wx : World) : Prop where
  t : Whole wx w.heap.size 24 [.slice A n c]
  v : Whole wx (w.heap.size + 1) 30 wv
  bel : Below w.heap.size w wx
section
variable {w : World} {A : Option Addr} {n c : Nat} {wv : List Value} {wx wy : World}
theorem Wb.move (h : Wb w A n c wv wx) (hb : Below wx.heap.size wx wy) : Wb w A n c wv wy := ⟨h.t.below hb h.t.lt, h.v.below hb h.v.lt, h.bel.trans (hb.mono h.bel.size)⟩
theorem Wb.alloc (h : Wb w A n c wv wx) (o : Obj) : Wb w A n c wv (wx.alloc o) := h.move ((Below.refl _ _).alloc (Nat.le_refl _) o)
theorem Wb.drewN (h : Wb w A n c wv wx) (k : Nat) : Wb w A n c wv (wx.drewN k) := h.move (below_drewN (Below.refl _ _) k)
theorem Wb.new (w : World) (A : Option Addr) (n c : Nat) (wv : List Value) : Wb w A n c wv ((w.alloc (.cells #[.slice A n c] 24)).alloc (.cells wv.toArray 30)) :=
  ⟨(Whole.new w _ _ [.slice A n c] rfl).alloc _, Whole.new (w.alloc (.cells #[.slice A n c] 24)) (w.heap.size + 1) _ wv (by simp), ((Below.refl _ w).alloc (Nat.le_refl _) _).alloc (by simp) _⟩
end
theorem ckAts_step {l : List At} {j : Nat} {a : At} (h : l[j]? = some a) : ckAts (l.drop j) = if ckAtom a ≠ 0 then ckAtom a else ckAts (l.drop (j + 1)) := by
  obtain ⟨hj, rfl⟩ := List.getElem?_eq_some_iff.1 h
  rw [List.drop_eq_getElem_cons hj]; rfl
theorem ckMask_step {ps : List Pk} {l : List Int} {j : Nat} {x : Int} (h : l[j]? = some x) : ckMask ps (prevOf l j) (l.drop j) = if x < 0 ∨ (ps.length : Int) ≤ x then 5 else if badPl (prevOf l j) x = true then 6 else ckMask ps (prevOf l (j + 1)) (l.drop (j + 1)) := by
  rw [prevOf_succ h]
  obtain ⟨hj, rfl⟩ := List.getElem?_eq_some_iff.1 h
  rw [List.drop_eq_getElem_cons hj]; rfl
theorem ckOn_step {ps : List Pk} {l : List (Int × Int)} {j : Nat} {x : Int × Int} (h : l[j]? = some x) : ckOn ps (prevOf l j) (l.drop j) = if x.1 < 0 ∨ (ps.length : Int) ≤ x.1 ∨ x.2 < 0 ∨ ((pkOf ps x.1).fs.length : Int) ≤ x.2 then 5 else if badOn (prevOf l j) x = true then 6 else ckOn ps (prevOf l (j + 1)) (l.drop (j + 1)) := by
  rw [prevOf_succ h]
  obtain ⟨hj, rfl⟩ := List.getElem?_eq_some_iff.1 h
  rw [List.drop_eq_getElem_cons hj]; rfl
theorem getD_some {l : List Int} {j : Nat} (h : j < l.length) : l[j]? = some (l.getD j 0) := by
  rw [List.getD_eq_getElem?_getD, List.getElem?_eq_getElem h]; rfl

set_option maxRecDepth 100000 in
set_option maxHeartbeats 6400000 in
theorem cwish_any (ps : List Pk) (v : Ws) (S : Nat → Prop) (A : Option Addr) (n c : Nat) (A1 A2 A3 A4 : Option Addr) (n1 c1 n2 c2 n3 c3 n4 c4 : Nat) (w : World) (hT : RTree w S A n ps) (hnc : n ≤ c) (hc : c ≤ maxLen) (hV : WsAt w S A1 n1 c1 A2 n2 c2 A3 n3 c3 A4 n4 c4 v) (hS : ∀ k, S k → k < w.heap.size) :
    Calls Tryz.prog 10 #[.agg #[.slice A n c], .agg #[.slice A1 n1 c1, .slice A2 n2 c2, .slice A3 n3 c3, .slice A4 n4 c4]] w fun e w' => e = .returned (.int .i64 (ckWish ps v)) ∧ Below w.heap.size w w' := by
  have Hpl := Lib.hid hT.len
  have X0 := Lib.hid (Wb.new w A n c [.slice A1 n1 c1, .slice A2 n2 c2, .slice A3 n3 c3, .slice A4 n4 c4])
  have HT := Lib.hid hT; have HS := Lib.hid hS; have HV := Lib.hid hV; clear hT hS hV
  have hl0 := fun q hq => Nat.lt_of_lt_of_le (HS.out q hq) X0.out.bel.size
  have Hcs := Lib.hid (cset_any ps v.ins S A A2 n c n2 c2 _ (HT.out.under X0.out.bel HS.out) hnc hc (HV.out.ins.under X0.out.bel HS.out) (Nat.le_trans HV.out.h2.1 HV.out.h2.2) hl0)
  clear hl0
  have H1 := HV.out.h1; have H2 := HV.out.h2; have H3 := HV.out.h3; have H4 := HV.out.h4
  unfold maxLen at hc H1 H2 H3 H4
  have hts := HV.out.ts.len
  have hms := HV.out.ms.len
  have hon := HV.out.on.len
  have HR : Hid (ckWish ps v = if ckSet ps v.ins ≠ 0 then ckSet ps v.ins else ckWishR ps v) := Lib.hid rfl
  have HR1 : Hid (ckWishR ps v = if 6 < v.ts.length then 2 else if ckAts v.ts ≠ 0 then ckAts v.ts else if ckMask ps none v.ms ≠ 0 then ckMask ps none v.ms else ckOn ps none v.on) := Lib.hid rfl
  generalize ckWish ps v = R at HR ⊢
  generalize hz : ckSet ps v.ins = z at Hcs HR
  have HZ := Lib.hid hz; clear hz
  have Hts := Lib.hid hts; have Hms := Lib.hid hms; have Hon := Lib.hid hon
  clear hts hms hon
  by_cases z0 : z = 0
  · subst z0
    have hn8 : n ≤ 8 := by
      have := HZ.out
      unfold ckSet at this
      by_cases h0 : ckTree ps = 0
      · rw [← Hpl.out]; exact ckTree_len h0
      · rw [if_pos h0] at this; exact absurd this h0
    have HR2 : Hid (R = if 6 < n1 then 2 else if ckAts v.ts ≠ 0 then ckAts v.ts else if ckMask ps none v.ms ≠ 0 then ckMask ps none v.ms else ckOn ps none v.on) := Lib.hid (by rw [HR.out, if_neg (by simp), HR1.out, Hts.out])
    clear HR HR1
    by_cases h6 : (6 : Int) < n1
    ·
      go_enter Tryz.func10, Tryz.ntmps10
      go_wp2_with (first | (go_at_call 14; refine Hcs.out.mono ?_; rintro e w2 ⟨rfl, hb2⟩; refine Hid.out ?_))
      refine Lib.hid ?_
      have X2 := Lib.hid (X0.out.move hb2)
      clear hb2 X0 Hcs
      have v0 := X2.out.v.cell 0
      simp only [List.getElem?_cons_zero] at v0
      go_wp2
      go_ret
      exact ⟨ret_int (by rw [HR2.out, if_pos (by omega)]), X2.out.bel⟩
    have h6' : decide ((6 : Int) < n1) = false := decide_eq_false h6
    have HRA : Hid (R = if ckAts v.ts ≠ 0 then ckAts v.ts else if ckMask ps none v.ms ≠ 0 then ckMask ps none v.ms else ckOn ps none v.on) := Lib.hid (by rw [HR2.out, if_neg (by omega)])
    clear HR2
    go_enter Tryz.func10, Tryz.ntmps10
    go_wp2_with (first | (go_at_call 14; refine Hcs.out.mono ?_; rintro e w2 ⟨rfl, hb2⟩; refine Hid.out ?_))
    refine Lib.hid ?_
    have X2 := Lib.hid (X0.out.move hb2)
    clear hb2 X0 Hcs
    have v0 := X2.out.v.cell 0
    simp only [List.getElem?_cons_zero] at v0
    have vlt := X2.out.v.lt
    go_wp2
    clear v0 vlt
    go_loopg [27] n1 (fun g iv wr => ∃ j : Nat, Hid (j + g = n1) ∧ iv = .int .i64 j ∧ Hid (ckAts v.ts = ckAts (v.ts.drop j)) ∧ Hid (Wb w A n c [.slice A1 n1 c1, .slice A2 n2 c2, .slice A3 n3 c3, .slice A4 n4 c4] wr))
    case atStart => exact ⟨0, Lib.hid (Nat.zero_add _), rfl, Lib.hid rfl, X2⟩
    case round =>
      obtain ⟨j, Hj, rfl, Hcl, XR⟩ := hrel
      clear X2
      by_cases hj : j < n1
      · obtain ⟨b, o, x, a, rfl, hbS, ha, hxa, _, hcell⟩ := (HV.out.ts.keep (w' := wr) (fun p hp => XR.out.bel.cell (HS.out _ hp)) fun _ _ h => h).at_ hj (by decide)
        obtain ⟨rfl, ha1, ha2⟩ := hxa
        have Hst := Lib.hid (ckAts_step ha)
        have hac := fun wx => check_any ⟨a.nm.toArray⟩ ⟨a.fl.toArray⟩ a.op a.ver a.slot a.on wx (by rw [bsz]; exact ha1) (by rw [bsz]; exact ha2)
        rw [atOf_mk] at hac
        unfold atv at hac
        generalize ckAtom a = y at hac Hst
        have Hac := Lib.hid hac; clear hac
        have g0 := hcell 0 (by omega); have g1 := hcell 1 (by omega); have g2 := hcell 2 (by omega); have g3 := hcell 3 (by omega); have g4 := hcell 4 (by omega); have g5 := hcell 5 (by omega)
        unfold atRow at g0 g1 g2 g3 g4 g5
        simp only [List.getElem?_cons_zero, List.getElem?_cons_succ, Nat.add_zero] at g0 g1 g2 g3 g4 g5
        have X3 := Lib.hid (XR.out.alloc (.cells #[.string ⟨a.nm.toArray⟩, .int .i64 a.op, .int .i64 a.ver, .int .i64 a.slot, .string ⟨a.fl.toArray⟩, .bool a.on] 43))
        clear hcell ha ha1 ha2
        go_wp2_with (first | (go_at_call 23; refine (Hac.out _).mono ?_; rintro e w4 ⟨rfl, hb4⟩; refine Hid.out ?_))
        refine Lib.hid ?_
        have X4 := Lib.hid (X3.out.move hb4)
        clear hb4 g0 g1 g2 g3 g4 g5
        by_cases y0 : y = 0
        · subst y0
          have HE : Hid (ckAts (v.ts.drop j) = ckAts (v.ts.drop (j + 1))) := Lib.hid (by rw [Hst.out, if_neg (by simp)])
          go_wp2
          go_roundg (gk - 1)
          case measure => have := Hj.out; omega
          case rel => exact ⟨j + 1, Lib.hid (by have := Hj.out; omega), by go_num, Lib.hid (by rw [Hcl.out, HE.out]), X4⟩
        · have y1 : (y != 0) = true := by simpa using y0
          have HE : Hid (ckAts v.ts = y) := Lib.hid (by rw [Hcl.out, Hst.out, if_pos y0])
          go_wp2
          go_ret
          exact ⟨ret_int (by rw [HRA.out, HE.out, if_pos y0]), X4.out.bel⟩
      · obtain rfl : n1 = j := by have := Hj.out; omega
        have HRB : Hid (R = if ckMask ps none v.ms ≠ 0 then ckMask ps none v.ms else ckOn ps none v.on) := Lib.hid (by
          rw [HRA.out, Hcl.out, List.drop_of_length_le (by have := Hts.out; omega)]; rfl)
        clear HRA Hcl
        have v2 := XR.out.v.cell 2
        simp only [List.getElem?_cons_zero, List.getElem?_cons_succ] at v2
        go_wp2
        clear v2
        obtain ⟨wq, hwq⟩ : ∃ x, x = wr := ⟨_, rfl⟩
        rw [← hwq] at XR ⊢
        clear hwq
        go_loopg [40] n3 (fun g iv wr => ∃ j : Nat, Hid (j + g = n3) ∧ iv = .int .i64 j ∧ Hid (ckMask ps none v.ms = ckMask ps (prevOf v.ms j) (v.ms.drop j)) ∧ Hid (Wb w A n c [.slice A1 n1 c1, .slice A2 n2 c2, .slice A3 n3 c3, .slice A4 n4 c4] wr))
        case atStart => exact ⟨0, Lib.hid (Nat.zero_add _), rfl, Lib.hid rfl, XR⟩
        case round =>
          obtain ⟨j, Hj, rfl, Hcl, XQ⟩ := hrel
          clear XR
          by_cases hj : j < n3
          · obtain ⟨b, o, rfl, hbS, g0⟩ := RInts.at_ (RInts.keep (w' := wr) HV.out.ms fun p hp => XQ.out.bel.cell (HS.out _ hp)) hj
            have Hst := Lib.hid (ckMask_step (ps := ps) (getD_some (l := v.ms) (j := j) (by have := Hms.out; omega)))
            have hbl : b < wr.heap.size := Nat.lt_of_lt_of_le (HS.out _ hbS) XQ.out.bel.size
            have t0 := XQ.out.t.cell 0
            have v2 := XQ.out.v.cell 2
            simp only [List.getElem?_cons_zero, List.getElem?_cons_succ] at t0 v2
            generalize v.ms.getD j 0 = x at g0 Hst
            by_cases hneg : x < 0
            · have HE : Hid (ckMask ps none v.ms = 5) := Lib.hid (by rw [Hcl.out, Hst.out, if_pos (.inl hneg)])
              have hneg' : decide (x < 0) = true := decide_eq_true hneg
              go_wp2
              go_ret
              exact ⟨ret_int (by rw [HRB.out, HE.out, if_pos (by decide)]), XQ.out.bel⟩
            have hneg' : decide (x < 0) = false := decide_eq_false hneg
            by_cases hpn : (n : Int) ≤ x
            · have HE : Hid (ckMask ps none v.ms = 5) := Lib.hid (by rw [Hcl.out, Hst.out, if_pos (.inr (by rw [Hpl.out]; exact hpn))])
              have hpn' : decide ((n : Int) ≤ x) = true := decide_eq_true hpn
              go_wp2
              go_ret
              exact ⟨ret_int (by rw [HRB.out, HE.out, if_pos (by decide)]), XQ.out.bel⟩
            have hpn' : decide ((n : Int) ≤ x) = false := decide_eq_false hpn
            have HSt2 : Hid (ckMask ps none v.ms = if badPl (prevOf v.ms j) x = true then 6 else ckMask ps (prevOf v.ms (j + 1)) (v.ms.drop (j + 1))) := Lib.hid (by rw [Hcl.out, Hst.out, if_neg (by have := Hpl.out; omega)])
            clear Hst Hcl
            rcases j with _ | i
            · have HE : Hid (ckMask ps none v.ms = ckMask ps (prevOf v.ms (0 + 1)) (v.ms.drop (0 + 1))) := Lib.hid (by rw [HSt2.out, if_neg (by rw [prevOf_zero]; simp [badPl])])
              simp only [Nat.add_zero] at g0
              go_wp2
              go_roundg (gk - 1)
              case measure => have := Hj.out; omega
              case rel => exact ⟨0 + 1, Lib.hid (by have := Hj.out; omega), by go_num, HE, XQ⟩
            · obtain ⟨b', o', e, _, k0⟩ := RInts.at_ (RInts.keep (w' := wr) HV.out.ms fun p hp => XQ.out.bel.cell (HS.out _ hp)) (k := i) (by omega)
              injection e with e; injection e with e1 e2; subst e1 e2
              have Hpr : Hid (prevOf v.ms (i + 1) = some (v.ms.getD i 0)) := Lib.hid (prevOf_succ (getD_some (by have := Hms.out; omega)))
              have HSt3 : Hid (ckMask ps none v.ms = if badPl (some (v.ms.getD i 0)) x = true then 6 else ckMask ps (prevOf v.ms (i + 1 + 1)) (v.ms.drop (i + 1 + 1))) := Lib.hid (by rw [HSt2.out, Hpr.out])
              clear HSt2
              generalize v.ms.getD i 0 = pp at k0 HSt3
              have hwr : IntKind.i64.wrap ((i : Int) + 1 - 1) = (i : Int) := by rw [IntKind.wrap_i64]; omega
              have hwr0 : IntKind.i64.wrap (i : Int) = (i : Int) := by rw [IntKind.wrap_i64]; omega
              have hin : i < n3 := by omega
              have hin2 : (i : Int) < n3 := by omega
              have hin3 : (0 : Int) < (i : Int) + 1 := by omega
              by_cases hb : x ≤ pp
              · have HE : Hid (ckMask ps none v.ms = 6) := Lib.hid (by rw [HSt3.out, if_pos (by simpa [badPl] using hb)])
                have hb' : decide (x ≤ pp) = true := decide_eq_true hb
                go_wp2
                go_ret
                exact ⟨ret_int (by rw [HRB.out, HE.out, if_pos (by decide)]), XQ.out.bel⟩
              · have HE : Hid (ckMask ps none v.ms = ckMask ps (prevOf v.ms (i + 1 + 1)) (v.ms.drop (i + 1 + 1))) := Lib.hid (by rw [HSt3.out, if_neg (by simpa [badPl] using hb)])
                have hb' : decide (x ≤ pp) = false := decide_eq_false hb
                go_wp2
                go_roundg (gk - 1)
                case measure => have := Hj.out; omega
                case rel => exact ⟨i + 1 + 1, Lib.hid (by have := Hj.out; omega), by go_num, HE, XQ⟩
          · obtain rfl : n3 = j := by have := Hj.out; omega
            have HRC : Hid (R = ckOn ps none v.on) := Lib.hid (by
              rw [HRB.out, Hcl.out, List.drop_of_length_le (by have := Hms.out; omega)]; rfl)
            clear HRB Hcl
            have v3 := XQ.out.v.cell 3
            simp only [List.getElem?_cons_zero, List.getElem?_cons_succ] at v3
            go_wp2
            clear v3
            obtain ⟨wu, hwu⟩ : ∃ x, x = wr := ⟨_, rfl⟩
            rw [← hwu] at XQ ⊢
            clear hwu
            go_loopg [70] n4 (fun g iv wr => ∃ j : Nat, Hid (j + g = n4) ∧ iv = .int .i64 j ∧ Hid (ckOn ps none v.on = ckOn ps (prevOf v.on j) (v.on.drop j)) ∧ Hid (Wb w A n c [.slice A1 n1 c1, .slice A2 n2 c2, .slice A3 n3 c3, .slice A4 n4 c4] wr))
            case atStart => exact ⟨0, Lib.hid (Nat.zero_add _), rfl, Lib.hid rfl, XQ⟩
            case round =>
              obtain ⟨j, Hj, rfl, Hcl, XT⟩ := hrel
              clear XQ
              by_cases hj : j < n4
              · obtain ⟨b, o, x, y, rfl, hbS, hy, hxy, _, hcell⟩ := (HV.out.on.keep (w' := wr) (fun p hp => XT.out.bel.cell (HS.out _ hp)) fun _ _ h => h).at_ hj (by decide)
                have Hst := Lib.hid (ckOn_step (ps := ps) hy)
                unfold RPair at hxy
                subst hxy
                obtain ⟨x0, x1⟩ := y
                have hbl : b < wr.heap.size := Nat.lt_of_lt_of_le (HS.out _ hbS) XT.out.bel.size
                have g0 := hcell 0 (by omega); have g1 := hcell 1 (by omega)
                simp only [List.getElem?_cons_zero, List.getElem?_cons_succ, Nat.add_zero] at g0 g1
                dsimp only at Hst
                have X3 := Lib.hid (XT.out.alloc (.cells #[.int .i64 x0, .int .i64 x1] 60))
                have t0 := XT.out.t.cell 0
                have v3 := XT.out.v.cell 3
                simp only [List.getElem?_cons_zero, List.getElem?_cons_succ] at t0 v3
                have vlt := XT.out.v.lt
                have tlt := XT.out.t.lt
                clear hcell hy
                have HR3 : Hid (R = ckOn ps none v.on) := HRC
                by_cases hneg : x0 < 0
                · have HE : Hid (ckOn ps (prevOf v.on j) (v.on.drop j) = 5) := Lib.hid (by rw [Hst.out, if_pos (.inl hneg)])
                  have hneg' : decide (x0 < 0) = true := decide_eq_true hneg
                  go_wp2
                  go_quiet (fail)
                  go_wp2
                  go_ret
                  exact ⟨ret_int (by rw [HR3.out, Hcl.out, HE.out]), below_drewN X3.out.bel _⟩
                have hneg' : decide (x0 < 0) = false := decide_eq_false hneg
                by_cases hpn : (n : Int) ≤ x0
                · have HE : Hid (ckOn ps (prevOf v.on j) (v.on.drop j) = 5) := Lib.hid (by rw [Hst.out, if_pos (.inr (.inl (by rw [Hpl.out]; exact hpn)))])
                  have hpn' : decide ((n : Int) ≤ x0) = true := decide_eq_true hpn
                  go_wp2
                  go_quiet (fail)
                  go_wp2
                  go_ret
                  exact ⟨ret_int (by rw [HR3.out, Hcl.out, HE.out]), below_drewN X3.out.bel _⟩
                have hpn' : decide ((n : Int) ≤ x0) = false := decide_eq_false hpn
                by_cases hneg1 : x1 < 0
                · have HE : Hid (ckOn ps (prevOf v.on j) (v.on.drop j) = 5) := Lib.hid (by rw [Hst.out, if_pos (.inr (.inr (.inl hneg1)))])
                  have hneg1' : decide (x1 < 0) = true := decide_eq_true hneg1
                  go_wp2
                  go_quiet (fail)
                  go_wp2
                  go_ret
                  exact ⟨ret_int (by rw [HR3.out, Hcl.out, HE.out]), below_drewN X3.out.bel _⟩
                have hneg1' : decide (x1 < 0) = false := decide_eq_false hneg1
                obtain ⟨y, rfl⟩ : ∃ y : Nat, x0 = y := ⟨x0.toNat, by omega⟩
                have hyn : y < n := by omega
                obtain ⟨b2, o2, p, D, fn, fc, kd, pa, f, no, F, fq, fd, rfl, hbS2, hp, hP, hcell⟩ := (HT.out.under XT.out.bel HS.out).at_ hyn
                have h3 := hcell 3 (by omega)
                unfold pkRow ndRow at h3
                simp only [List.getElem?_cons_zero, List.getElem?_cons_succ] at h3
                have Hfl : Hid ((pkOf ps (y : Int)).fs.length = fn) := Lib.hid (by unfold pkOf; rw [Int.toNat_natCast, List.getD_eq_getElem?_getD, hp]; exact hP.fs.len)
                have hbl2 : b2 < wr.heap.size := Nat.lt_of_lt_of_le (HS.out _ hbS2) XT.out.bel.size
                have hy0 : (0 : Int) ≤ (y : Int) := by omega
                have hy1 : (y : Int) < n := by omega
                clear hcell hp hP
                by_cases hfn : (fn : Int) ≤ x1
                · have HE : Hid (ckOn ps (prevOf v.on j) (v.on.drop j) = 5) := Lib.hid (by rw [Hst.out, if_pos (.inr (.inr (.inr (by rw [Hfl.out]; exact hfn))))])
                  have hfn' : decide ((fn : Int) ≤ x1) = true := decide_eq_true hfn
                  go_wp2
                  go_quiet (fail)
                  go_wp2
                  go_ret
                  exact ⟨ret_int (by rw [HR3.out, Hcl.out, HE.out]), below_drewN X3.out.bel _⟩
                have hfn' : decide ((fn : Int) ≤ x1) = false := decide_eq_false hfn
                have HSt2 : Hid (ckOn ps none v.on = if badOn (prevOf v.on j) ((y : Int), x1) = true then 6 else ckOn ps (prevOf v.on (j + 1)) (v.on.drop (j + 1))) := Lib.hid (by rw [Hcl.out, Hst.out, if_neg (by have := Hpl.out; have := Hfl.out; omega)])
                clear Hst Hcl
                rcases j with _ | i
                · have HE : Hid (ckOn ps none v.on = ckOn ps (prevOf v.on (0 + 1)) (v.on.drop (0 + 1))) := Lib.hid (by rw [HSt2.out, if_neg (by rw [prevOf_zero]; simp [badOn])])
                  simp only [Nat.zero_mul, Nat.add_zero, Nat.zero_add] at g0 g1
                  go_wp2
                  go_quiet (fail)
                  go_wp2
                  go_quiet (fail)
                  go_wp2
                  go_roundg (gk - 1)
                  case measure => have := Hj.out; omega
                  case rel => exact ⟨(0 + 1), Lib.hid (by have := Hj.out; omega), by go_num, HE, Lib.hid (by first | exact X3.out.drewN _ | exact (X3.out.drewN _).drewN _)⟩
                · obtain ⟨b', o', x', q, e, _, hq, hxq, _, hcell⟩ := (HV.out.on.keep (w' := wr) (fun p hp => XT.out.bel.cell (HS.out _ hp)) fun _ _ h => h).at_ (j := i) (by omega) (by decide)
                  injection e with e; injection e with e1 e2; subst e1 e2
                  unfold RPair at hxq
                  subst hxq
                  obtain ⟨q0, q1⟩ := q
                  have k0 := hcell 0 (by omega); have k1 := hcell 1 (by omega)
                  simp only [List.getElem?_cons_zero, List.getElem?_cons_succ, Nat.add_zero] at k0 k1
                  have Hpr : Hid (prevOf v.on (i + 1) = some (q0, q1)) := Lib.hid (prevOf_succ hq)
                  have HSt3 : Hid (ckOn ps none v.on = if badOn (some (q0, q1)) ((y : Int), x1) = true then 6 else ckOn ps (prevOf v.on (i + 1 + 1)) (v.on.drop (i + 1 + 1))) := Lib.hid (by rw [HSt2.out, Hpr.out])
                  have Hbo : Hid (badOn (some (q0, q1)) ((y : Int), x1) = !(decide (q0 < (y : Int)) || (decide (q0 = (y : Int)) && decide (q1 < x1)))) := Lib.hid rfl
                  clear HSt2 hcell hq
                  generalize badOn (some (q0, q1)) ((y : Int), x1) = bo at HSt3 Hbo
                  have hwr : IntKind.i64.wrap ((i : Int) + 1 - 1) = (i : Int) := by rw [IntKind.wrap_i64]; omega
                  have hwr0 : IntKind.i64.wrap (i : Int) = (i : Int) := by rw [IntKind.wrap_i64]; omega
                  have hin : i < n4 := by omega
                  have hin2 : (i : Int) < n4 := by omega
                  have hin3 : (0 : Int) < (i : Int) + 1 := by omega
                  by_cases hq0 : q0 < (y : Int)
                  · have hq0' : decide (q0 < (y : Int)) = true := decide_eq_true hq0
                    have HE : Hid (ckOn ps none v.on = ckOn ps (prevOf v.on (i + 1 + 1)) (v.on.drop (i + 1 + 1))) := Lib.hid (by rw [HSt3.out, Hbo.out, hq0']; rfl)
                    go_wp2
                    go_quiet (fail)
                    go_wp2
                    go_quiet (fail)
                    go_wp2
                    go_roundg (gk - 1)
                    case measure => have := Hj.out; omega
                    case rel => exact ⟨(i + 1 + 1), Lib.hid (by have := Hj.out; omega), by go_num, HE, Lib.hid (by first | exact X3.out.drewN _ | exact (X3.out.drewN _).drewN _)⟩
                  have hq0' : decide (q0 < (y : Int)) = false := decide_eq_false hq0
                  by_cases hqe : q0 = (y : Int)
                  · have hqe' : (q0 == (y : Int)) = true := by simpa using hqe
                    by_cases hq1 : q1 < x1
                    · have hq1' : decide (q1 < x1) = true := decide_eq_true hq1
                      have HE : Hid (ckOn ps none v.on = ckOn ps (prevOf v.on (i + 1 + 1)) (v.on.drop (i + 1 + 1))) := Lib.hid (by rw [HSt3.out, Hbo.out, hq0', decide_eq_true hqe, hq1']; rfl)
                      have Hqe := Lib.hid hqe; clear hqe
                      go_wp2
                      go_quiet (fail)
                      go_wp2
                      go_quiet (fail)
                      go_wp2
                      go_roundg (gk - 1)
                      case measure => have := Hj.out; omega
                      case rel => exact ⟨(i + 1 + 1), Lib.hid (by have := Hj.out; omega), by go_num, HE, Lib.hid (by first | exact X3.out.drewN _ | exact (X3.out.drewN _).drewN _)⟩
                    · have hq1' : decide (q1 < x1) = false := decide_eq_false hq1
                      have HE : Hid (ckOn ps none v.on = 6) := Lib.hid (by rw [HSt3.out, Hbo.out, hq0', hq1']; simp)
                      have Hqe := Lib.hid hqe; clear hqe
                      go_wp2
                      go_quiet (fail)
                      go_wp2
                      go_quiet (fail)
                      go_wp2
                      go_ret
                      exact ⟨ret_int (by rw [HR3.out, HE.out]), by first | exact below_drewN X3.out.bel _ | exact below_drewN (below_drewN X3.out.bel _) _⟩
                  · have hqe' : (q0 == (y : Int)) = false := by simpa using hqe
                    have HE : Hid (ckOn ps none v.on = 6) := Lib.hid (by rw [HSt3.out, Hbo.out, hq0', decide_eq_false hqe]; rfl)
                    go_wp2
                    go_quiet (fail)
                    go_wp2
                    go_quiet (fail)
                    go_wp2
                    go_ret
                    exact ⟨ret_int (by rw [HR3.out, HE.out]), by first | exact below_drewN X3.out.bel _ | exact below_drewN (below_drewN X3.out.bel _) _⟩
              · obtain rfl : n4 = j := by have := Hj.out; omega
                go_wp2
                go_ret
                exact ⟨ret_int (by rw [HRC.out, Hcl.out, List.drop_of_length_le (by have := Hon.out; omega)]; rfl), XT.out.bel⟩
  · have z1 : (z != 0) = true := by simpa using z0
    go_enter Tryz.func10, Tryz.ntmps10
    go_wp2_with (first | (go_at_call 14; refine Hcs.out.mono ?_; rintro e w2 ⟨rfl, hb2⟩; refine Hid.out ?_))
    refine Lib.hid ?_
    have X2 := Lib.hid (X0.out.move hb2)
    clear hb2 X0 Hcs
    go_wp2
    go_ret
    exact ⟨ret_int (by rw [HR.out, if_pos z0]), X2.out.bel⟩
end Go.Proofs.YtokibfankmjphaaGreatDoor

/- slices.Contains of ints. (Of the shelf: Tryz.slices_Contains_int Tryz.slices_Contains_int_empty) -/
namespace Go.Proofs.YtokibfankmjphaaGreatDoor
open Go.RowKit

theorem ints_cell {w : World} {S : Nat → Prop} {b o n : Nat} {xs : List Int} (h : RInts w S (some ⟨b, o, none⟩) n xs) : ∀ j, j < xs.length → w.cell? ⟨b, o + j, none⟩ = some (.int .i64 (xs.getD j 0)) := by
  intro j hj
  obtain ⟨b', o', e, _, hc⟩ := h.at_ (k := j) (by have := h.len; omega)
  injection e with e; injection e with e1 e2
  subst e1 e2
  exact hc
theorem containsI_any (A : Option Addr) (n c : Nat) (xs : List Int) (x : Int) (w : World) (S : Nat → Prop) (h : RInts w S A n xs) (hn : n ≤ maxLen) :
    Calls Tryz.prog 28 #[.slice A n c, .int .i64 x] w fun e w' => e = .returned (.bool (xs.contains x)) ∧ w' = w := by
  have hl := h.len
  unfold maxLen at hn
  by_cases h0 : n = 0
  · subst h0
    obtain rfl := List.eq_nil_of_length_eq_zero hl
    exact (Tryz.slices_Contains_int_empty A c x w).mono fun e w' ⟨he, hw⟩ => ⟨by simpa using he, hw⟩
  · obtain ⟨b, o, rfl, _⟩ := Row.some_lit h (by omega)
    refine (Tryz.slices_Contains_int b o n c xs x w (by omega) (by omega) (ints_cell h)).mono fun e w' ⟨he, hw⟩ => ⟨?_, hw⟩
    rw [he, List.take_of_length_le (by omega)]

end Go.Proofs.YtokibfankmjphaaGreatDoor

/- valid.valid, walked. -/
namespace Go.Proofs.YtokibfankmjphaaGreatDoor
open Go.RowKit Qm

theorem all_take_succ {α : Type} {f : α → Bool} {l : List α} {j : Nat} {x : α} (h : l[j]? = some x) : (l.take (j + 1)).all f = ((l.take j).all f && f x) := by
  obtain ⟨hj, rfl⟩ := List.getElem?_eq_some_iff.1 h
  rw [List.take_succ_eq_append_getElem hj, List.all_append]; simp
theorem all_take_false {α : Type} {f : α → Bool} {l : List α} {j : Nat} {x : α} (h : l[j]? = some x) (hf : f x = false) : l.all f = false := by
  rw [Bool.eq_false_iff]
  intro ha
  have := List.all_eq_true.1 ha x (List.mem_of_getElem? h)
  rw [hf] at this; cases this
theorem allOk_false {ps : List Pk} {ms : List Int} {l : List Mem} {i : Nat} (hi : i < l.length) (h : oneOk ps ms l i = false) : allOk ps ms l l.length = false := by
  rw [Bool.eq_false_iff]
  intro ha
  have := allOk_at ha i hi
  rw [h] at this; cases this
theorem loneB_step {ps : List Pk} {p : Pk} {l : List Mem} {j : Nat} {o : Mem} (h : l[j]? = some o) : loneB ps p (l.drop j) = if (pkOf ps o.pl).nm = p.nm ∧ (pkOf ps o.pl).slot = p.slot then false else loneB ps p (l.drop (j + 1)) := by
  obtain ⟨hj, rfl⟩ := List.getElem?_eq_some_iff.1 h
  rw [List.drop_eq_getElem_cons hj]; rfl
set_option maxRecDepth 100000 in
set_option maxHeartbeats 6400000 in
theorem validR_any (ps : List Pk) (v : Ws) (l : List Mem) (S : Nat → Prop) (A B : Option Addr) (n c q d : Nat) (A1 A2 A3 A4 : Option Addr) (n1 c1 n2 c2 n3 c3 n4 c4 : Nat) (w : World) (C : Cx ps l S A n c B q d w) (hck : ckSet ps l = 0) (hV : WsAt w S A1 n1 c1 A2 n2 c2 A3 n3 c3 A4 n4 c4 v) :
    Calls Tryz.prog 15 #[.agg #[.slice A n c], .agg #[.slice A1 n1 c1, .slice A2 n2 c2, .slice A3 n3 c3, .slice A4 n4 c4], .slice B q d] w fun e w' => e = .returned (.bool (validP ps v.ts v.ms l)) ∧ Below w.heap.size w w' := by
  have X0 := Lib.hid (Wb.new w A n c [.slice A1 n1 c1, .slice A2 n2 c2, .slice A3 n3 c3, .slice A4 n4 c4])
  have HC := Lib.hid C; have HV := Lib.hid hV; have HCK := Lib.hid hck; clear hV hck
  have Hpl := Lib.hid C.t.len
  have Hll := Lib.hid C.s.len
  have Hts := Lib.hid HV.out.ts.len
  have H1 := HV.out.h1; have H3 := HV.out.h3
  have hqd := C.qd; have hdm := C.dm; have hn8 := C.n8; have hcm := C.cm
  unfold maxLen at H1 H3 hdm hcm
  clear C
  have HR : Hid (validP ps v.ts v.ms l = (v.ts.all (fun a => l.any (fun m => isA ps m a)) && allOk ps v.ms l l.length)) := Lib.hid rfl
  generalize validP ps v.ts v.ms l = R at HR ⊢
  go_enter Tryz.func15, Tryz.ntmps15
  go_wp2
  go_loopg [18] n1 (fun g iv wr => ∃ j : Nat, Hid (j + g = n1) ∧ iv = .int .i64 j ∧ Hid ((v.ts.take j).all (fun a => l.any (fun m => isA ps m a)) = true) ∧ Hid (Wb w A n c [.slice A1 n1 c1, .slice A2 n2 c2, .slice A3 n3 c3, .slice A4 n4 c4] wr))
  case atStart => exact ⟨0, Lib.hid (Nat.zero_add _), rfl, Lib.hid rfl, X0⟩
  case round =>
    obtain ⟨j, Hj, rfl, Hcl, XR⟩ := hrel
    clear X0
    by_cases hj : j < n1
    · obtain ⟨b, o, x, a, rfl, hbS, ha, hxa, _, hcell⟩ := (HV.out.ts.keep (w' := wr) (fun p hp => XR.out.bel.cell (HC.out.lt _ hp)) fun _ _ h => h).at_ hj (by decide)
      obtain ⟨rfl, ha1, ha2⟩ := hxa
      have g0 := hcell 0 (by omega); have g1 := hcell 1 (by omega); have g2 := hcell 2 (by omega); have g3 := hcell 3 (by omega); have g4 := hcell 4 (by omega); have g5 := hcell 5 (by omega)
      unfold atRow at g0 g1 g2 g3 g4 g5
      simp only [List.getElem?_cons_zero, List.getElem?_cons_succ, Nat.add_zero] at g0 g1 g2 g3 g4 g5
      have X3 := Lib.hid (XR.out.alloc (.cells (atRow a).toArray 43))
      have W3 := Lib.hid (Whole.new wr wr.heap.size 43 (atRow a) rfl)
      have hcf := containsF_M (RMem w S) (fun m => isA ps m a) B q d l 31 #[.pointer (some ⟨w.heap.size, 0, none⟩), .pointer (some ⟨wr.heap.size, 0, none⟩)] _ S (RSeq.keep HC.out.s (fun p hp => X3.out.bel.cell (HC.out.lt _ hp)) fun _ _ h => h) (fun x hx => Nat.lt_of_lt_of_le (HC.out.lt x hx) X3.out.bel.size) (by unfold maxLen; omega)
        ⟨fun args W => by kernel_rfl, fun m hm cx W hb hr => target_any HC.out a ha1 ha2 w.heap.size wr.heap.size hm cx hr W (X3.out.bel.trans (hb.mono X3.out.bel.size)) ((X3.out.t.below hb X3.out.t.lt).cell 0) (fun i _ => (W3.out.below hb W3.out.lt).cell i)⟩ (fun x y h => shape_mem h)
      have Hst := Lib.hid (all_take_succ (f := fun a => l.any (fun m => isA ps m a)) ha)
      have Hfa := Lib.hid (all_take_false (f := fun a => l.any (fun m => isA ps m a)) ha)
      generalize hq2 : l.any (fun m => isA ps m a) = r at hcf Hst Hfa
      have Hcf := Lib.hid hcf
      have Hq2 := Lib.hid hq2
      unfold atRow at Hcf X3
      clear hcf hcell ha hq2
      go_wp2_with (first | (go_at_call 24; refine Hcf.out.mono ?_; rintro e w4 ⟨rfl, hb4⟩; refine Hid.out ?_))
      refine Lib.hid ?_
      have X4 := Lib.hid (X3.out.move hb4)
      clear hb4 g0 g1 g2 g3 g4 g5 X3 W3
      cases r
      · have HE : Hid (R = false) := Lib.hid (by rw [HR.out, Hfa.out rfl]; rfl)
        go_wp2
        go_ret
        exact ⟨ret_bool HE.out.symm, X4.out.bel⟩
      · have HE : Hid ((v.ts.take (j + 1)).all (fun a => l.any (fun m => isA ps m a)) = true) := Lib.hid (by rw [Hst.out, Hcl.out]; rfl)
        go_wp2
        go_roundg (gk - 1)
        case measure => have := Hj.out; omega
        case rel => exact ⟨j + 1, Lib.hid (by have := Hj.out; omega), by go_num, HE, X4⟩
    · obtain rfl : n1 = j := by have := Hj.out; omega
      have HRA : Hid (R = allOk ps v.ms l l.length) := Lib.hid (by
        have h := Hcl.out
        rw [List.take_of_length_le (by have := Hts.out; omega)] at h
        rw [HR.out, h]; rfl)
      clear HR Hcl
      go_wp2
      obtain ⟨wq, hwq⟩ : ∃ x, x = wr := ⟨_, rfl⟩
      rw [← hwq] at XR ⊢
      clear hwq
      go_loopg [29] q (fun g iv wr => ∃ i : Nat, Hid (i + g = q) ∧ iv = .int .i64 i ∧ Hid (allOk ps v.ms l i = true) ∧ Hid (Wb w A n c [.slice A1 n1 c1, .slice A2 n2 c2, .slice A3 n3 c3, .slice A4 n4 c4] wr))
      case atStart => exact ⟨0, Lib.hid (Nat.zero_add _), rfl, Lib.hid rfl, XR⟩
      case round =>
        obtain ⟨i, Hi, rfl, Hcl, XQ⟩ := hrel
        clear XR
        by_cases hi : i < q
        · have hrel := Lib.hid (fun (wx : World) (hb : Below w.heap.size w wx) => (HC.out.s.under hb HC.out.lt).at_ hi)
          obtain ⟨b, o, m, E, u, v0, rfl, hbS, hm, huv, hv, _, g0, g1⟩ := (HC.out.s.under XQ.out.bel HC.out.lt).at_ hi
          obtain ⟨hp0, hp1, _⟩ := HC.out.ok m (List.mem_of_getElem? hm)
          have Hown := Lib.hid (own_flags HCK.out (k := i) (by have := Hll.out; omega))
          have hil : i < l.length := by have := Hll.out; omega
          have Hho := Lib.hid (fun cx wx (hb : Below w.heap.size w wx) hr => holds_any ps l S A n c (some ⟨b, o, none⟩) q d (pkOf ps (memAt l i).pl).nd i cx wx (HC.out.under hb) hi hr Hown.out)
          have Hone : Hid (oneOk ps v.ms l i = (!v.ms.contains (memAt l i).pl && (holdsN ps l i (memAt l i) (pkOf ps (memAt l i).pl).nd && loneB ps (pkOf ps (memAt l i).pl) (l.take i)))) := Lib.hid rfl
          have Hnx : Hid (allOk ps v.ms l (i + 1) = oneOk ps v.ms l i) := Lib.hid (by rw [allOk, Hcl.out]; rfl)
          have Hno := Lib.hid (fun h => allOk_false (ps := ps) (ms := v.ms) hil h)
          generalize oneOk ps v.ms l i = on1 at Hone Hnx Hno
          rw [memAt_at hm] at Hho Hone
          have hpl := Hpl.out
          have Hms := Lib.hid (fun wx (hb : Below w.heap.size w wx) => containsI_any A3 n3 c3 v.ms m.pl wx S (Row.below HV.out.ms hb HC.out.lt) (by unfold maxLen; omega))
          obtain ⟨pl, on⟩ := m
          dsimp only at g0 hp0 hp1 Hho Hone Hms
          obtain ⟨j, rfl⟩ : ∃ j : Nat, pl = j := ⟨pl.toNat, by omega⟩
          have hjn : j < n := by omega
          obtain ⟨b2, o2, p, F, fn, fc, kd, pa, f, no, E2, r, d', rfl, hbS2, hp, hP, hcell⟩ := (HC.out.t.under XQ.out.bel HC.out.lt).at_ hjn
          rw [pkOf_at hp] at Hho Hone
          have hho := fun wx (hb : Below w.heap.size w wx) => Hho.out (ndRow kd pa f no E2 r d') wx hb ((hP.nd.keep (w' := w) (fun p hp => (XQ.out.bel.cell (HC.out.lt _ hp)).symm)).under hb HC.out.lt)
          have h0 := hcell 0 (by omega); have h1 := hcell 1 (by omega); have h2 := hcell 2 (by omega); have h3 := hcell 3 (by omega); have h4 := hcell 4 (by omega); have h5 := hcell 5 (by omega); have h6 := hcell 6 (by omega); have h7 := hcell 7 (by omega); have h8 := hcell 8 (by omega); have h9 := hcell 9 (by omega); have h10 := hcell 10 (by omega); have h11 := hcell 11 (by omega); have h12 := hcell 12 (by omega); have h13 := hcell 13 (by omega)
          unfold pkRow ndRow at h0 h1 h2 h3 h4 h5 h6 h7 h8 h9 h10 h11 h12 h13
          simp only [List.getElem?_cons_zero, List.getElem?_cons_succ, Nat.add_zero] at h0 h1 h2 h3 h4 h5 h6 h7 h8 h9 h10 h11 h12 h13
          have hbl : b < wr.heap.size := Nat.lt_of_lt_of_le (HC.out.lt _ hbS) XQ.out.bel.size
          have hbl2 : b2 < wr.heap.size := Nat.lt_of_lt_of_le (HC.out.lt _ hbS2) XQ.out.bel.size
          have hbl3 : b2 < wr.heap.size + 1 := by omega
          generalize holdsN ps l i ⟨(j : Int), on⟩ p.nd = rv at Hone hho
          generalize v.ms.contains (j : Int) = mc at Hms Hone
          have hbx : Below wr.heap.size wr ((wr.alloc (.cells #[.int .i64 (j : Int), .slice E u v0] 51)).alloc (.cells (pkRow p F fn fc (ndRow kd pa f no E2 r d')).toArray 48)) := ((Below.refl _ wr).alloc (Nat.le_refl _) _).alloc (by simp) _
          have X3 := Lib.hid (XQ.out.move hbx)
          have P3 := Lib.hid (Whole.new (wr.alloc (.cells #[.int .i64 (j : Int), .slice E u v0] 51)) (wr.heap.size + 1) 48 (pkRow p F fn fc (ndRow kd pa f no E2 r d')) (by simp))
          have t0 := XQ.out.t.cell 0
          have v2 := XQ.out.v.cell 2
          simp only [List.getElem?_cons_zero, List.getElem?_cons_succ] at t0 v2
          have vlt := XQ.out.v.lt
          have tlt := XQ.out.t.lt
          have vlt1 : w.heap.size + 1 < wr.heap.size + 1 := by omega
          have tlt1 : w.heap.size < wr.heap.size + 1 := by omega
          have hjn1 : (j : Int) < n := by omega
          have hjn0 : (0 : Int) ≤ (j : Int) := by omega
          have hiq : (i : Int) ≤ d := by omega
          have hi0 : (0 : Int) ≤ (i : Int) := by omega
          have Hp : Hid (ps[j]? = some p) := Lib.hid hp
          have Hh := Lib.hid hho
          clear hho hcell hP hp hm hp0 hp1 hbx
          unfold pkRow ndRow at P3 X3
          unfold ndRow at Hh
          go_wp2_with (first | (go_at_call 28; refine (Hms.out _ X3.out.bel).mono ?_; rintro e w4 ⟨rfl, hw4⟩; have hw5 := hw4.symm; subst hw5; refine Hid.out ?_))
          refine Lib.hid ?_
          generalize World.alloc (World.alloc wr _) _ = w4 at X3 P3 ⊢
          clear t0 v2 vlt tlt vlt1 tlt1 h0 h1 h2 h3 h4 h5 h6 h7 h8 h9 h10 h11 h12 h13 hbl hbl2 hbl3 g0 g1
          cases mc
          · have t0 := X3.out.t.cell 0
            have p0 := P3.out.cell 0; have p1 := P3.out.cell 1; have p2 := P3.out.cell 2; have p3 := P3.out.cell 3; have p4 := P3.out.cell 4; have p5 := P3.out.cell 5; have p6 := P3.out.cell 6; have p7 := P3.out.cell 7; have p8 := P3.out.cell 8; have p9 := P3.out.cell 9; have p10 := P3.out.cell 10; have p11 := P3.out.cell 11; have p12 := P3.out.cell 12; have p13 := P3.out.cell 13
            simp only [List.getElem?_cons_zero, List.getElem?_cons_succ] at t0 p0 p1 p2 p3 p4 p5 p6 p7 p8 p9 p10 p11 p12 p13
            go_wp2_with (first | (go_at_call 17; refine (Hh.out _ X3.out.bel).mono ?_; rintro e w6 ⟨rfl, hb6⟩; refine Hid.out ?_))
            refine Lib.hid ?_
            have X6 := Lib.hid (X3.out.move hb6)
            have P6 := Lib.hid (P3.out.below hb6 P3.out.lt)
            clear hb6 t0 p0 p1 p2 p3 p4 p5 p6 p7 p8 p9 p10 p11 p12 p13 X3 P3
            cases rv
            · have HE : Hid (R = false) := Lib.hid (by rw [HRA.out, Hno.out (by rw [Hone.out]; rfl)])
              go_wp2
              go_ret
              exact ⟨ret_bool HE.out.symm, X6.out.bel⟩
            · have HO : Hid (on1 = loneB ps p (l.take i)) := Lib.hid (by rw [Hone.out]; simp)
              clear Hone
              go_wp2
              clear XQ
              obtain ⟨wp, rfl⟩ : ∃ x, x = wr := ⟨_, rfl⟩
              obtain ⟨gq, rfl⟩ : ∃ x, x = gk := ⟨_, rfl⟩
              go_loopg [58] i (fun g iv wr => ∃ y : Nat, Hid (y + g = i) ∧ iv = .int .i64 y ∧ Hid (loneB ps p (l.take i) = loneB ps p ((l.take i).drop y)) ∧ Hid (Wb w (some ⟨b2, o2, none⟩) n c [.slice A1 n1 c1, .slice A2 n2 c2, .slice A3 n3 c3, .slice A4 n4 c4] wr) ∧ Hid (Whole wr (wp.heap.size + 1) 48 [.string ⟨p.nm.toArray⟩, .int .i64 p.ver, .int .i64 p.slot, .slice F fn fc, .int .i64 kd, .string ⟨pa.nm.toArray⟩, .int .i64 pa.op, .int .i64 pa.ver, .int .i64 pa.slot, .string ⟨pa.fl.toArray⟩, .bool pa.on, .string ⟨f.toArray⟩, .bool no, .slice E2 r d']))
              case atStart => exact ⟨0, Lib.hid (Nat.zero_add _), rfl, Lib.hid rfl, X6, P6⟩
              case round =>
                obtain ⟨y, Hy, rfl, Hly, XL, PL⟩ := hrel
                clear X6 P6
                by_cases hy : y < i
                · obtain ⟨b', o', m2, E3, u2, v3, eA, hbS', hm2, _, _, _, k0, k1⟩ := (HC.out.s.under XL.out.bel HC.out.lt).at_ (j := y) (by omega)
                  injection eA with eA; injection eA with e1 e2; subst e1 e2
                  obtain ⟨hq0, hq1, _⟩ := HC.out.ok m2 (List.mem_of_getElem? hm2)
                  have Hst := Lib.hid (loneB_step (ps := ps) (p := p) (l := l.take i) (j := y) (by rw [List.getElem?_take_of_lt hy]; exact hm2))
                  have hpl := Hpl.out
                  obtain ⟨pl2, on2⟩ := m2
                  dsimp only at k0 hq0 hq1 Hst
                  obtain ⟨z, rfl⟩ : ∃ z : Nat, pl2 = z := ⟨pl2.toNat, by omega⟩
                  have hzn : z < n := by omega
                  obtain ⟨b4, o4, p2, F2, fn2, fc2, kd2, pa2, f2, no2, E4, r2, d2, eA, hbS4, hp2, hP2, hcell2⟩ := (HC.out.t.under XL.out.bel HC.out.lt).at_ hzn
                  injection eA with eA; injection eA with e1 e2; subst e1 e2
                  rw [pkOf_at hp2] at Hst
                  have e0 := hcell2 0 (by omega); have e1 := hcell2 1 (by omega); have e2 := hcell2 2 (by omega); have e3 := hcell2 3 (by omega); have e4 := hcell2 4 (by omega); have e5 := hcell2 5 (by omega); have e6 := hcell2 6 (by omega); have e7 := hcell2 7 (by omega); have e8 := hcell2 8 (by omega); have e9 := hcell2 9 (by omega); have e10 := hcell2 10 (by omega); have e11 := hcell2 11 (by omega); have e12 := hcell2 12 (by omega); have e13 := hcell2 13 (by omega)
                  unfold pkRow ndRow at e0 e1 e2 e3 e4 e5 e6 e7 e8 e9 e10 e11 e12 e13
                  simp only [List.getElem?_cons_zero, List.getElem?_cons_succ, Nat.add_zero] at e0 e1 e2 e3 e4 e5 e6 e7 e8 e9 e10 e11 e12 e13
                  have hbl : b < wr.heap.size := Nat.lt_of_lt_of_le (HC.out.lt _ hbS') XL.out.bel.size
                  have hbl2 : b2 < wr.heap.size := Nat.lt_of_lt_of_le (HC.out.lt _ hbS4) XL.out.bel.size
                  have hbl3 : b2 < wr.heap.size + 1 := by omega
                  have hbx : Below wr.heap.size wr ((wr.alloc (.cells #[.int .i64 (z : Int), .slice E3 u2 v3] 51)).alloc (.cells #[.string ⟨p2.nm.toArray⟩, .int .i64 p2.ver, .int .i64 p2.slot, .slice F2 fn2 fc2, .int .i64 kd2, .string ⟨pa2.nm.toArray⟩, .int .i64 pa2.op, .int .i64 pa2.ver, .int .i64 pa2.slot, .string ⟨pa2.fl.toArray⟩, .bool pa2.on, .string ⟨f2.toArray⟩, .bool no2, .slice E4 r2 d2] 48)) := ((Below.refl _ wr).alloc (Nat.le_refl _) _).alloc (by simp) _
                  have X7 := Lib.hid (XL.out.move hbx)
                  have P7 := Lib.hid (PL.out.below hbx PL.out.lt)
                  have t0 := XL.out.t.cell 0
                  have p0 := PL.out.cell 0
                  have p2' := PL.out.cell 2
                  simp only [List.getElem?_cons_zero, List.getElem?_cons_succ] at t0 p0 p2'
                  have tlt := XL.out.t.lt
                  have tlt1 : w.heap.size < wr.heap.size + 1 := by omega
                  have plt := PL.out.lt
                  have plt1 : wp.heap.size + 1 < wr.heap.size + 1 := by omega
                  have hz1 : (z : Int) < n := by omega
                  have hz0 : (0 : Int) ≤ (z : Int) := by omega
                  have hyi : (y : Int) < i := by omega
                  clear hcell2 hP2 hp2 hm2 hq0 hq1 hbx
                  by_cases hnm : p2.nm = p.nm
                  · have hnm' : (p2.nm == p.nm) = true := by simpa using hnm
                    by_cases hsl : p2.slot = p.slot
                    · have hsl' : (p2.slot == p.slot) = true := by simpa using hsl
                      have HE : Hid (R = false) := Lib.hid (by rw [HRA.out, Hno.out (by rw [HO.out, Hly.out, Hst.out, if_pos ⟨hnm, hsl⟩])])
                      clear hnm hsl
                      go_wp2
                      go_ret
                      exact ⟨ret_bool HE.out.symm, X7.out.bel⟩
                    · have hsl' : (p2.slot == p.slot) = false := by simpa using hsl
                      have HE : Hid (loneB ps p (l.take i) = loneB ps p ((l.take i).drop (y + 1))) := Lib.hid (by rw [Hly.out, Hst.out, if_neg (fun h => hsl h.2)])
                      clear hnm hsl
                      go_wp2
                      go_roundg (gk - 1)
                      case measure => have := Hy.out; omega
                      case rel => exact ⟨y + 1, Lib.hid (by have := Hy.out; omega), by go_num, HE, X7, P7⟩
                  · have hnm' : (p2.nm == p.nm) = false := by simpa using hnm
                    have HE : Hid (loneB ps p (l.take i) = loneB ps p ((l.take i).drop (y + 1))) := Lib.hid (by rw [Hly.out, Hst.out, if_neg (fun h => hnm h.1)])
                    clear hnm
                    go_wp2
                    go_roundg (gk - 1)
                    case measure => have := Hy.out; omega
                    case rel => exact ⟨y + 1, Lib.hid (by have := Hy.out; omega), by go_num, HE, X7, P7⟩
                · obtain rfl : i = y := by have := Hy.out; omega
                  have HE : Hid (allOk ps v.ms l (i + 1) = true) := Lib.hid (by
                    rw [Hnx.out, HO.out, Hly.out, List.drop_of_length_le (by rw [List.length_take]; omega)]; rfl)
                  go_wp2
                  go_roundg (gq - 1)
                  case measure => have := Hi.out; omega
                  case rel => exact ⟨i + 1, Lib.hid (by have := Hi.out; omega), by go_num, HE, XL⟩
          · have HE : Hid (R = false) := Lib.hid (by rw [HRA.out, Hno.out (by rw [Hone.out]; rfl)])
            go_wp2
            go_ret
            exact ⟨ret_bool HE.out.symm, X3.out.bel⟩
        · obtain rfl : q = i := by have := Hi.out; omega
          go_wp2
          go_ret
          exact ⟨ret_bool (by rw [HRA.out, Hll.out, Hcl.out]), XQ.out.bel⟩
end Go.Proofs.YtokibfankmjphaaGreatDoor

/- valid.Valid, walked. -/
namespace Go.Proofs.YtokibfankmjphaaGreatDoor
open Go.RowKit Qm

def validE (ps : List Pk) (v : Ws) (l : List Mem) : Int := if ckWish ps v ≠ 0 then ckWish ps v else ckSet ps l
def validV (ps : List Pk) (v : Ws) (l : List Mem) : Bool := decide (validE ps v l = 0) && validP ps v.ts v.ms l
set_option maxRecDepth 100000 in
set_option maxHeartbeats 3200000 in
theorem valid_any (ps : List Pk) (v : Ws) (l : List Mem) (S : Nat → Prop) (A B : Option Addr) (n c q d : Nat) (A1 A2 A3 A4 : Option Addr) (n1 c1 n2 c2 n3 c3 n4 c4 : Nat) (w : World) (hT : RTree w S A n ps) (hnc : n ≤ c) (hc : c ≤ maxLen) (hV : WsAt w S A1 n1 c1 A2 n2 c2 A3 n3 c3 A4 n4 c4 v) (hL : RSet w S B q l) (hqd : q ≤ d) (hd : d ≤ maxLen) (hS : ∀ k, S k → k < w.heap.size) :
    Calls Tryz.prog 5 #[.agg #[.slice A n c], .agg #[.slice A1 n1 c1, .slice A2 n2 c2, .slice A3 n3 c3, .slice A4 n4 c4], .slice B q d] w fun e w' => e = .returned (.tuple #[.bool (validV ps v l), .int .i64 (validE ps v l)]) ∧ Below w.heap.size w w' := by
  have X0 := Lib.hid (Wb.new w A n c [.slice A1 n1 c1, .slice A2 n2 c2, .slice A3 n3 c3, .slice A4 n4 c4])
  have HT := Lib.hid hT; have HS := Lib.hid hS; have HL := Lib.hid hL; have HV := Lib.hid hV; clear hT hS hL hV
  have Hlt := Lib.hid (fun (wx : World) (hb : Below w.heap.size w wx) k hk => Nat.lt_of_lt_of_le (HS.out k hk) hb.size)
  have Hcw := Lib.hid (cwish_any ps v S A n c A1 A2 A3 A4 n1 c1 n2 c2 n3 c3 n4 c4 _ (HT.out.under X0.out.bel HS.out) hnc hc (HV.out.under X0.out.bel HS.out) (Hlt.out _ X0.out.bel))
  have Hcs := Lib.hid (fun wx (hb : Below w.heap.size w wx) => cset_any ps l S A B n c q d wx (HT.out.under hb HS.out) hnc hc (HL.out.under hb HS.out) (Nat.le_trans hqd hd) (Hlt.out _ hb))
  have HE : Hid (validE ps v l = if ckWish ps v ≠ 0 then ckWish ps v else ckSet ps l) := Lib.hid rfl
  have HVV : Hid (validV ps v l = (decide (validE ps v l = 0) && validP ps v.ts v.ms l)) := Lib.hid rfl
  generalize validE ps v l = e at HE HVV ⊢
  generalize validV ps v l = r at HVV ⊢
  generalize ckWish ps v = z at Hcw HE
  generalize hy : ckSet ps l = y at Hcs HE
  have HY := Lib.hid hy; clear hy
  by_cases z0 : z = 0
  · subst z0
    obtain rfl : e = y := by rw [HE.out, if_neg (by simp)]
    by_cases y0 : e = 0
    · subst y0
      have Hva := Lib.hid (fun wx (hb : Below w.heap.size w wx) => validR_any ps v l S A B n c q d A1 A2 A3 A4 n1 c1 n2 c2 n3 c3 n4 c4 wx (Cx.of HY.out (HT.out.under hb HS.out) hnc hc (HL.out.under hb HS.out) hqd hd (Hlt.out _ hb)) HY.out (HV.out.under hb HS.out))
      obtain rfl : r = validP ps v.ts v.ms l := by rw [HVV.out]; simp
      clear HVV HE
      generalize validP ps v.ts v.ms l = r at Hva ⊢
      go_enter Tryz.func5, Tryz.ntmps5
      go_wp2_with (first | (go_at_call 10; refine Hcw.out.mono ?_; rintro e w2 ⟨rfl, hb2⟩; refine Hid.out ?_))
      refine Lib.hid ?_
      have X2 := Lib.hid (X0.out.move hb2)
      clear hb2 X0 Hcw
      have t0 := X2.out.t.cell 0
      simp only [List.getElem?_cons_zero, List.getElem?_cons_succ] at t0
      go_wp2_with (first | (go_at_call 14; refine (Hcs.out _ X2.out.bel).mono ?_; rintro e w3 ⟨rfl, hb3⟩; refine Hid.out ?_))
      refine Lib.hid ?_
      have X3 := Lib.hid (X2.out.move hb3)
      clear hb3 X2 t0
      have t0 := X3.out.t.cell 0
      have v0 := X3.out.v.cell 0; have v1 := X3.out.v.cell 1; have v2 := X3.out.v.cell 2; have v3 := X3.out.v.cell 3
      simp only [List.getElem?_cons_zero, List.getElem?_cons_succ] at t0 v0 v1 v2 v3
      go_wp2_with (first | (go_at_call 15; refine (Hva.out _ X3.out.bel).mono ?_; rintro e w4 ⟨rfl, hb4⟩; refine Hid.out ?_))
      refine Lib.hid ?_
      have X4 := Lib.hid (X3.out.move hb4)
      clear hb4
      go_wp2
      go_ret2
      exact ⟨rfl, X4.out.bel⟩
    · have y1 : (e != 0) = true := by simpa using y0
      obtain rfl : r = false := by rw [HVV.out, decide_eq_false y0]; rfl
      clear HVV HE
      go_enter Tryz.func5, Tryz.ntmps5
      go_wp2_with (first | (go_at_call 10; refine Hcw.out.mono ?_; rintro e w2 ⟨rfl, hb2⟩; refine Hid.out ?_))
      refine Lib.hid ?_
      have X2 := Lib.hid (X0.out.move hb2)
      clear hb2 X0 Hcw
      have t0 := X2.out.t.cell 0
      simp only [List.getElem?_cons_zero, List.getElem?_cons_succ] at t0
      go_wp2_with (first | (go_at_call 14; refine (Hcs.out _ X2.out.bel).mono ?_; rintro e w3 ⟨rfl, hb3⟩; refine Hid.out ?_))
      refine Lib.hid ?_
      have X3 := Lib.hid (X2.out.move hb3)
      clear hb3 X2 t0
      go_wp2
      go_ret2
      exact ⟨rfl, X3.out.bel⟩
  · have z1 : (z != 0) = true := by simpa using z0
    obtain rfl : e = z := by rw [HE.out, if_pos z0]
    obtain rfl : r = false := by rw [HVV.out, decide_eq_false z0]; rfl
    clear HVV HE
    go_enter Tryz.func5, Tryz.ntmps5
    go_wp2_with (first | (go_at_call 10; refine Hcw.out.mono ?_; rintro e w2 ⟨rfl, hb2⟩; refine Hid.out ?_))
    refine Lib.hid ?_
    have X2 := Lib.hid (X0.out.move hb2)
    clear hb2 X0 Hcw
    go_wp2
    go_ret2
    exact ⟨rfl, X2.out.bel⟩
end Go.Proofs.YtokibfankmjphaaGreatDoor
