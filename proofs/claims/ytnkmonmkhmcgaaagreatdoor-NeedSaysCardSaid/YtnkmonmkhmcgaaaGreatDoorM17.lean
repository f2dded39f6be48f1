/- Parts of the proof: walks and plain laws, side by side. -/
import Derived.Test.YtnkmonmkhmcgaaaGreatDoorM15
import Derived.Test.YtnkmonmkhmcgaaaGreatDoorM16
import Derived.Test.YtnkmonmkhmcgaaaGreatDoorM1
import Derived.StringKeys
import Derived.Maps.RangeWalk
import Derived.Maps.OwnSet
import Derived.Test.YtnkmonmkhmcgaaaGreatDoorM10
import Derived.Test.YtnkmonmkhmcgaaaGreatDoorM9
import Derived.Test.YtnkmonmkhmcgaaaGreatDoorM3
import Derived.Test.YtnkmonmkhmcgaaaGreatDoorM2
import Derived.Test.YtnkmonmkhmcgaaaGreatDoorM4
import Derived.Laws.EntriesVeiled
import Derived.Test.YtnkmonmkhmcgaaaGreatDoorM5
import Derived.Test.YtnkmonmkhmcgaaaGreatDoorM6
import Derived.Test.YtnkmonmkhmcgaaaGreatDoorM7
import Derived.Test.YtnkmonmkhmcgaaaGreatDoorM8
import Derived.Test.YtnkmonmkhmcgaaaGreatDoorM11
import Derived.Test.YtnkmonmkhmcgaaaGreatDoorM12
import Derived.Test.YtnkmonmkhmcgaaaGreatDoorM13
import Derived.Test.YtnkmonmkhmcgaaaGreatDoorM14
set_option linter.unusedVariables false
set_option linter.unusedSimpArgs false
set_option linter.unusedSectionVars false
/- quartermasterref.ReadNeed, walked. -/
namespace Go.Proofs.YtnkmonmkhmcgaaaGreatDoor
open Go.RowKit Qm

set_option maxRecDepth 100000 in
set_option maxHeartbeats 12800000 in
theorem rreadNeed_any (s : ByteArray) (w : World) (hs0 : s.size ≤ 20000) (hL : LaidV w) (hM : MaxW w) (hM2 : MaxV w) :
    Calls Tryz.prog 16 #[.string s] w (NParsePost w s.data.toList) := by
  have HSZ := Lib.hid (Lib.size_eq s)
  have HLV := Lib.hid hL; clear hL
  have HMV := Lib.hid hM2; clear hM2
  have HMW := Lib.hid hM; clear hM
  have HT : Hid (stkTold (STK [] (splitB 32 s.data.toList)) = parseNd s.data.toList) := Lib.hid (stk_told _ (by rw [← HSZ.out]; exact hs0))
  have hsp := fun wx hM => split_any s 32 wx (by omega) hM
  obtain ⟨hw1, hw2⟩ := splitB_le (c := 32) (l := s.data.toList)
  rw [← HSZ.out] at hw1 hw2
  unfold NParsePost
  generalize parseNd s.data.toList = R at HT ⊢
  change Calls _ _ _ _ (fun e w' => RNPost w R e w')
  generalize splitB 32 s.data.toList = ws at hsp hw1 hw2 HT
  have Hsp := Lib.hid hsp
  have Hw1 := Lib.hid hw1
  clear hsp hw1
  have HST := Lib.hid (ra_start w ws (by unfold maxLen; omega))
  generalize hQ : STK [] ws = Q at HST HT
  obtain ⟨n, hn⟩ : ∃ n, ws.length = n := ⟨_, rfl⟩
  rw [hn] at hw2 Hsp
  have HN := Lib.hid hn
  clear hn hQ
  obtain ⟨i0, hi, hz0, hz1, hz2⟩ : ∃ i0, Tryz.prog.info? 26 = some i0 ∧ i0.zero = some (.agg #[.int .i64 0, .string ⟨#[]⟩, .int .i64 0, .int .i64 0, .int .i64 0, .string ⟨#[]⟩, .bool false, .string ⟨#[]⟩, .bool false, .slice none 0 0]) ∧ i0.size = 10 ∧ i0.bytes = 120 := by
    have h := need_info2
    cases hh : Tryz.prog.info? 26 with
    | none => rw [hh] at h; simp at h
    | some i => rw [hh] at h; simp at h; exact ⟨i, rfl, h.1, h.2.1, h.2.2⟩
  have Hi := Lib.hid hi; have Hz0 := Lib.hid hz0; have Hz1 := Lib.hid hz1; have Hz2 := Lib.hid hz2
  clear hi hz0 hz1 hz2
  go_enter Tryz.func16, Tryz.ntmps16
  go_wp2_with (first | (go_at_call 20; refine (Hsp.out _ (HMW.out.below (bel3 w _ _ _))).mono ?_; rintro e w1 ⟨rfl, rfl⟩; refine Hid.out ?_))
  refine Lib.hid ?_
  go_wp2_with fail
  generalize (((w.alloc _).alloc _).alloc _).alloc _ = w1 at HST ⊢
  go_loopg [9] n (fun g iv wr => ∃ (j : Nat), Hid (j + g = n) ∧ iv = .int .i64 j ∧ Hid (Rst w ws j Q wr))
  case atStart => exact ⟨0, Lib.hid (Nat.zero_add _), rfl, Lib.hid (.inl ⟨_, _, _, _, HST.out⟩)⟩
  case round =>
    clear HST
    obtain ⟨j, Hj, rfl, HR⟩ := hrel
    have hJ2 : rnJ s w ws Q n _ := ‹∀ (k : Nat) (a' : Act) (w' : World), _ → _›
    rcases HR.out with ⟨fs, hs, A, c, hra⟩ | ⟨p, row, y, hrb⟩
    · have HA := Lib.hid hra
      clear hra HR
      by_cases hj : j < n
      · obtain ⟨a, ha⟩ : ∃ a, ws[j]? = some a := ⟨_, List.getElem?_eq_getElem (by have := HN.out; omega)⟩
        have hone : ∀ b, ws[j]? = some b → b = a := fun b hb => by rw [ha] at hb; injection hb with hb; exact hb.symm
        by_cases h41 : a = [41]
        · exact rn_shut s w hs0 HSZ HLV HMV R ws Hw1 Q HT n hw2 HN gk wr _ _ _ _ _ _ _ _ _ _ _ _ _ _ _ _ _ _ _ _ _ _ _ _ _ _ _ _ _ _ _ _ _ _ _ _ _ _ _ _ _ _ _ _ _ _ _ _ _ _ _ _ _ _ _ _ _ _ _ _ _ _ _ _ _ _ _ _ _ _ _ _ _ _ _ _ _ _ _ _ _ _ _ _ _ _ _ _ _ _ _ _ _ _ _ _ _ _ _ _ _ _ _ _ _ _ _ _ _ _ _ _ _ _ _ _ _ _ _ _ _ _ _ _ _ _ _ _ _ _ _ _ _ _ _ _ _ _ _ _ _ _ _ _ _ _ _ _ _ _ _ _ hJ2 (by assumption) j Hj fs hs A c HA hj (fun b hb => (hone b hb).trans h41)
        by_cases h4 : fs.length = 4
        · exact rn_few s w hs0 HSZ HLV HMV R ws Hw1 Q HT n hw2 HN gk wr _ _ _ _ _ _ _ _ _ _ _ _ _ _ _ _ _ _ _ _ _ _ _ _ _ _ _ _ _ _ _ _ _ _ _ _ _ _ _ _ _ _ _ _ _ _ _ _ _ _ _ _ _ _ _ _ _ _ _ _ _ _ _ _ _ _ _ _ _ _ _ _ _ _ _ _ _ _ _ _ _ _ _ _ _ _ _ _ _ _ _ _ _ _ _ _ _ _ _ _ _ _ _ _ _ _ _ _ _ _ _ _ _ _ _ _ _ _ _ _ _ _ _ _ _ _ _ _ _ _ _ _ _ _ _ _ _ _ _ _ _ _ _ _ _ _ _ _ _ _ _ _ hJ2 (by assumption) j Hj fs hs A c HA hj (fun b hb => by rw [hone b hb]; exact ⟨h41, h4⟩)
        by_cases h40 : a = [40]
        · exact rn_open s w hs0 HSZ HLV HMV R ws Hw1 Q HT n hw2 HN gk wr _ _ _ _ _ _ _ _ _ _ _ _ _ _ _ _ _ _ _ _ _ _ _ _ _ _ _ _ _ _ _ _ _ _ _ _ _ _ _ _ _ _ _ _ _ _ _ _ _ _ _ _ _ _ _ _ _ _ _ _ _ _ _ _ _ _ _ _ _ _ _ _ _ _ _ _ _ _ _ _ _ _ _ _ _ _ _ _ _ _ _ _ _ _ _ _ _ _ _ _ _ _ _ _ _ _ _ _ _ _ _ _ _ _ _ _ _ _ _ _ _ _ _ _ _ _ _ _ _ _ _ _ _ _ _ _ _ _ _ _ _ _ _ _ _ _ _ _ _ _ _ _ hJ2 (by assumption) j Hj fs hs A c HA hj (fun b hb => by rw [hone b hb]; exact ⟨h41, h4, h40⟩)
        by_cases hh : a = [124, 124] ∨ a.getLast? = some 63
        · exact rn_head s w hs0 HSZ HLV HMV R ws Hw1 Q HT n hw2 HN gk wr _ _ _ _ _ _ _ _ _ _ _ _ _ _ _ _ _ _ _ _ _ _ _ _ _ _ _ _ _ _ _ _ _ _ _ _ _ _ _ _ _ _ _ _ _ _ _ _ _ _ _ _ _ _ _ _ _ _ _ _ _ _ _ _ _ _ _ _ _ _ _ _ _ _ _ _ _ _ _ _ _ _ _ _ _ _ _ _ _ _ _ _ _ _ _ _ _ _ _ _ _ _ _ _ _ _ _ _ _ _ _ _ _ _ _ _ _ _ _ _ _ _ _ _ _ _ _ _ _ _ _ _ _ _ _ _ _ _ _ _ _ _ _ _ _ _ _ _ _ _ _ _ hJ2 (by assumption) j Hj fs hs A c HA hj (fun b hb => by rw [hone b hb]; exact ⟨h41, h4, h40, hh⟩)
        · exact rn_leaf s w hs0 HSZ HLV HMV R ws Hw1 Q HT n hw2 HN gk wr _ _ _ _ _ _ _ _ _ _ _ _ _ _ _ _ _ _ _ _ _ _ _ _ _ _ _ _ _ _ _ _ _ _ _ _ _ _ _ _ _ _ _ _ _ _ _ _ _ _ _ _ _ _ _ _ _ _ _ _ _ _ _ _ _ _ _ _ _ _ _ _ _ _ _ _ _ _ _ _ _ _ _ _ _ _ _ _ _ _ _ _ _ _ _ _ _ _ _ _ _ _ _ _ _ _ _ _ _ _ _ _ _ _ _ _ _ _ _ _ _ _ _ _ _ _ _ _ _ _ _ _ _ _ _ _ _ _ _ _ _ _ _ _ _ _ _ _ _ _ _ _ hJ2 (by assumption) j Hj fs hs A c HA hj (fun b hb => by rw [hone b hb]; exact ⟨h41, h4, h40, fun e => hh (.inl e), fun e => hh (.inr e)⟩)
      · have hb0 := HA.out.bo.h.cell 0
        have hb1 := HA.out.bo.o.cell 0
        simp only [List.getElem?_cons_zero] at hb0 hb1
        have hblt := HA.out.bo.h.lt
        have HQ0 : Hid (Q = none) := Lib.hid (by rw [HA.out.q, List.drop_eq_nil_of_le (by have := HN.out; omega)]; rfl)
        go_wp2_with (first | (go_at_call 34; refine (rnbad_any _).mono ?_; rintro e wb ⟨rfl, hbb⟩; refine Hid.out ?_))
        refine Lib.hid ?_
        have HRW := Lib.hid (Rw.below (HA.out.rw_) hbb)
        clear hbb
        have z0 := HRW.out.res.cell 0; have z1 := HRW.out.res.cell 1; have z2 := HRW.out.res.cell 2; have z3 := HRW.out.res.cell 3; have z4 := HRW.out.res.cell 4; have z5 := HRW.out.res.cell 5; have z6 := HRW.out.res.cell 6; have z7 := HRW.out.res.cell 7; have z8 := HRW.out.res.cell 8; have z9 := HRW.out.res.cell 9
        have y0 := HRW.out.res.free 0; have y1 := HRW.out.res.free 1; have y2 := HRW.out.res.free 2; have y3 := HRW.out.res.free 3; have y4 := HRW.out.res.free 4; have y5 := HRW.out.res.free 5; have y6 := HRW.out.res.free 6; have y7 := HRW.out.res.free 7; have y8 := HRW.out.res.free 8; have y9 := HRW.out.res.free 9
        simp only [List.getElem?_cons_zero, List.getElem?_cons_succ] at z0 z1 z2 z3 z4 z5 z6 z7 z8 z9
        have hz9 := HRW.out.res.lt
        go_wp2_with fail
        obtain ⟨wz, hwz, hW, hF, hsz⟩ := store10 HRW.out.res rfl (.int .i64 0) (.string ⟨#[]⟩) (.int .i64 0) (.int .i64 0) (.int .i64 0) (.string ⟨#[]⟩) (.bool false) (.string ⟨#[]⟩) (.bool false) (.slice none 0 0)
        rw [hwz]
        clear hwz
        have HBEL := far_ownB HRW.out.bel hF (Nat.le_refl _)
        have e0 := hW.cell 0; have e1 := hW.cell 1; have e2 := hW.cell 2; have e3 := hW.cell 3; have e4 := hW.cell 4; have e5 := hW.cell 5; have e6 := hW.cell 6; have e7 := hW.cell 7; have e8 := hW.cell 8; have e9 := hW.cell 9
        simp only [List.getElem?_cons_zero, List.getElem?_cons_succ] at e0 e1 e2 e3 e4 e5 e6 e7 e8 e9
        refine bodyPost_ret (v := .tuple #[.agg #[_, _, _, _, _, _, _, _, _, _], .int .i64 _]) (by simp [results, Tryz.results16, go_sem, e0, e1, e2, e3, e4, e5, e6, e7, e8, e9]; exact ⟨⟨rfl, rfl, rfl, rfl, rfl, rfl, rfl, rfl, rfl, rfl⟩, rfl⟩) rfl ?_
        unfold RNPost
        exact ⟨0, At.zero, [], false, none, 0, 0, by rw [← HT.out, HQ0.out]; rfl, by rw [← HT.out, HQ0.out]; exact RNd.zero _ _, HBEL⟩
    · have HB := Lib.hid hrb
      have hb0 := HB.out.bx.cell 0
      simp only [List.getElem?_cons_zero] at hb0
      have hblt := HB.out.bx.lt
      have hwl := HB.out.wh.lt
      clear hrb HR
      by_cases hj : j < n
      · have HQ0 : Hid (Q = none) := Lib.hid (by rw [HB.out.q, if_neg]; intro h; have := List.drop_eq_nil_iff.1 h; have := HN.out; omega)
        go_wp2_with (first | (go_at_call 34; refine (rnbad_any _).mono ?_; rintro e wb ⟨rfl, hbb⟩; refine Hid.out ?_))
        refine Lib.hid ?_
        have HRW := Lib.hid (Rw.below (HB.out.rw_) hbb)
        clear hbb
        have z0 := HRW.out.res.cell 0; have z1 := HRW.out.res.cell 1; have z2 := HRW.out.res.cell 2; have z3 := HRW.out.res.cell 3; have z4 := HRW.out.res.cell 4; have z5 := HRW.out.res.cell 5; have z6 := HRW.out.res.cell 6; have z7 := HRW.out.res.cell 7; have z8 := HRW.out.res.cell 8; have z9 := HRW.out.res.cell 9
        have y0 := HRW.out.res.free 0; have y1 := HRW.out.res.free 1; have y2 := HRW.out.res.free 2; have y3 := HRW.out.res.free 3; have y4 := HRW.out.res.free 4; have y5 := HRW.out.res.free 5; have y6 := HRW.out.res.free 6; have y7 := HRW.out.res.free 7; have y8 := HRW.out.res.free 8; have y9 := HRW.out.res.free 9
        simp only [List.getElem?_cons_zero, List.getElem?_cons_succ] at z0 z1 z2 z3 z4 z5 z6 z7 z8 z9
        have hz9 := HRW.out.res.lt
        go_wp2_with fail
        obtain ⟨wz, hwz, hW, hF, hsz⟩ := store10 HRW.out.res rfl (.int .i64 0) (.string ⟨#[]⟩) (.int .i64 0) (.int .i64 0) (.int .i64 0) (.string ⟨#[]⟩) (.bool false) (.string ⟨#[]⟩) (.bool false) (.slice none 0 0)
        rw [hwz]
        clear hwz
        have HBEL := far_ownB HRW.out.bel hF (Nat.le_refl _)
        have e0 := hW.cell 0; have e1 := hW.cell 1; have e2 := hW.cell 2; have e3 := hW.cell 3; have e4 := hW.cell 4; have e5 := hW.cell 5; have e6 := hW.cell 6; have e7 := hW.cell 7; have e8 := hW.cell 8; have e9 := hW.cell 9
        simp only [List.getElem?_cons_zero, List.getElem?_cons_succ] at e0 e1 e2 e3 e4 e5 e6 e7 e8 e9
        refine bodyPost_ret (v := .tuple #[.agg #[_, _, _, _, _, _, _, _, _, _], .int .i64 _]) (by simp [results, Tryz.results16, go_sem, e0, e1, e2, e3, e4, e5, e6, e7, e8, e9]; exact ⟨⟨rfl, rfl, rfl, rfl, rfl, rfl, rfl, rfl, rfl, rfl⟩, rfl⟩) rfl ?_
        unfold RNPost
        exact ⟨0, At.zero, [], false, none, 0, 0, by rw [← HT.out, HQ0.out]; rfl, by rw [← HT.out, HQ0.out]; exact RNd.zero _ _, HBEL⟩
      · skip
        have HQ1 : Hid (Q = some y) := Lib.hid (by rw [HB.out.q, if_pos (List.drop_eq_nil_of_le (by have := HN.out; omega))])
        have hck := fun wx h1 h2 => rcheckNeed_any y (fun i => w.heap.size + 1 + 1 + 1 + 1 ≤ i ∧ i < wr.heap.size) row wx h1 h2
        obtain ⟨e, he⟩ : ∃ e, ckNeed y = e := ⟨_, rfl⟩
        rw [he] at hck
        have HR : Hid (R = if e = 0 then (y, 0) else (Nd.zero, e)) := Lib.hid (by rw [← HT.out, HQ1.out]; show finNd y = _; unfold finNd; rw [he])
        clear he
        have HND := Lib.hid HB.out.nd
        obtain ⟨k', ⟨xn, xo, xv, xs, xf, xb⟩, f', no', ks'⟩ := y
        obtain ⟨A', n', c', hrow, -⟩ := HB.out.nd.open_
        subst hrow
        have HWH := Lib.hid HB.out.wh
        unfold ndRow at hck HND HWH
        have Hck := Lib.hid (hck wr HND.out fun q hq => hq.2)
        clear hck
        have g0 := HWH.out.cell 0; have g1 := HWH.out.cell 1; have g2 := HWH.out.cell 2; have g3 := HWH.out.cell 3; have g4 := HWH.out.cell 4; have g5 := HWH.out.cell 5; have g6 := HWH.out.cell 6; have g7 := HWH.out.cell 7; have g8 := HWH.out.cell 8; have g9 := HWH.out.cell 9
        simp only [List.getElem?_cons_zero, List.getElem?_cons_succ] at g0 g1 g2 g3 g4 g5 g6 g7 g8 g9
        by_cases h0 : e = 0
        · subst h0
          have HR3 : Hid (R = (.mk k' ⟨xn, xo, xv, xs, xf, xb⟩ f' no' ks', 0)) := Lib.hid (by rw [HR.out, if_pos rfl])
          go_wp2_with (first | (go_at_call 10; refine Hck.out.mono ?_; rintro e w6 ⟨rfl, hb6⟩; refine Hid.out ?_))
          refine Lib.hid ?_
          have HRW := Lib.hid (HB.out.rw_.below hb6)
          have HW6 := Lib.hid (HWH.out.below hb6 HWH.out.lt)
          have HN6 := Lib.hid (HND.out.under hb6 fun q hq => hq.2)
          have hbx := HB.out.bx.below hb6 HB.out.bx.lt
          clear hb0 hblt hwl g0 g1 g2 g3 g4 g5 g6 g7 g8 g9
          have hb0 := hbx.cell 0
          have hblt := hbx.lt
          have hsz6 := hb6.size
          simp only [List.getElem?_cons_zero] at hb0
          clear hb6 hbx
          have n0 := HW6.out.cell 0; have n1 := HW6.out.cell 1; have n2 := HW6.out.cell 2; have n3 := HW6.out.cell 3; have n4 := HW6.out.cell 4; have n5 := HW6.out.cell 5; have n6 := HW6.out.cell 6; have n7 := HW6.out.cell 7; have n8 := HW6.out.cell 8; have n9 := HW6.out.cell 9
          simp only [List.getElem?_cons_zero, List.getElem?_cons_succ] at n0 n1 n2 n3 n4 n5 n6 n7 n8 n9
          have z0 := HRW.out.res.cell 0; have z1 := HRW.out.res.cell 1; have z2 := HRW.out.res.cell 2; have z3 := HRW.out.res.cell 3; have z4 := HRW.out.res.cell 4; have z5 := HRW.out.res.cell 5; have z6 := HRW.out.res.cell 6; have z7 := HRW.out.res.cell 7; have z8 := HRW.out.res.cell 8; have z9 := HRW.out.res.cell 9
          have y0 := HRW.out.res.free 0; have y1 := HRW.out.res.free 1; have y2 := HRW.out.res.free 2; have y3 := HRW.out.res.free 3; have y4 := HRW.out.res.free 4; have y5 := HRW.out.res.free 5; have y6 := HRW.out.res.free 6; have y7 := HRW.out.res.free 7; have y8 := HRW.out.res.free 8; have y9 := HRW.out.res.free 9
          simp only [List.getElem?_cons_zero, List.getElem?_cons_succ] at z0 z1 z2 z3 z4 z5 z6 z7 z8 z9
          have hlt := HRW.out.res.lt
          have hlt2 := HW6.out.lt
          go_wp2_with fail
          obtain ⟨wz, hwz, hW, hF, hsz⟩ := store10 HRW.out.res rfl (.int .i64 k') (.string ⟨xn.toArray⟩) (.int .i64 xo) (.int .i64 xv) (.int .i64 xs) (.string ⟨xf.toArray⟩) (.bool xb) (.string ⟨f'.toArray⟩) (.bool no') (.slice A' n' c')
          rw [hwz]
          clear hwz
          have HBEL := far_ownB HRW.out.bel hF (Nat.le_refl _)
          have e0 := hW.cell 0; have e1 := hW.cell 1; have e2 := hW.cell 2; have e3 := hW.cell 3; have e4 := hW.cell 4; have e5 := hW.cell 5; have e6 := hW.cell 6; have e7 := hW.cell 7; have e8 := hW.cell 8; have e9 := hW.cell 9
          simp only [List.getElem?_cons_zero, List.getElem?_cons_succ] at e0 e1 e2 e3 e4 e5 e6 e7 e8 e9
          refine bodyPost_ret (v := .tuple #[.agg #[_, _, _, _, _, _, _, _, _, _], .int .i64 _]) (by simp [results, Tryz.results16, go_sem, e0, e1, e2, e3, e4, e5, e6, e7, e8, e9]; exact ⟨⟨rfl, rfl, rfl, rfl, rfl, rfl, rfl, rfl, rfl, rfl⟩, rfl⟩) rfl ?_
          unfold RNPost
          refine ⟨k', ⟨xn, xo, xv, xs, xf, xb⟩, f', no', A', n', c', by rw [HR3.out]; rfl, ?_, HBEL⟩
          rw [HR3.out]
          exact (HN6.out.far hF fun i hi => ⟨by omega, by omega⟩).more fun i hi => ⟨by omega, by omega⟩
        · have h1 : (e != 0) = true := by simpa using h0
          have HR3 : Hid (R = (Nd.zero, e)) := Lib.hid (by rw [HR.out, if_neg h0])
          clear h0
          go_wp2_with (first | (go_at_call 10; refine Hck.out.mono ?_; rintro e w6 ⟨rfl, hb6⟩; refine Hid.out ?_))
          refine Lib.hid ?_
          have HRW := Lib.hid (HB.out.rw_.below hb6)
          clear hb6 hb0 hblt hwl g0 g1 g2 g3 g4 g5 g6 g7 g8 g9
          have z0 := HRW.out.res.cell 0; have z1 := HRW.out.res.cell 1; have z2 := HRW.out.res.cell 2; have z3 := HRW.out.res.cell 3; have z4 := HRW.out.res.cell 4; have z5 := HRW.out.res.cell 5; have z6 := HRW.out.res.cell 6; have z7 := HRW.out.res.cell 7; have z8 := HRW.out.res.cell 8; have z9 := HRW.out.res.cell 9
          have y0 := HRW.out.res.free 0; have y1 := HRW.out.res.free 1; have y2 := HRW.out.res.free 2; have y3 := HRW.out.res.free 3; have y4 := HRW.out.res.free 4; have y5 := HRW.out.res.free 5; have y6 := HRW.out.res.free 6; have y7 := HRW.out.res.free 7; have y8 := HRW.out.res.free 8; have y9 := HRW.out.res.free 9
          simp only [List.getElem?_cons_zero, List.getElem?_cons_succ] at z0 z1 z2 z3 z4 z5 z6 z7 z8 z9
          have hlt := HRW.out.res.lt
          go_wp2_with fail
          obtain ⟨wz, hwz, hW, hF, hsz⟩ := store10 HRW.out.res rfl (.int .i64 0) (.string ⟨#[]⟩) (.int .i64 0) (.int .i64 0) (.int .i64 0) (.string ⟨#[]⟩) (.bool false) (.string ⟨#[]⟩) (.bool false) (.slice none 0 0)
          rw [hwz]
          clear hwz
          have HBEL := far_ownB HRW.out.bel hF (Nat.le_refl _)
          have e0 := hW.cell 0; have e1 := hW.cell 1; have e2 := hW.cell 2; have e3 := hW.cell 3; have e4 := hW.cell 4; have e5 := hW.cell 5; have e6 := hW.cell 6; have e7 := hW.cell 7; have e8 := hW.cell 8; have e9 := hW.cell 9
          simp only [List.getElem?_cons_zero, List.getElem?_cons_succ] at e0 e1 e2 e3 e4 e5 e6 e7 e8 e9
          refine bodyPost_ret (v := .tuple #[.agg #[_, _, _, _, _, _, _, _, _, _], .int .i64 _]) (by simp [results, Tryz.results16, go_sem, e0, e1, e2, e3, e4, e5, e6, e7, e8, e9]; exact ⟨⟨rfl, rfl, rfl, rfl, rfl, rfl, rfl, rfl, rfl, rfl⟩, rfl⟩) rfl ?_
          unfold RNPost
          exact ⟨0, At.zero, [], false, none, 0, 0, by rw [HR3.out]; rfl, by rw [HR3.out]; exact RNd.zero _ _, HBEL⟩
end Go.Proofs.YtnkmonmkhmcgaaaGreatDoor

/- A map from strings to bools all of whose entries hold: a set of words. -/
namespace Go.Proofs.YtnkmonmkhmcgaaaGreatDoor
open Go.RowKit Qm

/-- block b is a map that holds just the words of K, each with true; there are m of them -/
def StrSet (P : Program) (w : World) (b : Nat) (K : Qm.W → Bool) (m : Nat) : Prop :=
  ∃ D : DataW Unit, w.ownsMap P 9 (plainElem P 4) b m D ∧ Maps.size D = m ∧ ∀ x : Qm.W, x.length ≤ maxLen → Maps.has D (.string x) = K x ∧ D.atKey (.string x) (.lit (.bool false)) = .lit (.bool (K x))

theorem skey_ {P : Program} {k : TypeId} (hk : P.underlying k = some .string) {x : Qm.W} (hx : x.length ≤ maxLen) : keyOf P k (.string ⟨x.toArray⟩) = some (.string x) := by
  rw [WideMaps.keyOf_string_mk hk (by simpa [ByteArray.size] using hx)]
section
variable {P : Program} {w w' : World} {b m : Nat} {K : Qm.W → Bool}
theorem StrSet.made (P : Program) (w : World) : StrSet P (w.alloc (.map #[] 0)) w.heap.size (fun _ => false) 0 :=
  ⟨.map [], World.ownsMap_made w P 9 _, rfl, fun x _ => ⟨rfl, rfl⟩⟩
theorem StrSet.kept {row : Option Nat} (h : StrSet P w b K m) (hg : w.grownBy w' row) (hne : some b ≠ row) : StrSet P w' b K m := by
  obtain ⟨D, h1, h2⟩ := h
  exact ⟨D, h1.kept hg hne, h2⟩
theorem StrSet.lt (h : StrSet P w b K m) : b < w.heap.size := by obtain ⟨D, h1, _⟩ := h; exact h1.lt
theorem StrSet.congr {K' : Qm.W → Bool} {m' : Nat} (h : StrSet P w b K m) (hm : m = m') (hK : ∀ x : Qm.W, x.length ≤ maxLen → K x = K' x) : StrSet P w b K' m' := by
  subst hm
  obtain ⟨D, h1, h2, h3⟩ := h
  exact ⟨D, h1, h2, fun x hx => by rw [← hK x hx]; exact h3 x hx⟩
theorem StrSet.look (h : StrSet P w b K m) (hk : P.underlying 9 = some .string) (he : P.underlying 4 = some .bool) (hz : (zeroValue 4).run P w = .ok (.bool false) w) {t : TypeId} (ht : P.underlying t = some (.map 9 4)) {x : Qm.W} (hx : x.length ≤ maxLen) :
    (Instr.lookup t (.map (some b)) (.string ⟨x.toArray⟩) false).run P w = .ok (.bool (K x)) w := by
  obtain ⟨D, h1, _, h3⟩ := h
  obtain ⟨v, ps, hrun, hv⟩ := h1.lookup (Maps.string_keyed hk) ht hz (plainElem_bool he false) (skey_ hk hx)
  rw [(h3 x hx).2] at hv
  have : v = .bool (K x) := by
    unfold plainElem at hv
    rw [he] at hv
    cases v <;> simp at hv
    rw [hv.1]
  rw [hrun, this]
theorem StrSet.len_ (h : StrSet P w b K m) {t : TypeId} (ht : P.underlying t = some (.map 9 4)) (ty : TypeId) : (Builtin.len_ #[t] ty #[.map (some b)]).run P w = .ok (.int .i64 m) w := by
  obtain ⟨D, h1, h2, _⟩ := h
  rw [h1.len ht ty, h2]
theorem StrSet.put (h : StrSet P w b K m) (hk : P.underlying 9 = some .string) (he : P.underlying 4 = some .bool) {t : TypeId} (ht : P.underlying t = some (.map 9 4)) {x : Qm.W} (hx : x.length ≤ maxLen) (hm : m < maxLen) :
    ∃ w', (Instr.mapUpdate t (.map (some b)) (.string ⟨x.toArray⟩) (.bool true)).run P w = .ok () w' ∧ StrSet P w' b (fun y => y == x || K y) (if K x then m else m + 1) ∧ w.grownBy w' (some b) ∧ w'.heap.size = w.heap.size := by
  obtain ⟨D, h1, h2, h3⟩ := h
  have Kd := Maps.string_keyed (P := P) hk
  have hkey := skey_ (P := P) hk hx
  have hkl : WideAt.IsKeyLit (.string x) := Kd.key hkey
  obtain ⟨w', hrun, h4, h5⟩ := h1.store Kd ht hm hkey (plainElem_bool he true)
  have htd := h1.tidy Kd
  have hsz : Maps.size (D.put (.string x) (.lit (.bool true))) = if K x then m else m + 1 := by
    rw [Maps.size_put htd, (h3 x hx).1, h2]
  refine ⟨w', hrun, ⟨_, ?_, hsz, fun y hy => ?_⟩, h5.grown, ?_⟩
  · have e : Maps.size (D.put (.string x) (.lit (.bool true))) ≤ if K x then m else m + 1 := by rw [hsz]; exact Nat.le_refl _
    obtain ⟨es, clock, hb, F, hs, hD⟩ := h4
    refine ⟨es, clock, hb, F, ?_, hD⟩
    rw [hD] at e
    simpa [Maps.size, length_sorted] using e
  · by_cases hyx : y = x
    · subst hyx
      rw [Maps.has_put_same htd.isMap hkl, Maps.atKey_put_same htd.isMap hkl]
      simp
    · have hne : (Lit.string y) ≠ .string x := by intro e; injection e with e; exact hyx e
      rw [Maps.has_put_other hne, Maps.atKey_put_other hne]
      have : (y == x) = false := by simpa using hyx
      show _ = (y == x || K y) ∧ _ = DataW.lit (.bool (y == x || K y))
      rw [this, Bool.false_or]
      exact h3 y hy
  · obtain ⟨es, clock, es', clock', _, rfl⟩ := h5
    simp [ChangeMaps.setBlock]
end
end Go.Proofs.YtnkmonmkhmcgaaaGreatDoor

/- A list without doubles, sorted, is any list of the same members, sorted and compacted. -/
namespace Qm
open Go
theorem wle_trans {a b c : W} (h1 : a ≤ b) (h2 : b ≤ c) : a ≤ c := List.le_trans h1 h2
theorem wlt_of {a b : W} (h1 : a ≤ b) (h2 : a ≠ b) : a < b :=
  Decidable.byContradiction fun h => h2 (List.le_antisymm h1 (List.not_lt.1 h))
theorem wlt_of_le_lt {a b c : W} (h1 : a ≤ b) (h2 : b < c) : a < c := Std.lt_of_le_of_lt h1 h2
theorem compactUpTo_strict (d : Array W) (hs : ∀ i j, i ≤ j → j < d.size → d[i]! ≤ d[j]!) : ∀ m, m ≤ d.size → (Lib.compactUpTo d m).Pairwise (· < ·) ∧ ∀ x ∈ Lib.compactUpTo d m, ∃ j, j < m ∧ x = d[j]! := by
  intro m
  induction m with
  | zero => intro _; simp [Lib.compactUpTo]
  | succ m ih =>
    intro hm
    obtain ⟨h1, h2⟩ := ih (by omega)
    rw [Lib.compactUpTo_succ]
    split
    · rename_i hk
      refine ⟨List.pairwise_append.2 ⟨h1, by simp, fun x hx y hy => ?_⟩, fun x hx => ?_⟩
      · obtain ⟨j, hj, rfl⟩ := h2 x hx
        obtain rfl : y = d[m]! := by simpa using hy
        have hne : d[m - 1]! ≠ d[m]! := by
          intro e
          unfold Lib.keeps at hk
          simp at hk
          rcases hk with hk | hk
          · omega
          · exact hk e.symm
        exact wlt_of_le_lt (hs j (m - 1) (by omega) (by omega)) (wlt_of (hs (m - 1) m (by omega) (by omega)) hne)
      · rcases List.mem_append.1 hx with hx | hx
        · obtain ⟨j, hj, e⟩ := h2 x hx; exact ⟨j, by omega, e⟩
        · exact ⟨m, by omega, by simpa using hx⟩
    · rw [List.append_nil]
      exact ⟨h1, fun x hx => by obtain ⟨j, hj, e⟩ := h2 x hx; exact ⟨j, by omega, e⟩⟩
/-- Two strictly rising lists of the same members are one. -/
theorem strict_eq : ∀ {a b : List W}, a.Pairwise (· < ·) → b.Pairwise (· < ·) → (∀ x, x ∈ a ↔ x ∈ b) → a = b
  | [], [], _, _, _ => rfl
  | [], y :: _, _, _, h => by have := (h y).2 (List.mem_cons_self ..); simp at this
  | x :: _, [], _, _, h => by have := (h x).1 (List.mem_cons_self ..); simp at this
  | x :: r, y :: t, ha, hb, h => by
    obtain ⟨a1, a2⟩ := List.pairwise_cons.1 ha
    obtain ⟨b1, b2⟩ := List.pairwise_cons.1 hb
    have e : x = y := by
      rcases List.mem_cons.1 ((h x).1 (List.mem_cons_self ..)) with e | hx
      · exact e
      rcases List.mem_cons.1 ((h y).2 (List.mem_cons_self ..)) with e | hy
      · exact e.symm
      exact absurd (List.lt_trans (a1 y hy) (b1 x hx)) (List.lt_irrefl _)
    subst e
    congr 1
    refine strict_eq a2 b2 fun z => ⟨fun hz => ?_, fun hz => ?_⟩
    · rcases List.mem_cons.1 ((h z).1 (List.mem_cons_of_mem _ hz)) with e | h1
      · subst e; exact absurd (a1 z hz) (List.lt_irrefl _)
      · exact h1
    · rcases List.mem_cons.1 ((h z).2 (List.mem_cons_of_mem _ hz)) with e | h1
      · subst e; exact absurd (b1 z hz) (List.lt_irrefl _)
      · exact h1
end Qm

/- The document's list of flags is the program's. -/
namespace Go.Proofs.YtnkmonmkhmcgaaaGreatDoor
open Go.RowKit Qm

theorem sortW_pair (l : List Qm.W) : (sortW l).Pairwise (· ≤ ·) := by
  unfold sortW
  have := List.pairwise_mergeSort (le := fun x y : Qm.W => decide (x ≤ y)) (fun a b c h1 h2 => by simp at *; exact wle_trans h1 h2) (fun a b => by simp; exact List.le_total a b) l
  exact this.imp fun h => by simpa using h
theorem sortW_mem {l : List Qm.W} {x : Qm.W} : x ∈ sortW l ↔ x ∈ l := by unfold sortW; exact List.mem_mergeSort
theorem sortW_strict {l : List Qm.W} (h : l.Nodup) : (sortW l).Pairwise (· < ·) := by
  have hn : (sortW l).Nodup := (List.mergeSort_perm l _).nodup_iff.2 h
  exact (sortW_pair l).imp₂ (fun a b h1 h2 => wlt_of h1 h2) hn
theorem flags_same {l fs : List Qm.W} (h : l.Nodup) (hm : ∀ x, x ∈ l ↔ x ∈ fs) : sortW l = Lib.compact (sortW fs) := by
  refine strict_eq (sortW_strict h) ?_ fun x => by rw [sortW_mem, mem_compact, sortW_mem, hm]
  unfold Lib.compact
  refine (compactUpTo_strict _ (fun i j hij hj => ?_) _ (by simp)).1
  have hp := sortW_pair fs
  simp only [List.size_toArray] at hj
  rcases Nat.eq_or_lt_of_le hij with e | hlt
  · subst e; exact List.le_refl _
  · rw [List.pairwise_iff_getElem] at hp
    have := hp i j (by omega) hj hlt
    simpa [List.getElem!_toArray, hj, Nat.lt_of_le_of_lt hij hj] using this
end Go.Proofs.YtnkmonmkhmcgaaaGreatDoor

/- The closure of quartermasterref.FlagsOf, walked. -/
namespace Go.Proofs.YtnkmonmkhmcgaaaGreatDoor
open Go.RowKit Qm

/-- The map's box BM, the closure's box BF, the map b: what is in it. -/
structure Fm (BM BF b : Nat) (K : Qm.W → Bool) (m : Nat) (w : World) : Prop where
  mp : Whole w BM 60 [.map (some b)]
  fn : Whole w BF 50 [.func (.func 32) #[] #[.pointer (some ⟨BM, 0, none⟩), .pointer (some ⟨BF, 0, none⟩)]]
  set : StrSet Tryz.prog w b K m
  nm : BM ≠ b
  nf : BF ≠ b
def FmPost (BM BF b : Nat) (K : Qm.W → Bool) (m : Nat) (gs : List Qm.W) (w : World) (e : Ending) (w' : World) : Prop :=
  ∃ K' m', e = .returned (.tuple #[]) ∧ Fm BM BF b K' m' w' ∧ Far (fun i => i = b) w w' ∧ (∀ x, K' x = (K x || decide (x ∈ gs))) ∧ m' ≤ m + gs.length
/-- On the way. -/
structure Fy (w : World) (BM BF b : Nat) (K : Qm.W → Bool) (m : Nat) (gs : List Qm.W) (wx : World) : Prop where
  ex : ∃ K' m', Fm BM BF b K' m' wx ∧ (∀ x, K' x = (K x || decide (x ∈ gs))) ∧ m' ≤ m + gs.length
  far : Far (fun i => i = b) w wx
section
variable {w wx wy : World} {BM BF b m : Nat} {K : Qm.W → Bool} {gs hs : List Qm.W}
theorem Fm.below (h : Fm BM BF b K m wx) (hb : Below wx.heap.size wx wy) : Fm BM BF b K m wy :=
  ⟨h.mp.below hb h.mp.lt, h.fn.below hb h.fn.lt, h.set.kept (row := none) ⟨hb.os, hb.tape, hb.output, hb.size, fun i hi _ => hb.block i hi⟩ (by simp), h.nm, h.nf⟩
theorem Fm.put {K' : Qm.W → Bool} {m' : Nat} (h : Fm BM BF b K m wx) (hs : StrSet Tryz.prog wy b K' m') (hg : wx.grownBy wy (some b)) : Fm BM BF b K' m' wy :=
  ⟨h.mp.grown hg (by simpa using h.nm), h.fn.grown hg (by simpa using h.nf), hs, h.nm, h.nf⟩
theorem Fy.below (h : Fy w BM BF b K m gs wx) (hb : Below wx.heap.size wx wy) : Fy w BM BF b K m gs wy := by
  obtain ⟨K', m', h1, h2, h3⟩ := h.ex
  exact ⟨⟨K', m', h1.below hb, h2, h3⟩, h.far.trans (Far.of_below _ hb) fun _ _ e => e⟩
theorem Fy.call {K1 : Qm.W → Bool} {m1 : Nat} (hf : Far (fun i => i = b) w wx) (h2 : ∀ x, K1 x = (K x || decide (x ∈ gs))) (h3 : m1 ≤ m + gs.length) {e : Ending} (h : FmPost BM BF b K1 m1 hs wx e wy) : Fy w BM BF b K m (gs ++ hs) wy := by
  obtain ⟨K', m', _, f, far, hk, hm⟩ := h
  refine ⟨⟨K', m', f, fun x => ?_, by simp; omega⟩, hf.trans far fun _ _ e => e⟩
  rw [hk, h2, Bool.or_assoc]; simp [List.mem_append]
end
set_option maxRecDepth 100000 in
set_option maxHeartbeats 3200000 in
theorem rflagsC_any : ∀ (y : Nd) (S : Nat → Prop) (x : List Value) (BM BF b : Nat) (K : Qm.W → Bool) (m : Nat) (w : World), RNd w S x y → (∀ k, S k → k < w.heap.size ∧ ¬ k = b) → Fm BM BF b K m w → m + (flagsN y).length ≤ 10000 →
    Calls Tryz.prog 32 #[.agg x.toArray, .pointer (some ⟨BM, 0, none⟩), .pointer (some ⟨BF, 0, none⟩)] w (FmPost BM BF b K m (flagsN y) w) := by
  refine Nd.ind fun k a f no ks ih => ?_
  intro S x BM BF b K m w hR hS hF hcnt
  have HI := Lib.hid ih; clear ih
  obtain ⟨A, n, c, rfl, hnc, hc, h1, h2, h3, hK⟩ := hR.open_
  clear hR
  have HS := Lib.hid hS; have HK := Lib.hid hK
  have hfn : flagsN (.mk k a f no ks) = (if k = 5 then [f] else []) ++ flagsL ks := rfl
  rw [hfn] at hcnt ⊢
  clear hfn hS hK
  unfold ndRow
  have hb0 : Below w.heap.size w (w.alloc (.cells #[.int .i64 k, .string ⟨a.nm.toArray⟩, .int .i64 a.op, .int .i64 a.ver, .int .i64 a.slot, .string ⟨a.fl.toArray⟩, .bool a.on, .string ⟨f.toArray⟩, .bool no, .slice A n c] 26)) := (Below.refl _ w).alloc (Nat.le_refl _) _
  have HF0 := Lib.hid (hF.below hb0)
  have HB0 := Lib.hid hb0
  have HX := Lib.hid (Whole.new w _ 26 [.int .i64 k, .string ⟨a.nm.toArray⟩, .int .i64 a.op, .int .i64 a.ver, .int .i64 a.slot, .string ⟨a.fl.toArray⟩, .bool a.on, .string ⟨f.toArray⟩, .bool no, .slice A n c] rfl)
  have hbl := hF.set.lt
  have henter : ∀ (args : Array Value) (W : World), (callFunc 32 args).run Tryz.prog W = .ok (.enter 32 args) W := fun args W => by kernel_rfl
  have t1 := hF.mp.cell 0
  have t2 := hF.mp.lt
  simp only [List.getElem?_cons_zero] at t1
  unfold maxLen at hc
  by_cases hk : k = 5
  · subst hk
    rw [if_pos rfl] at hcnt ⊢
    obtain ⟨hd, ehd⟩ : ∃ hd, [f] = hd := ⟨_, rfl⟩
    obtain ⟨w5, hrun, hset5, hg5, hz5⟩ := HF0.out.set.put (t := 60) Tryz.underlying9 Tryz.underlying4 Tryz.underlying60 (x := f) h3 (by simp at hcnt; unfold maxLen; omega)
    rw [ehd] at hcnt ⊢
    have Hcnt := Lib.hid hcnt
    have HY : Hid (Fy w BM BF b K m hd w5) := Lib.hid ⟨⟨_, _, HF0.out.put hset5 hg5, fun x => by rw [← ehd, Bool.or_comm]; congr 1; rw [Bool.eq_iff_iff]; simp, by rw [← ehd]; split <;> simp⟩, (Far.of_below _ HB0.out).trans (Far.of_grown hg5 fun i e => by injection e) fun _ _ e => e⟩
    have g9 := (HX.out.grown hg5 (by intro e; injection e with e; omega)).cell 9
    simp only [List.getElem?_cons_zero, List.getElem?_cons_succ] at g9
    have hz6 : w.heap.size < w5.heap.size := by rw [hz5]; simp
    clear hcnt hF hb0 h1 h2 h3 hset5 hg5 ehd
    go_enter Tryz.func32, Tryz.ntmps32
    go_wp2
    go_loopg [15] n (fun g iv wr => ∃ (j : Nat), Hid (j + g = n) ∧ iv = .int .i64 j ∧ Hid (Fy w BM BF b K m (hd ++ flagsL (ks.take j)) wr))
    case atStart => exact ⟨0, Lib.hid (Nat.zero_add _), rfl, Lib.hid (by simpa [flagsL] using HY.out)⟩
    case round =>
      obtain ⟨j, Hj, rfl, HYr⟩ := hrel
      have hsz := HYr.out.far.size
      by_cases hj : j < n
      · obtain ⟨K1, m1, hf1, hk1, hm1⟩ := HYr.out.ex
        have HF1 := Lib.hid hf1
        have HK1 := Lib.hid hk1
        have hKr := HK.out.keep fun p hp => HYr.out.far.cell (HS.out _ hp).1 (fun e => (HS.out _ hp).2 e)
        obtain ⟨bb, o, x, y, rfl, hb, hy, hxy, hcell⟩ := hKr.at_ hj
        have hmem := List.mem_of_getElem? hy
        have Htk : Hid (flagsL (ks.take (j + 1)) = flagsL (ks.take j) ++ flagsN y) := Lib.hid (by rw [List.take_add_one, hy]; exact flagsL_snoc _ _)
        obtain ⟨yk, ya, yf, yn, yks⟩ := y
        obtain ⟨A', n', c', rfl, -⟩ := hxy.open_
        have g0 := hcell 0 (by omega); have g1 := hcell 1 (by omega); have g2 := hcell 2 (by omega); have g3 := hcell 3 (by omega); have g4 := hcell 4 (by omega)
        have g5 := hcell 5 (by omega); have g6 := hcell 6 (by omega); have g7 := hcell 7 (by omega); have g8 := hcell 8 (by omega); have g9 := hcell 9 (by omega)
        clear hcell
        unfold ndRow at g0 g1 g2 g3 g4 g5 g6 g7 g8 g9
        simp only [List.getElem?_cons_zero, List.getElem?_cons_succ, Nat.add_zero] at g0 g1 g2 g3 g4 g5 g6 g7 g8 g9
        have hbn : Below wr.heap.size wr (wr.alloc (.cells #[.int .i64 yk, .string ⟨ya.nm.toArray⟩, .int .i64 ya.op, .int .i64 ya.ver, .int .i64 ya.slot, .string ⟨ya.fl.toArray⟩, .bool ya.on, .string ⟨yf.toArray⟩, .bool yn, .slice A' n' c'] 26)) := (Below.refl _ wr).alloc (Nat.le_refl _) _
        have hxy2 := hxy.under hbn fun q hq => Nat.lt_of_lt_of_le (HS.out q hq).1 hsz
        have hlim : m1 + (flagsN (.mk yk ya yf yn yks)).length ≤ 10000 := by have h1 := flagsL_take ks (j + 1); rw [Htk.out, List.length_append] at h1; have h2 := Hcnt.out; rw [List.length_append] at h2 hm1; omega
        have Hcall := Lib.hid (HI.out _ hmem S _ BM BF b K1 m1 _ hxy2 (fun q hq => ⟨Nat.lt_of_lt_of_le (HS.out q hq).1 (Nat.le_trans hsz hbn.size), (HS.out q hq).2⟩) (HF1.out.below hbn) hlim)
        have Hfar := Lib.hid (HYr.out.far.trans (Far.of_below (fun i => i = b) hbn) fun _ _ e => e)
        have q1 := HF1.out.fn.cell 0
        have q2 := HF1.out.fn.lt
        simp only [List.getElem?_cons_zero] at q1
        unfold ndRow at Hcall
        clear hxy hxy2 hmem hy hbn hKr hf1 hk1 hlim
        go_wp2_with (first | (go_at_call 32; refine Hcall.out.mono ?_; intro e w' hp; obtain ⟨K', m', rfl, hp'⟩ := id hp; refine Hid.out ?_))
        refine Lib.hid ?_
        have HY2 := Lib.hid (Fy.call Hfar.out HK1.out hm1 hp)
        clear hp hp'
        go_wp2
        go_roundg (gk - 1)
        case measure => have := Hj.out; omega
        case rel => exact ⟨j + 1, Lib.hid (by have := Hj.out; omega), by go_num, Lib.hid (by rw [Htk.out, ← List.append_assoc]; exact HY2.out)⟩
      · have e : ks.take j = ks := List.take_of_length_le (by have := HK.out.len; omega)
        rw [e] at HYr
        go_wp2
        go_end0
        obtain ⟨K1, m1, hf1, hk1, hm1⟩ := HYr.out.ex
        exact ⟨K1, m1, rfl, hf1, HYr.out.far, hk1, hm1⟩
  · have hk' : (k == 5) = false := by simpa using hk
    rw [if_neg hk] at hcnt ⊢
    obtain ⟨hd, ehd⟩ : ∃ hd : List Qm.W, [] = hd := ⟨_, rfl⟩
    rw [ehd] at hcnt ⊢
    have Hcnt := Lib.hid hcnt
    have HY : Hid (Fy w BM BF b K m hd _) := Lib.hid ⟨⟨_, _, HF0.out, fun x => by rw [← ehd]; simp, by omega⟩, Far.of_below _ HB0.out⟩
    clear hcnt hF hb0 h1 h2 h3 ehd
    go_enter Tryz.func32, Tryz.ntmps32
    go_wp2
    go_loopg [15] n (fun g iv wr => ∃ (j : Nat), Hid (j + g = n) ∧ iv = .int .i64 j ∧ Hid (Fy w BM BF b K m (hd ++ flagsL (ks.take j)) wr))
    case atStart => exact ⟨0, Lib.hid (Nat.zero_add _), rfl, Lib.hid (by simpa [flagsL] using HY.out)⟩
    case round =>
      obtain ⟨j, Hj, rfl, HYr⟩ := hrel
      have hsz := HYr.out.far.size
      by_cases hj : j < n
      · obtain ⟨K1, m1, hf1, hk1, hm1⟩ := HYr.out.ex
        have HF1 := Lib.hid hf1
        have HK1 := Lib.hid hk1
        have hKr := HK.out.keep fun p hp => HYr.out.far.cell (HS.out _ hp).1 (fun e => (HS.out _ hp).2 e)
        obtain ⟨bb, o, x, y, rfl, hb, hy, hxy, hcell⟩ := hKr.at_ hj
        have hmem := List.mem_of_getElem? hy
        have Htk : Hid (flagsL (ks.take (j + 1)) = flagsL (ks.take j) ++ flagsN y) := Lib.hid (by rw [List.take_add_one, hy]; exact flagsL_snoc _ _)
        obtain ⟨yk, ya, yf, yn, yks⟩ := y
        obtain ⟨A', n', c', rfl, -⟩ := hxy.open_
        have g0 := hcell 0 (by omega); have g1 := hcell 1 (by omega); have g2 := hcell 2 (by omega); have g3 := hcell 3 (by omega); have g4 := hcell 4 (by omega)
        have g5 := hcell 5 (by omega); have g6 := hcell 6 (by omega); have g7 := hcell 7 (by omega); have g8 := hcell 8 (by omega); have g9 := hcell 9 (by omega)
        clear hcell
        unfold ndRow at g0 g1 g2 g3 g4 g5 g6 g7 g8 g9
        simp only [List.getElem?_cons_zero, List.getElem?_cons_succ, Nat.add_zero] at g0 g1 g2 g3 g4 g5 g6 g7 g8 g9
        have hbn : Below wr.heap.size wr (wr.alloc (.cells #[.int .i64 yk, .string ⟨ya.nm.toArray⟩, .int .i64 ya.op, .int .i64 ya.ver, .int .i64 ya.slot, .string ⟨ya.fl.toArray⟩, .bool ya.on, .string ⟨yf.toArray⟩, .bool yn, .slice A' n' c'] 26)) := (Below.refl _ wr).alloc (Nat.le_refl _) _
        have hxy2 := hxy.under hbn fun q hq => Nat.lt_of_lt_of_le (HS.out q hq).1 hsz
        have hlim : m1 + (flagsN (.mk yk ya yf yn yks)).length ≤ 10000 := by have h1 := flagsL_take ks (j + 1); rw [Htk.out, List.length_append] at h1; have h2 := Hcnt.out; rw [List.length_append] at h2 hm1; omega
        have Hcall := Lib.hid (HI.out _ hmem S _ BM BF b K1 m1 _ hxy2 (fun q hq => ⟨Nat.lt_of_lt_of_le (HS.out q hq).1 (Nat.le_trans hsz hbn.size), (HS.out q hq).2⟩) (HF1.out.below hbn) hlim)
        have Hfar := Lib.hid (HYr.out.far.trans (Far.of_below (fun i => i = b) hbn) fun _ _ e => e)
        have q1 := HF1.out.fn.cell 0
        have q2 := HF1.out.fn.lt
        simp only [List.getElem?_cons_zero] at q1
        unfold ndRow at Hcall
        clear hxy hxy2 hmem hy hbn hKr hf1 hk1 hlim
        go_wp2_with (first | (go_at_call 32; refine Hcall.out.mono ?_; intro e w' hp; obtain ⟨K', m', rfl, hp'⟩ := id hp; refine Hid.out ?_))
        refine Lib.hid ?_
        have HY2 := Lib.hid (Fy.call Hfar.out HK1.out hm1 hp)
        clear hp hp'
        go_wp2
        go_roundg (gk - 1)
        case measure => have := Hj.out; omega
        case rel => exact ⟨j + 1, Lib.hid (by have := Hj.out; omega), by go_num, Lib.hid (by rw [Htk.out, ← List.append_assoc]; exact HY2.out)⟩
      · have e : ks.take j = ks := List.take_of_length_le (by have := HK.out.len; omega)
        rw [e] at HYr
        go_wp2
        go_end0
        obtain ⟨K1, m1, hf1, hk1, hm1⟩ := HYr.out.ex
        exact ⟨K1, m1, rfl, hf1, HYr.out.far, hk1, hm1⟩
end Go.Proofs.YtnkmonmkhmcgaaaGreatDoor

/- sort.Strings, walked. -/
namespace Go.Proofs.YtnkmonmkhmcgaaaGreatDoor
open Go.RowKit Qm

set_option maxRecDepth 100000 in
theorem sortStrings_any (base g n cap : Nat) (fs : List Qm.W) (w : World) (hown : w.ownsRow base 9 1 (.slice (some ⟨g, 0, none⟩) n cap) n (strs fs)) (hn : n ≤ 100000) :
    Calls Tryz.prog 33 #[.slice (some ⟨g, 0, none⟩) n cap] w (SortPost base g n cap fs w) := by
  have H := Lib.hid (sortS_any base g n cap fs w hown hn)
  go_enter Tryz.func33, Tryz.ntmps33
  go_wp2_with (first | (go_at_call 23; refine H.out.mono ?_; rintro e w1 ⟨rfl, h1, h2⟩; refine Hid.out ?_))
  refine Lib.hid ?_
  go_wp2
  go_end0
  exact ⟨rfl, h1, h2⟩
end Go.Proofs.YtnkmonmkhmcgaaaGreatDoor

/- quartermasterref.FlagsOf: the state of its loop over the map. -/
namespace Go.Proofs.YtnkmonmkhmcgaaaGreatDoor
open Go.RowKit Qm

/-- The words of K that have come are 'l', the others are still to come. -/
structure Gone (K : Qm.W → Bool) (l : List Qm.W) (left : Lit → Bool) : Prop where
  nodup : l.Nodup
  short : ∀ x ∈ l, x.length ≤ maxLen
  sub : ∀ x : Qm.W, x.length ≤ maxLen → left (.string x) = true → K x = true ∧ x ∉ l
  all : ∀ x : Qm.W, x.length ≤ maxLen → K x = true → x ∈ l ∨ left (.string x) = true
  got : ∀ x ∈ l, K x = true
theorem Gone.start {D : DataW Unit} {K : Qm.W → Bool} (h : ∀ x : Qm.W, x.length ≤ maxLen → Maps.has D (.string x) = K x) : Gone K [] (Maps.has D) :=
  ⟨List.nodup_nil, fun _ h => by simp at h, fun x hx e => ⟨by rw [← h x hx]; exact e, by simp⟩, fun x hx e => .inr (by rw [h x hx]; exact e), fun _ h => by simp at h⟩
theorem Gone.step {K : Qm.W → Bool} {l : List Qm.W} {left : Lit → Bool} (h : Gone K l left) {x : Qm.W} (hx : x.length ≤ maxLen) (hl : left (.string x) = true) : Gone K (l ++ [x]) (fun z => left z && !z.sameKey (.string x)) := by
  obtain ⟨hk, hn⟩ := h.sub x hx hl
  have hs : ∀ y : Qm.W, (Lit.string y).sameKey (.string x) = decide (y = x) := fun y => by
    by_cases e : y = x <;> simp [Lit.sameKey, e]
  refine ⟨List.nodup_append.2 ⟨h.nodup, by simp, fun a ha b hb => ?_⟩, fun y hy => ?_, fun y hy e => ?_, fun y hy e => ?_, fun y hy => ?_⟩
  · obtain rfl : b = x := by simpa using hb
    exact fun e => hn (e ▸ ha)
  · rcases List.mem_append.1 hy with h1 | h1
    · exact h.short y h1
    · obtain rfl : y = x := by simpa using h1
      exact hx
  · simp only [hs, Bool.and_eq_true, Bool.not_eq_true', decide_eq_false_iff_not] at e
    obtain ⟨k1, k2⟩ := h.sub y hy e.1
    exact ⟨k1, by simp [k2, e.2]⟩
  · rcases h.all y hy e with h1 | h1
    · exact .inl (List.mem_append.2 (.inl h1))
    · by_cases ex : y = x
      · exact .inl (by simp [ex])
      · exact .inr (by simp [hs, h1, ex])
  · rcases List.mem_append.1 hy with h1 | h1
    · exact h.got y h1
    · obtain rfl : y = x := by simpa using h1
      exact hk
theorem Gone.done {K : Qm.W → Bool} {l : List Qm.W} {left : Lit → Bool} (h : Gone K l left) (h0 : ∀ kl, left kl = false) {x : Qm.W} (hx : x.length ≤ maxLen) : x ∈ l ↔ K x = true :=
  ⟨h.got x, fun e => (h.all x hx e).resolve_right (by rw [h0]; simp)⟩
end Go.Proofs.YtnkmonmkhmcgaaaGreatDoor

/- A step of a range over a map from strings to bools. -/
namespace Go.Proofs.YtnkmonmkhmcgaaaGreatDoor
open Go.RowKit Qm
open Go.Maps (Keyed)

theorem wpList_next_ranges_sb {P : Program} (w : World) {ops : Array Oper} {rest : List Oper} {o : Oper} {a : Act} {Q : Exit → Act → World → Prop}
    (hg : o.guard = none) (it : Operand) (hop : o.op = Op.next it false) (k e : TypeId) (K : Keyed P k) (hk : P.underlying k = some .string) (he : P.underlying e = some .bool)
    (b r n : Nat) (D : DataW Unit) (left : Lit → Bool) (cnt : Nat) (hit : a.eval it = .pointer (some ⟨r, 0, none⟩)) (h : w.ranges P k (plainElem P e) b r n D left cnt)
    (hDone : cnt = 0 → (∀ kl, left kl = false) → wpList P ops Q rest (a.put o.dst (.tuple #[.bool false])) w)
    (hMore : ∀ (x : Qm.W) (c : Value) (w' : World) (cnt' : Nat), x.length ≤ maxLen → left (.string x) = true → w'.ranges P k (plainElem P e) b r n D (fun z => left z && !z.sameKey (.string x)) cnt' → cnt' < cnt →
      w.grownBy w' (some r) → w'.heap.size = w.heap.size → (Instr.entry (.pointer (some ⟨r, 0, none⟩))).run P w' = .ok (.tuple #[.string ⟨x.toArray⟩, c]) w' → wpList P ops Q rest (a.put o.dst (.tuple #[.bool true, .string ⟨x.toArray⟩, c])) w') :
    wpList P ops Q (o :: rest) a w :=
  wpList_next_ranges w hg it hop k K (plainElem P e) Value.string Value.bool (fun key kl hkey => by obtain ⟨x, rfl, _⟩ := WideMaps.string_of_keyOf hk hkey; exact ⟨x, rfl⟩)
    (fun v y hv => by
      unfold plainElem at hv
      rw [he] at hv
      cases v <;> simp at hv
      exact ⟨_, rfl⟩)
    b r n D left cnt hit h hDone (fun x c kl y w' cnt' hkey hlk hv hat hrg hlt hgr hsz hen => by
      obtain ⟨x', ex, rfl, hwx⟩ := WideMaps.string_of_keyOf hk hkey
      cases ex
      have e1 : (⟨x.data.toList.toArray⟩ : ByteArray) = x := by simp
      have hm := hMore x.data.toList (.bool c) w' cnt' (by rw [← Lib.size_eq]; exact hwx) hlk hrg hlt hgr hsz
      rw [e1] at hm
      exact hm hen)
end Go.Proofs.YtnkmonmkhmcgaaaGreatDoor
