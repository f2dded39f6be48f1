/- Parts of the proof: walks and plain laws, side by side. -/
import Derived.Test.YtnkmonmkhmcgaaaGreatDoorM3
import Derived.Test.YtnkmonmkhmcgaaaGreatDoorM4
import Derived.Deep.RegionHeld3
import Derived.Test.YtnkmonmkhmcgaaaGreatDoorM1
import Derived.Test.YtnkmonmkhmcgaaaGreatDoorM2
import Derived.Test.YtnkmonmkhmcgaaaGreatDoorM5
import Derived.Test.YtnkmonmkhmcgaaaGreatDoorM6
import Derived.Test.YtnkmonmkhmcgaaaGreatDoorM7
import Derived.Test.YtnkmonmkhmcgaaaGreatDoorM8
import Derived.Test.YtnkmonmkhmcgaaaGreatDoorM9
import Derived.Test.YtnkmonmkhmcgaaaGreatDoorM10
import Derived.Test.YtnkmonmkhmcgaaaGreatDoorM11
import Derived.Test.YtnkmonmkhmcgaaaGreatDoorM12
import Derived.Test.YtnkmonmkhmcgaaaGreatDoorM13
import Derived.Test.YtnkmonmkhmcgaaaGreatDoorM14
import Derived.Test.YtnkmonmkhmcgaaaGreatDoorM15
import Derived.Test.YtnkmonmkhmcgaaaGreatDoorM16
import Derived.Test.YtnkmonmkhmcgaaaGreatDoorM17
import Derived.Test.YtnkmonmkhmcgaaaGreatDoorM18
set_option linter.unusedVariables false
set_option linter.unusedSimpArgs false
set_option linter.unusedSectionVars false
/- quartermasterref.SameNeed, walked. -/
namespace Go.Proofs.YtnkmonmkhmcgaaaGreatDoor
open Go.RowKit Qm

theorem drop_eqN {ks : List Nd} {j : Nat} (h : ks.length ≤ j) : ks.drop j = [] := List.drop_eq_nil_of_le h
/-- Two boxes of needs. -/
structure Sb (w : World) (x1 x2 : List Value) (wx : World) : Prop where
  a : Whole wx w.heap.size 26 x1
  b : Whole wx (w.heap.size + 1) 26 x2
  bel : Below w.heap.size w wx
theorem Sb.move {w wx wy : World} {x1 x2 : List Value} (h : Sb w x1 x2 wx) (hb : Below wx.heap.size wx wy) : Sb w x1 x2 wy := ⟨h.a.below hb h.a.lt, h.b.below hb h.b.lt, h.bel.trans (hb.mono h.bel.size)⟩
theorem Sb.new (w : World) (x1 x2 : List Value) : Sb w x1 x2 ((w.alloc (.cells x1.toArray 26)).alloc (.cells x2.toArray 26)) :=
  ⟨(Whole.new w _ _ x1 rfl).alloc _, Whole.new (w.alloc (.cells x1.toArray 26)) (w.heap.size + 1) _ x2 (by simp), ((Below.refl _ w).alloc (Nat.le_refl _) _).alloc (by simp) _⟩
set_option maxRecDepth 100000 in
set_option maxHeartbeats 6400000 in
theorem rsame_any : ∀ (y z : Nd) (S : Nat → Prop) (cx cy : List Value) (w : World), RNd w S cx y → RNd w S cy z → (∀ k, S k → k < w.heap.size) →
    Calls Tryz.prog 12 #[.agg cx.toArray, .agg cy.toArray] w fun e w' => e = .returned (.bool (sameNd y z)) ∧ Below w.heap.size w w' := by
  refine Nd.ind fun k a f no ks ih => ?_
  intro z S cx cy w hx hy hS
  obtain ⟨k', a', f', no', ks'⟩ := z
  obtain ⟨A, n, c, rfl, hnc, hc, _, _, _, hK⟩ := hx.open_
  obtain ⟨B, m, d, rfl, hmd, hd, _, _, _, hL⟩ := hy.open_
  have HSB := Lib.hid (Sb.new w (ndRow k a f no A n c) (ndRow k' a' f' no' B m d))
  have HB := Lib.hid HSB.out.bel
  have HC : Hid (sameNd (.mk k a f no ks) (.mk k' a' f' no' ks') = (decide (k = k') && (decide (a = a') && (decide (f = f') && (decide (no = no') && sameL ks ks'))))) := Lib.hid rfl
  generalize sameNd (.mk k a f no ks) (.mk k' a' f' no' ks') = R at HC ⊢
  have HK := Lib.hid hK; have HL := Lib.hid hL; have HS := Lib.hid hS; have HI := Lib.hid ih
  have hnl := hK.len; have hml := hL.len
  clear hx hy hK hL hS ih
  obtain ⟨nm, op, ver, slot, fl, on⟩ := a
  obtain ⟨nm', op', ver', slot', fl', on'⟩ := a'
  unfold maxLen at hc hd
  unfold ndRow at HB HSB ⊢
  simp only [] at HB HSB ⊢
  by_cases c0 : k = k'
  · subst c0
    by_cases c1 : nm = nm'
    · subst c1
      by_cases c2 : op = op'
      · subst c2
        by_cases c3 : ver = ver'
        · subst c3
          by_cases c4 : slot = slot'
          · subst c4
            by_cases c5 : fl = fl'
            · subst c5
              by_cases c6 : on = on'
              · subst c6
                by_cases c7 : f = f'
                · subst c7
                  by_cases c8 : no = no'
                  · subst c8
                    have HE : Hid (R = sameL ks ks') := Lib.hid (by rw [HC.out]; simp)
                    clear HC
                    by_cases c9 : n = m
                    · subst c9
                      go_enter Tryz.func12, Tryz.ntmps12
                      go_wp2
                      go_loopg [5, 44] n (fun g uv iv wr => ∃ (j : Nat), Hid (j + g = n) ∧ iv = .int .i64 j ∧ Hid (sameL ks ks' = sameL (ks.drop j) (ks'.drop j)) ∧ Hid (Sb w _ _ wr))
                      case atStart => exact ⟨0, Lib.hid (Nat.zero_add _), rfl, Lib.hid rfl, HSB⟩
                      case round =>
                        obtain ⟨j, Hj, rfl, Hcl, SBr⟩ := hrel
                        have t9 := SBr.out.a.cell 9
                        have u9 := SBr.out.b.cell 9
                        simp only [List.getElem?_cons_zero, List.getElem?_cons_succ] at t9 u9
                        by_cases hj : j < n
                        · obtain ⟨b, o, x, y, rfl, hb, hy, hxy, hcell⟩ := (HK.out.under SBr.out.bel HS.out).at_ hj
                          obtain ⟨b', o', x', y', rfl, hb', hy', hxy', hcell'⟩ := (HL.out.under SBr.out.bel HS.out).at_ hj
                          have Hdr : Hid (sameL (ks.drop j) (ks'.drop j) = (sameNd y y' && sameL (ks.drop (j + 1)) (ks'.drop (j + 1)))) := Lib.hid (by rw [drop_step hy, drop_step hy']; rfl)
                          have hmem := List.mem_of_getElem? hy
                          have hlb : b < wr.heap.size := Nat.lt_of_lt_of_le (HS.out _ hb) SBr.out.bel.size
                          have hlb' : b' < wr.heap.size := Nat.lt_of_lt_of_le (HS.out _ hb') SBr.out.bel.size
                          obtain ⟨yk, ya, yf, yn, yks⟩ := y
                          obtain ⟨A', n', c', rfl, -⟩ := hxy.open_
                          have g0 := hcell 0 (by omega); have g1 := hcell 1 (by omega); have g2 := hcell 2 (by omega); have g3 := hcell 3 (by omega); have g4 := hcell 4 (by omega)
                          have g5 := hcell 5 (by omega); have g6 := hcell 6 (by omega); have g7 := hcell 7 (by omega); have g8 := hcell 8 (by omega); have g9 := hcell 9 (by omega)
                          clear hcell
                          unfold ndRow at g0 g1 g2 g3 g4 g5 g6 g7 g8 g9
                          simp only [List.getElem?_cons_zero, List.getElem?_cons_succ, Nat.add_zero] at g0 g1 g2 g3 g4 g5 g6 g7 g8 g9
                          obtain ⟨zk, za, zf, zn, zks⟩ := y'
                          obtain ⟨A'', n'', c'', rfl, -⟩ := hxy'.open_
                          have k0 := hcell' 0 (by omega); have k1 := hcell' 1 (by omega); have k2 := hcell' 2 (by omega); have k3 := hcell' 3 (by omega); have k4 := hcell' 4 (by omega)
                          have k5 := hcell' 5 (by omega); have k6 := hcell' 6 (by omega); have k7 := hcell' 7 (by omega); have k8 := hcell' 8 (by omega); have k9 := hcell' 9 (by omega)
                          clear hcell'
                          unfold ndRow at k0 k1 k2 k3 k4 k5 k6 k7 k8 k9
                          simp only [List.getElem?_cons_zero, List.getElem?_cons_succ, Nat.add_zero] at k0 k1 k2 k3 k4 k5 k6 k7 k8 k9
                          have hcall := fun (wx : World) (he : wx.heap.size = wr.heap.size) (hbx : Below wr.heap.size wr wx) => HI.out _ hmem (.mk zk za zf zn zks) S _ _ wx (hxy.under hbx fun q hq => Nat.lt_of_lt_of_le (HS.out q hq) SBr.out.bel.size) (hxy'.under hbx fun q hq => Nat.lt_of_lt_of_le (HS.out q hq) SBr.out.bel.size) (fun q hq => by rw [he]; exact Nat.lt_of_lt_of_le (HS.out q hq) SBr.out.bel.size)
                          unfold ndRow at hcall
                          clear hxy hxy' hmem hy hy'
                          generalize sameNd _ _ = q at hcall Hdr
                          have Hcall := Lib.hid hcall; clear hcall
                          have hj1 : (j : Int) < n := by omega
                          go_wp2
                          cases q
                          ·
                            go_region_held3 (fun w' => w'.cell? ⟨w.heap.size, 9, none⟩ = some (.slice (some ⟨b, o, none⟩) n c) ∧ w'.cell? ⟨w.heap.size + 1, 9, none⟩ = some (.slice (some ⟨b', o', none⟩) n d) ∧ w'.cell? ⟨b, o + j * 10, none⟩ = some (.int .i64 yk) ∧ w'.cell? ⟨b, o + j * 10 + 1, none⟩ = some (.string ⟨ya.nm.toArray⟩) ∧ w'.cell? ⟨b, o + j * 10 + 2, none⟩ = some (.int .i64 ya.op) ∧ w'.cell? ⟨b, o + j * 10 + 3, none⟩ = some (.int .i64 ya.ver) ∧ w'.cell? ⟨b, o + j * 10 + 4, none⟩ = some (.int .i64 ya.slot) ∧ w'.cell? ⟨b, o + j * 10 + 5, none⟩ = some (.string ⟨ya.fl.toArray⟩) ∧ w'.cell? ⟨b, o + j * 10 + 6, none⟩ = some (.bool ya.on) ∧ w'.cell? ⟨b, o + j * 10 + 7, none⟩ = some (.string ⟨yf.toArray⟩) ∧ w'.cell? ⟨b, o + j * 10 + 8, none⟩ = some (.bool yn) ∧ w'.cell? ⟨b, o + j * 10 + 9, none⟩ = some (.slice A' n' c') ∧ w'.cell? ⟨b', o' + j * 10, none⟩ = some (.int .i64 zk) ∧ w'.cell? ⟨b', o' + j * 10 + 1, none⟩ = some (.string ⟨za.nm.toArray⟩) ∧ w'.cell? ⟨b', o' + j * 10 + 2, none⟩ = some (.int .i64 za.op) ∧ w'.cell? ⟨b', o' + j * 10 + 3, none⟩ = some (.int .i64 za.ver) ∧ w'.cell? ⟨b', o' + j * 10 + 4, none⟩ = some (.int .i64 za.slot) ∧ w'.cell? ⟨b', o' + j * 10 + 5, none⟩ = some (.string ⟨za.fl.toArray⟩) ∧ w'.cell? ⟨b', o' + j * 10 + 6, none⟩ = some (.bool za.on) ∧ w'.cell? ⟨b', o' + j * 10 + 7, none⟩ = some (.string ⟨zf.toArray⟩) ∧ w'.cell? ⟨b', o' + j * 10 + 8, none⟩ = some (.bool zn) ∧ w'.cell? ⟨b', o' + j * 10 + 9, none⟩ = some (.slice A'' n'' c''))
                              (first | go_keep | exact ⟨t9, u9, g0, g1, g2, g3, g4, g5, g6, g7, g8, g9, k0, k1, k2, k3, k4, k5, k6, k7, k8, k9⟩)
                              (first
                                | (go_at_call 12
                                   refine (Hcall.out _ (by rfl) (below_drewN (Below.refl _ _) _)).mono ?_
                                   rintro e wn ⟨rfl, hb2⟩
                                   have SB2 := Lib.hid (SBr.out.move ((below_drewN (Below.refl _ _) 1).trans hb2))
                                   clear t9 u9
                                   replace g0 := (hb2.cell (p := ⟨b, _, none⟩) hlb).trans g0; replace g1 := (hb2.cell (p := ⟨b, _, none⟩) hlb).trans g1; replace g2 := (hb2.cell (p := ⟨b, _, none⟩) hlb).trans g2; replace g3 := (hb2.cell (p := ⟨b, _, none⟩) hlb).trans g3; replace g4 := (hb2.cell (p := ⟨b, _, none⟩) hlb).trans g4; replace g5 := (hb2.cell (p := ⟨b, _, none⟩) hlb).trans g5; replace g6 := (hb2.cell (p := ⟨b, _, none⟩) hlb).trans g6; replace g7 := (hb2.cell (p := ⟨b, _, none⟩) hlb).trans g7; replace g8 := (hb2.cell (p := ⟨b, _, none⟩) hlb).trans g8; replace g9 := (hb2.cell (p := ⟨b, _, none⟩) hlb).trans g9
                                   replace k0 := (hb2.cell (p := ⟨b', _, none⟩) hlb').trans k0; replace k1 := (hb2.cell (p := ⟨b', _, none⟩) hlb').trans k1; replace k2 := (hb2.cell (p := ⟨b', _, none⟩) hlb').trans k2; replace k3 := (hb2.cell (p := ⟨b', _, none⟩) hlb').trans k3; replace k4 := (hb2.cell (p := ⟨b', _, none⟩) hlb').trans k4; replace k5 := (hb2.cell (p := ⟨b', _, none⟩) hlb').trans k5; replace k6 := (hb2.cell (p := ⟨b', _, none⟩) hlb').trans k6; replace k7 := (hb2.cell (p := ⟨b', _, none⟩) hlb').trans k7; replace k8 := (hb2.cell (p := ⟨b', _, none⟩) hlb').trans k8; replace k9 := (hb2.cell (p := ⟨b', _, none⟩) hlb').trans k9
                                   clear hb2
                                   have t9 := SB2.out.a.cell 9
                                   have u9 := SB2.out.b.cell 9
                                   simp only [List.getElem?_cons_zero, List.getElem?_cons_succ] at t9 u9)
                                | fail)
                            go_wp2
                            go_ret
                            exact ⟨ret_bool (by rw [HE.out, Hcl.out, Hdr.out]; rfl), SB2.out.bel⟩
                          ·
                            go_region_held3 (fun w' => w'.cell? ⟨w.heap.size, 9, none⟩ = some (.slice (some ⟨b, o, none⟩) n c) ∧ w'.cell? ⟨w.heap.size + 1, 9, none⟩ = some (.slice (some ⟨b', o', none⟩) n d) ∧ w'.cell? ⟨b, o + j * 10, none⟩ = some (.int .i64 yk) ∧ w'.cell? ⟨b, o + j * 10 + 1, none⟩ = some (.string ⟨ya.nm.toArray⟩) ∧ w'.cell? ⟨b, o + j * 10 + 2, none⟩ = some (.int .i64 ya.op) ∧ w'.cell? ⟨b, o + j * 10 + 3, none⟩ = some (.int .i64 ya.ver) ∧ w'.cell? ⟨b, o + j * 10 + 4, none⟩ = some (.int .i64 ya.slot) ∧ w'.cell? ⟨b, o + j * 10 + 5, none⟩ = some (.string ⟨ya.fl.toArray⟩) ∧ w'.cell? ⟨b, o + j * 10 + 6, none⟩ = some (.bool ya.on) ∧ w'.cell? ⟨b, o + j * 10 + 7, none⟩ = some (.string ⟨yf.toArray⟩) ∧ w'.cell? ⟨b, o + j * 10 + 8, none⟩ = some (.bool yn) ∧ w'.cell? ⟨b, o + j * 10 + 9, none⟩ = some (.slice A' n' c') ∧ w'.cell? ⟨b', o' + j * 10, none⟩ = some (.int .i64 zk) ∧ w'.cell? ⟨b', o' + j * 10 + 1, none⟩ = some (.string ⟨za.nm.toArray⟩) ∧ w'.cell? ⟨b', o' + j * 10 + 2, none⟩ = some (.int .i64 za.op) ∧ w'.cell? ⟨b', o' + j * 10 + 3, none⟩ = some (.int .i64 za.ver) ∧ w'.cell? ⟨b', o' + j * 10 + 4, none⟩ = some (.int .i64 za.slot) ∧ w'.cell? ⟨b', o' + j * 10 + 5, none⟩ = some (.string ⟨za.fl.toArray⟩) ∧ w'.cell? ⟨b', o' + j * 10 + 6, none⟩ = some (.bool za.on) ∧ w'.cell? ⟨b', o' + j * 10 + 7, none⟩ = some (.string ⟨zf.toArray⟩) ∧ w'.cell? ⟨b', o' + j * 10 + 8, none⟩ = some (.bool zn) ∧ w'.cell? ⟨b', o' + j * 10 + 9, none⟩ = some (.slice A'' n'' c''))
                              (first | go_keep | exact ⟨t9, u9, g0, g1, g2, g3, g4, g5, g6, g7, g8, g9, k0, k1, k2, k3, k4, k5, k6, k7, k8, k9⟩)
                              (first
                                | (go_at_call 12
                                   refine (Hcall.out _ (by rfl) (below_drewN (Below.refl _ _) _)).mono ?_
                                   rintro e wn ⟨rfl, hb2⟩
                                   have SB2 := Lib.hid (SBr.out.move ((below_drewN (Below.refl _ _) 1).trans hb2))
                                   clear t9 u9
                                   replace g0 := (hb2.cell (p := ⟨b, _, none⟩) hlb).trans g0; replace g1 := (hb2.cell (p := ⟨b, _, none⟩) hlb).trans g1; replace g2 := (hb2.cell (p := ⟨b, _, none⟩) hlb).trans g2; replace g3 := (hb2.cell (p := ⟨b, _, none⟩) hlb).trans g3; replace g4 := (hb2.cell (p := ⟨b, _, none⟩) hlb).trans g4; replace g5 := (hb2.cell (p := ⟨b, _, none⟩) hlb).trans g5; replace g6 := (hb2.cell (p := ⟨b, _, none⟩) hlb).trans g6; replace g7 := (hb2.cell (p := ⟨b, _, none⟩) hlb).trans g7; replace g8 := (hb2.cell (p := ⟨b, _, none⟩) hlb).trans g8; replace g9 := (hb2.cell (p := ⟨b, _, none⟩) hlb).trans g9
                                   replace k0 := (hb2.cell (p := ⟨b', _, none⟩) hlb').trans k0; replace k1 := (hb2.cell (p := ⟨b', _, none⟩) hlb').trans k1; replace k2 := (hb2.cell (p := ⟨b', _, none⟩) hlb').trans k2; replace k3 := (hb2.cell (p := ⟨b', _, none⟩) hlb').trans k3; replace k4 := (hb2.cell (p := ⟨b', _, none⟩) hlb').trans k4; replace k5 := (hb2.cell (p := ⟨b', _, none⟩) hlb').trans k5; replace k6 := (hb2.cell (p := ⟨b', _, none⟩) hlb').trans k6; replace k7 := (hb2.cell (p := ⟨b', _, none⟩) hlb').trans k7; replace k8 := (hb2.cell (p := ⟨b', _, none⟩) hlb').trans k8; replace k9 := (hb2.cell (p := ⟨b', _, none⟩) hlb').trans k9
                                   clear hb2
                                   have t9 := SB2.out.a.cell 9
                                   have u9 := SB2.out.b.cell 9
                                   simp only [List.getElem?_cons_zero, List.getElem?_cons_succ] at t9 u9)
                                | fail)
                            go_wp2
                            go_roundg (gk - 1)
                            case measure => have := Hj.out; omega
                            case rel => exact ⟨j + 1, Lib.hid (by have := Hj.out; omega), by go_num, Lib.hid (by rw [Hcl.out, Hdr.out, Bool.true_and]), SB2⟩
                        · obtain rfl : n = j := by have := Hj.out; omega
                          go_wp2
                          go_ret
                          exact ⟨ret_bool (by rw [HE.out, Hcl.out, List.drop_of_length_le (by omega), List.drop_of_length_le (by omega)]; rfl), SBr.out.bel⟩
                    · have HE2 : Hid (R = false) := Lib.hid (by rw [HE.out]; exact sameL_len (by omega))
                      have c9' : ((n : Int) != (m : Int)) = true := by simp; omega
                      clear HE
                      have HE := HE2
                      go_enter Tryz.func12, Tryz.ntmps12
                      go_wp2
                      go_ret
                      exact ⟨ret_bool HE.out.symm, HB.out⟩
                  · have HE : Hid (R = false) := Lib.hid (by rw [HC.out]; simp [c8])
                    have c8' : (no != no') = true := by simpa using c8
                    go_enter Tryz.func12, Tryz.ntmps12
                    go_wp2
                    go_ret
                    exact ⟨ret_bool HE.out.symm, HB.out⟩
                · have HE : Hid (R = false) := Lib.hid (by rw [HC.out]; simp [c7])
                  go_enter Tryz.func12, Tryz.ntmps12
                  go_wp2
                  go_ret
                  exact ⟨ret_bool HE.out.symm, HB.out⟩
              · have HE : Hid (R = false) := Lib.hid (by rw [HC.out]; simp [c6])
                have c6' : (on == on') = false := by simpa using c6
                go_enter Tryz.func12, Tryz.ntmps12
                go_wp2
                go_ret
                exact ⟨ret_bool HE.out.symm, HB.out⟩
            · have HE : Hid (R = false) := Lib.hid (by rw [HC.out]; simp [c5])
              go_enter Tryz.func12, Tryz.ntmps12
              go_wp2
              go_ret
              exact ⟨ret_bool HE.out.symm, HB.out⟩
          · have HE : Hid (R = false) := Lib.hid (by rw [HC.out]; simp [c4])
            go_enter Tryz.func12, Tryz.ntmps12
            go_wp2
            go_ret
            exact ⟨ret_bool HE.out.symm, HB.out⟩
        · have HE : Hid (R = false) := Lib.hid (by rw [HC.out]; simp [c3])
          go_enter Tryz.func12, Tryz.ntmps12
          go_wp2
          go_ret
          exact ⟨ret_bool HE.out.symm, HB.out⟩
      · have HE : Hid (R = false) := Lib.hid (by rw [HC.out]; simp [c2])
        go_enter Tryz.func12, Tryz.ntmps12
        go_wp2
        go_ret
        exact ⟨ret_bool HE.out.symm, HB.out⟩
    · have HE : Hid (R = false) := Lib.hid (by rw [HC.out]; simp [c1])
      go_enter Tryz.func12, Tryz.ntmps12
      go_wp2
      go_ret
      exact ⟨ret_bool HE.out.symm, HB.out⟩
  · have HE : Hid (R = false) := Lib.hid (by rw [HC.out]; simp [c0])
    go_enter Tryz.func12, Tryz.ntmps12
    go_wp2
    go_ret
    exact ⟨ret_bool HE.out.symm, HB.out⟩
end Go.Proofs.YtnkmonmkhmcgaaaGreatDoor
