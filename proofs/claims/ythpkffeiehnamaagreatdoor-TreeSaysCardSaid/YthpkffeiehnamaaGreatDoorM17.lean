/- Parts of the proof: walks and plain laws, side by side. -/
import Derived.Test.YthpkffeiehnamaaGreatDoorM3
import Derived.Test.YthpkffeiehnamaaGreatDoorM5
import Derived.Deep.RegionHeld3
import Derived.Test.YthpkffeiehnamaaGreatDoorM6
import Derived.Test.YthpkffeiehnamaaGreatDoorShelf
import Derived.Deep.LoopGhost
import Derived.Test.YthpkffeiehnamaaGreatDoorProg
import Derived.Test.YthpkffeiehnamaaGreatDoorM15
import Derived.Test.YthpkffeiehnamaaGreatDoorM16
import Derived.Deep.DeepCutAuto
import Derived.Test.YthpkffeiehnamaaGreatDoorM2
set_option linter.unusedVariables false
set_option linter.unusedSimpArgs false
set_option linter.unusedSectionVars false
/- quartermasterref.SameNeed, walked. -/
namespace Go.Proofs.YthpkffeiehnamaaGreatDoor
open Go.RowKit Qm

/-- Two boxes of needs. -/
structure Sb (w : World) (x1 x2 : List Value) (wx : World) : Prop where
  a : Whole wx w.heap.size 57 x1
  b : Whole wx (w.heap.size + 1) 57 x2
  bel : Below w.heap.size w wx
theorem Sb.move {w wx wy : World} {x1 x2 : List Value} (h : Sb w x1 x2 wx) (hb : Below wx.heap.size wx wy) : Sb w x1 x2 wy := ⟨h.a.below hb h.a.lt, h.b.below hb h.b.lt, h.bel.trans (hb.mono h.bel.size)⟩
theorem Sb.new (w : World) (x1 x2 : List Value) : Sb w x1 x2 ((w.alloc (.cells x1.toArray 57)).alloc (.cells x2.toArray 57)) :=
  ⟨(Whole.new w _ _ x1 rfl).alloc _, Whole.new (w.alloc (.cells x1.toArray 57)) (w.heap.size + 1) _ x2 (by simp), ((Below.refl _ w).alloc (Nat.le_refl _) _).alloc (by simp) _⟩
set_option maxRecDepth 100000 in
set_option maxHeartbeats 6400000 in
theorem rsame_any : ∀ (y z : Nd) (S : Nat → Prop) (cx cy : List Value) (w : World), RNd w S cx y → RNd w S cy z → (∀ k, S k → k < w.heap.size) →
    Calls Tryz.prog 51 #[.agg cx.toArray, .agg cy.toArray] w fun e w' => e = .returned (.bool (sameNd y z)) ∧ Below w.heap.size w w' := by
  refine Nd.ind fun k a f no ks ih => ?_
  intro z S cx cy w hx hy hS
  obtain ⟨k', a', f', no', ks'⟩ := z
  obtain ⟨A, n, c, rfl, hnc, hc, _, _, _, hK⟩ := hx.open_
  obtain ⟨B, m, d, rfl, hmd, hd, _, _, _, hL⟩ := hy.open_
  have HSB := Lib.hid (Sb.new w (ndRow k a f no A n c) (ndRow k' a' f' no' B m d))
  have HB := Lib.hid HSB.out.bel
  have HC : Hid (sameNd (.mk k a f no ks) (.mk k' a' f' no' ks') = (decide (k = k') && (decide (a = a') && (decide (f = f') && (decide (no = no') && sameL ks ks'))))) := Lib.hid rfl
  generalize sameNd (.mk k a f no ks) (.mk k' a' f' no' ks') = R at HC ⊢
  have HK := Lib.hid hK; have HL := Lib.hid hL; have HS := Lib.hid hS; have HI := Lib.hid ih
  have hnl := hK.len; have hml := hL.len
  clear hx hy hK hL hS ih
  obtain ⟨nm, op, ver, slot, fl, on⟩ := a
  obtain ⟨nm', op', ver', slot', fl', on'⟩ := a'
  unfold maxLen at hc hd
  unfold ndRow at HB HSB ⊢
  simp only [] at HB HSB ⊢
  by_cases c0 : k = k'
  · subst c0
    by_cases c1 : nm = nm'
    · subst c1
      by_cases c2 : op = op'
      · subst c2
        by_cases c3 : ver = ver'
        · subst c3
          by_cases c4 : slot = slot'
          · subst c4
            by_cases c5 : fl = fl'
            · subst c5
              by_cases c6 : on = on'
              · subst c6
                by_cases c7 : f = f'
                · subst c7
                  by_cases c8 : no = no'
                  · subst c8
                    have HE : Hid (R = sameL ks ks') := Lib.hid (by rw [HC.out]; simp)
                    clear HC
                    by_cases c9 : n = m
                    · subst c9
                      go_enter Tryz.func51, Tryz.ntmps51
                      go_wp2
                      go_loopg [5, 44] n (fun g uv iv wr => ∃ (j : Nat), Hid (j + g = n) ∧ iv = .int .i64 j ∧ Hid (sameL ks ks' = sameL (ks.drop j) (ks'.drop j)) ∧ Hid (Sb w _ _ wr))
                      case atStart => exact ⟨0, Lib.hid (Nat.zero_add _), rfl, Lib.hid rfl, HSB⟩
                      case round =>
                        obtain ⟨j, Hj, rfl, Hcl, SBr⟩ := hrel
                        have t9 := SBr.out.a.cell 9
                        have u9 := SBr.out.b.cell 9
                        simp only [List.getElem?_cons_zero, List.getElem?_cons_succ] at t9 u9
                        by_cases hj : j < n
                        · obtain ⟨b, o, x, y, rfl, hb, hy, hxy, hcell⟩ := (HK.out.under SBr.out.bel HS.out).at_ hj
                          obtain ⟨b', o', x', y', rfl, hb', hy', hxy', hcell'⟩ := (HL.out.under SBr.out.bel HS.out).at_ hj
                          have Hdr : Hid (sameL (ks.drop j) (ks'.drop j) = (sameNd y y' && sameL (ks.drop (j + 1)) (ks'.drop (j + 1)))) := Lib.hid (by rw [drop_step hy, drop_step hy']; rfl)
                          have hmem := List.mem_of_getElem? hy
                          have hlb : b < wr.heap.size := Nat.lt_of_lt_of_le (HS.out _ hb) SBr.out.bel.size
                          have hlb' : b' < wr.heap.size := Nat.lt_of_lt_of_le (HS.out _ hb') SBr.out.bel.size
                          obtain ⟨yk, ya, yf, yn, yks⟩ := y
                          obtain ⟨A', n', c', rfl, -⟩ := hxy.open_
                          have g0 := hcell 0 (by omega); have g1 := hcell 1 (by omega); have g2 := hcell 2 (by omega); have g3 := hcell 3 (by omega); have g4 := hcell 4 (by omega)
                          have g5 := hcell 5 (by omega); have g6 := hcell 6 (by omega); have g7 := hcell 7 (by omega); have g8 := hcell 8 (by omega); have g9 := hcell 9 (by omega)
                          clear hcell
                          unfold ndRow at g0 g1 g2 g3 g4 g5 g6 g7 g8 g9
                          simp only [List.getElem?_cons_zero, List.getElem?_cons_succ, Nat.add_zero] at g0 g1 g2 g3 g4 g5 g6 g7 g8 g9
                          obtain ⟨zk, za, zf, zn, zks⟩ := y'
                          obtain ⟨A'', n'', c'', rfl, -⟩ := hxy'.open_
                          have k0 := hcell' 0 (by omega); have k1 := hcell' 1 (by omega); have k2 := hcell' 2 (by omega); have k3 := hcell' 3 (by omega); have k4 := hcell' 4 (by omega)
                          have k5 := hcell' 5 (by omega); have k6 := hcell' 6 (by omega); have k7 := hcell' 7 (by omega); have k8 := hcell' 8 (by omega); have k9 := hcell' 9 (by omega)
                          clear hcell'
                          unfold ndRow at k0 k1 k2 k3 k4 k5 k6 k7 k8 k9
                          simp only [List.getElem?_cons_zero, List.getElem?_cons_succ, Nat.add_zero] at k0 k1 k2 k3 k4 k5 k6 k7 k8 k9
                          have hcall := fun (wx : World) (he : wx.heap.size = wr.heap.size) (hbx : Below wr.heap.size wr wx) => HI.out _ hmem (.mk zk za zf zn zks) S _ _ wx (hxy.under hbx fun q hq => Nat.lt_of_lt_of_le (HS.out q hq) SBr.out.bel.size) (hxy'.under hbx fun q hq => Nat.lt_of_lt_of_le (HS.out q hq) SBr.out.bel.size) (fun q hq => by rw [he]; exact Nat.lt_of_lt_of_le (HS.out q hq) SBr.out.bel.size)
                          unfold ndRow at hcall
                          clear hxy hxy' hmem hy hy'
                          generalize sameNd _ _ = q at hcall Hdr
                          have Hcall := Lib.hid hcall; clear hcall
                          have hj1 : (j : Int) < n := by omega
                          go_wp2
                          cases q
                          ·
                            go_region_held3 (fun w' => w'.cell? ⟨w.heap.size, 9, none⟩ = some (.slice (some ⟨b, o, none⟩) n c) ∧ w'.cell? ⟨w.heap.size + 1, 9, none⟩ = some (.slice (some ⟨b', o', none⟩) n d) ∧ w'.cell? ⟨b, o + j * 10, none⟩ = some (.int .i64 yk) ∧ w'.cell? ⟨b, o + j * 10 + 1, none⟩ = some (.string ⟨ya.nm.toArray⟩) ∧ w'.cell? ⟨b, o + j * 10 + 2, none⟩ = some (.int .i64 ya.op) ∧ w'.cell? ⟨b, o + j * 10 + 3, none⟩ = some (.int .i64 ya.ver) ∧ w'.cell? ⟨b, o + j * 10 + 4, none⟩ = some (.int .i64 ya.slot) ∧ w'.cell? ⟨b, o + j * 10 + 5, none⟩ = some (.string ⟨ya.fl.toArray⟩) ∧ w'.cell? ⟨b, o + j * 10 + 6, none⟩ = some (.bool ya.on) ∧ w'.cell? ⟨b, o + j * 10 + 7, none⟩ = some (.string ⟨yf.toArray⟩) ∧ w'.cell? ⟨b, o + j * 10 + 8, none⟩ = some (.bool yn) ∧ w'.cell? ⟨b, o + j * 10 + 9, none⟩ = some (.slice A' n' c') ∧ w'.cell? ⟨b', o' + j * 10, none⟩ = some (.int .i64 zk) ∧ w'.cell? ⟨b', o' + j * 10 + 1, none⟩ = some (.string ⟨za.nm.toArray⟩) ∧ w'.cell? ⟨b', o' + j * 10 + 2, none⟩ = some (.int .i64 za.op) ∧ w'.cell? ⟨b', o' + j * 10 + 3, none⟩ = some (.int .i64 za.ver) ∧ w'.cell? ⟨b', o' + j * 10 + 4, none⟩ = some (.int .i64 za.slot) ∧ w'.cell? ⟨b', o' + j * 10 + 5, none⟩ = some (.string ⟨za.fl.toArray⟩) ∧ w'.cell? ⟨b', o' + j * 10 + 6, none⟩ = some (.bool za.on) ∧ w'.cell? ⟨b', o' + j * 10 + 7, none⟩ = some (.string ⟨zf.toArray⟩) ∧ w'.cell? ⟨b', o' + j * 10 + 8, none⟩ = some (.bool zn) ∧ w'.cell? ⟨b', o' + j * 10 + 9, none⟩ = some (.slice A'' n'' c''))
                              (first | go_keep | exact ⟨t9, u9, g0, g1, g2, g3, g4, g5, g6, g7, g8, g9, k0, k1, k2, k3, k4, k5, k6, k7, k8, k9⟩)
                              (first
                                | (go_at_call 51
                                   refine (Hcall.out _ (by rfl) (below_drewN (Below.refl _ _) _)).mono ?_
                                   rintro e wn ⟨rfl, hb2⟩
                                   have SB2 := Lib.hid (SBr.out.move ((below_drewN (Below.refl _ _) 1).trans hb2))
                                   clear t9 u9
                                   replace g0 := (hb2.cell (p := ⟨b, _, none⟩) hlb).trans g0; replace g1 := (hb2.cell (p := ⟨b, _, none⟩) hlb).trans g1; replace g2 := (hb2.cell (p := ⟨b, _, none⟩) hlb).trans g2; replace g3 := (hb2.cell (p := ⟨b, _, none⟩) hlb).trans g3; replace g4 := (hb2.cell (p := ⟨b, _, none⟩) hlb).trans g4; replace g5 := (hb2.cell (p := ⟨b, _, none⟩) hlb).trans g5; replace g6 := (hb2.cell (p := ⟨b, _, none⟩) hlb).trans g6; replace g7 := (hb2.cell (p := ⟨b, _, none⟩) hlb).trans g7; replace g8 := (hb2.cell (p := ⟨b, _, none⟩) hlb).trans g8; replace g9 := (hb2.cell (p := ⟨b, _, none⟩) hlb).trans g9
                                   replace k0 := (hb2.cell (p := ⟨b', _, none⟩) hlb').trans k0; replace k1 := (hb2.cell (p := ⟨b', _, none⟩) hlb').trans k1; replace k2 := (hb2.cell (p := ⟨b', _, none⟩) hlb').trans k2; replace k3 := (hb2.cell (p := ⟨b', _, none⟩) hlb').trans k3; replace k4 := (hb2.cell (p := ⟨b', _, none⟩) hlb').trans k4; replace k5 := (hb2.cell (p := ⟨b', _, none⟩) hlb').trans k5; replace k6 := (hb2.cell (p := ⟨b', _, none⟩) hlb').trans k6; replace k7 := (hb2.cell (p := ⟨b', _, none⟩) hlb').trans k7; replace k8 := (hb2.cell (p := ⟨b', _, none⟩) hlb').trans k8; replace k9 := (hb2.cell (p := ⟨b', _, none⟩) hlb').trans k9
                                   clear hb2
                                   have t9 := SB2.out.a.cell 9
                                   have u9 := SB2.out.b.cell 9
                                   simp only [List.getElem?_cons_zero, List.getElem?_cons_succ] at t9 u9)
                                | fail)
                            go_wp2
                            go_ret
                            exact ⟨ret_bool (by rw [HE.out, Hcl.out, Hdr.out]; rfl), SB2.out.bel⟩
                          ·
                            go_region_held3 (fun w' => w'.cell? ⟨w.heap.size, 9, none⟩ = some (.slice (some ⟨b, o, none⟩) n c) ∧ w'.cell? ⟨w.heap.size + 1, 9, none⟩ = some (.slice (some ⟨b', o', none⟩) n d) ∧ w'.cell? ⟨b, o + j * 10, none⟩ = some (.int .i64 yk) ∧ w'.cell? ⟨b, o + j * 10 + 1, none⟩ = some (.string ⟨ya.nm.toArray⟩) ∧ w'.cell? ⟨b, o + j * 10 + 2, none⟩ = some (.int .i64 ya.op) ∧ w'.cell? ⟨b, o + j * 10 + 3, none⟩ = some (.int .i64 ya.ver) ∧ w'.cell? ⟨b, o + j * 10 + 4, none⟩ = some (.int .i64 ya.slot) ∧ w'.cell? ⟨b, o + j * 10 + 5, none⟩ = some (.string ⟨ya.fl.toArray⟩) ∧ w'.cell? ⟨b, o + j * 10 + 6, none⟩ = some (.bool ya.on) ∧ w'.cell? ⟨b, o + j * 10 + 7, none⟩ = some (.string ⟨yf.toArray⟩) ∧ w'.cell? ⟨b, o + j * 10 + 8, none⟩ = some (.bool yn) ∧ w'.cell? ⟨b, o + j * 10 + 9, none⟩ = some (.slice A' n' c') ∧ w'.cell? ⟨b', o' + j * 10, none⟩ = some (.int .i64 zk) ∧ w'.cell? ⟨b', o' + j * 10 + 1, none⟩ = some (.string ⟨za.nm.toArray⟩) ∧ w'.cell? ⟨b', o' + j * 10 + 2, none⟩ = some (.int .i64 za.op) ∧ w'.cell? ⟨b', o' + j * 10 + 3, none⟩ = some (.int .i64 za.ver) ∧ w'.cell? ⟨b', o' + j * 10 + 4, none⟩ = some (.int .i64 za.slot) ∧ w'.cell? ⟨b', o' + j * 10 + 5, none⟩ = some (.string ⟨za.fl.toArray⟩) ∧ w'.cell? ⟨b', o' + j * 10 + 6, none⟩ = some (.bool za.on) ∧ w'.cell? ⟨b', o' + j * 10 + 7, none⟩ = some (.string ⟨zf.toArray⟩) ∧ w'.cell? ⟨b', o' + j * 10 + 8, none⟩ = some (.bool zn) ∧ w'.cell? ⟨b', o' + j * 10 + 9, none⟩ = some (.slice A'' n'' c''))
                              (first | go_keep | exact ⟨t9, u9, g0, g1, g2, g3, g4, g5, g6, g7, g8, g9, k0, k1, k2, k3, k4, k5, k6, k7, k8, k9⟩)
                              (first
                                | (go_at_call 51
                                   refine (Hcall.out _ (by rfl) (below_drewN (Below.refl _ _) _)).mono ?_
                                   rintro e wn ⟨rfl, hb2⟩
                                   have SB2 := Lib.hid (SBr.out.move ((below_drewN (Below.refl _ _) 1).trans hb2))
                                   clear t9 u9
                                   replace g0 := (hb2.cell (p := ⟨b, _, none⟩) hlb).trans g0; replace g1 := (hb2.cell (p := ⟨b, _, none⟩) hlb).trans g1; replace g2 := (hb2.cell (p := ⟨b, _, none⟩) hlb).trans g2; replace g3 := (hb2.cell (p := ⟨b, _, none⟩) hlb).trans g3; replace g4 := (hb2.cell (p := ⟨b, _, none⟩) hlb).trans g4; replace g5 := (hb2.cell (p := ⟨b, _, none⟩) hlb).trans g5; replace g6 := (hb2.cell (p := ⟨b, _, none⟩) hlb).trans g6; replace g7 := (hb2.cell (p := ⟨b, _, none⟩) hlb).trans g7; replace g8 := (hb2.cell (p := ⟨b, _, none⟩) hlb).trans g8; replace g9 := (hb2.cell (p := ⟨b, _, none⟩) hlb).trans g9
                                   replace k0 := (hb2.cell (p := ⟨b', _, none⟩) hlb').trans k0; replace k1 := (hb2.cell (p := ⟨b', _, none⟩) hlb').trans k1; replace k2 := (hb2.cell (p := ⟨b', _, none⟩) hlb').trans k2; replace k3 := (hb2.cell (p := ⟨b', _, none⟩) hlb').trans k3; replace k4 := (hb2.cell (p := ⟨b', _, none⟩) hlb').trans k4; replace k5 := (hb2.cell (p := ⟨b', _, none⟩) hlb').trans k5; replace k6 := (hb2.cell (p := ⟨b', _, none⟩) hlb').trans k6; replace k7 := (hb2.cell (p := ⟨b', _, none⟩) hlb').trans k7; replace k8 := (hb2.cell (p := ⟨b', _, none⟩) hlb').trans k8; replace k9 := (hb2.cell (p := ⟨b', _, none⟩) hlb').trans k9
                                   clear hb2
                                   have t9 := SB2.out.a.cell 9
                                   have u9 := SB2.out.b.cell 9
                                   simp only [List.getElem?_cons_zero, List.getElem?_cons_succ] at t9 u9)
                                | fail)
                            go_wp2
                            go_roundg (gk - 1)
                            case measure => have := Hj.out; omega
                            case rel => exact ⟨j + 1, Lib.hid (by have := Hj.out; omega), by go_num, Lib.hid (by rw [Hcl.out, Hdr.out, Bool.true_and]), SB2⟩
                        · obtain rfl : n = j := by have := Hj.out; omega
                          go_wp2
                          go_ret
                          exact ⟨ret_bool (by rw [HE.out, Hcl.out, List.drop_of_length_le (by omega), List.drop_of_length_le (by omega)]; rfl), SBr.out.bel⟩
                    · have HE2 : Hid (R = false) := Lib.hid (by rw [HE.out]; exact sameL_len (by omega))
                      have c9' : ((n : Int) != (m : Int)) = true := by simp; omega
                      clear HE
                      have HE := HE2
                      go_enter Tryz.func51, Tryz.ntmps51
                      go_wp2
                      go_ret
                      exact ⟨ret_bool HE.out.symm, HB.out⟩
                  · have HE : Hid (R = false) := Lib.hid (by rw [HC.out]; simp [c8])
                    have c8' : (no != no') = true := by simpa using c8
                    go_enter Tryz.func51, Tryz.ntmps51
                    go_wp2
                    go_ret
                    exact ⟨ret_bool HE.out.symm, HB.out⟩
                · have HE : Hid (R = false) := Lib.hid (by rw [HC.out]; simp [c7])
                  go_enter Tryz.func51, Tryz.ntmps51
                  go_wp2
                  go_ret
                  exact ⟨ret_bool HE.out.symm, HB.out⟩
              · have HE : Hid (R = false) := Lib.hid (by rw [HC.out]; simp [c6])
                have c6' : (on == on') = false := by simpa using c6
                go_enter Tryz.func51, Tryz.ntmps51
                go_wp2
                go_ret
                exact ⟨ret_bool HE.out.symm, HB.out⟩
            · have HE : Hid (R = false) := Lib.hid (by rw [HC.out]; simp [c5])
              go_enter Tryz.func51, Tryz.ntmps51
              go_wp2
              go_ret
              exact ⟨ret_bool HE.out.symm, HB.out⟩
          · have HE : Hid (R = false) := Lib.hid (by rw [HC.out]; simp [c4])
            go_enter Tryz.func51, Tryz.ntmps51
            go_wp2
            go_ret
            exact ⟨ret_bool HE.out.symm, HB.out⟩
        · have HE : Hid (R = false) := Lib.hid (by rw [HC.out]; simp [c3])
          go_enter Tryz.func51, Tryz.ntmps51
          go_wp2
          go_ret
          exact ⟨ret_bool HE.out.symm, HB.out⟩
      · have HE : Hid (R = false) := Lib.hid (by rw [HC.out]; simp [c2])
        go_enter Tryz.func51, Tryz.ntmps51
        go_wp2
        go_ret
        exact ⟨ret_bool HE.out.symm, HB.out⟩
    · have HE : Hid (R = false) := Lib.hid (by rw [HC.out]; simp [c1])
      go_enter Tryz.func51, Tryz.ntmps51
      go_wp2
      go_ret
      exact ⟨ret_bool HE.out.symm, HB.out⟩
  · have HE : Hid (R = false) := Lib.hid (by rw [HC.out]; simp [c0])
    go_enter Tryz.func51, Tryz.ntmps51
    go_wp2
    go_ret
    exact ⟨ret_bool HE.out.symm, HB.out⟩
end Go.Proofs.YthpkffeiehnamaaGreatDoor

/- slices.Equal of words. -/
namespace Go.Proofs.YthpkffeiehnamaaGreatDoor
open Go.RowKit Qm

def EqS (a b : List Qm.W) (w : World) (e : Ending) (w' : World) : Prop := e = .returned (.bool (decide (a = b))) ∧ ∃ q, w' = w.drewN q
theorem equalS_any (A B : Option Addr) (n c m d : Nat) (xs ys : List Qm.W) (w : World) (S T : Nat → Prop) (hx : Row w S A n (strs xs)) (hy : Row w T B m (strs ys)) (hn : n ≤ maxLen) (hm : m ≤ maxLen) :
    Calls Tryz.prog 50 #[.slice A n c, .slice B m d] w (EqS xs ys w) := by
  have hxl : xs.length = n := by have := hx.len; simpa [strs] using this
  have hyl : ys.length = m := by have := hy.len; simpa [strs] using this
  unfold maxLen at hn hm
  by_cases hnm : n = m
  · subst hnm
    by_cases h0 : n = 0
    · subst h0
      obtain rfl := List.eq_nil_of_length_eq_zero hxl
      obtain rfl := List.eq_nil_of_length_eq_zero hyl
      exact (Tryz.slices_Equal_string_empty A B c 0 d w (by omega)).mono fun e w' ⟨he, hw⟩ => ⟨by simpa using he, 0, hw⟩
    · obtain ⟨b, o, rfl, _⟩ := hx.some_lit (by omega)
      obtain ⟨b', o', rfl, _⟩ := hy.some_lit (by omega)
      have h := Tryz.slices_Equal_string b o n c b' o' n d (bas xs) (bas ys) w (by simp [bas, hxl]) (by simp [bas, hyl]) (by omega) (by omega) (strs_cell (by rw [hxl]; exact hx)) (strs_cell (by rw [hyl]; exact hy))
      refine h.mono fun e w' ⟨he, hw⟩ => ⟨?_, hw⟩
      rw [he, List.take_of_length_le (by simp [bas, hxl]), List.take_of_length_le (by simp [bas, hyl])]
      congr 2
      exact decide_eq_decide.2 bas_inj
  · refine (Tryz.slices_Equal_string_lens A B n c m d w hnm).mono fun e w' ⟨he, hw⟩ => ⟨?_, 0, hw⟩
    rw [he, decide_eq_false (fun h => hnm (by rw [← hxl, ← hyl, h]))]

end Go.Proofs.YthpkffeiehnamaaGreatDoor

/- quartermasterref.SameTree, walked. -/
namespace Go.Proofs.YthpkffeiehnamaaGreatDoor
open Go.RowKit Qm

def samePk (p q : Pk) : Bool := decide (p.nm = q.nm) && (decide (p.ver = q.ver) && (decide (p.slot = q.slot) && (decide (p.fs = q.fs) && sameNd p.nd q.nd)))
theorem samePk_iff {p q : Pk} : samePk p q = true ↔ p = q := by
  obtain ⟨a, b, c, d, e⟩ := p
  obtain ⟨a', b', c', d', e'⟩ := q
  unfold samePk
  simp only [Bool.and_eq_true, decide_eq_true_eq, same_iff, Pk.mk.injEq]
theorem RPk.open_ {w : World} {S : Nat → Prop} {x : List Value} {p : Pk} (h : RPk w S x p) : ∃ A n c k a f no D q d, x = pkRow p A n c (ndRow k a f no D q d) ∧ PkAt w S p A n c (ndRow k a f no D q d) := by
  obtain ⟨A, n, c, y, rfl, h⟩ := h
  have hnd := h.nd
  obtain ⟨nm, ver, slot, fs, ⟨k, a, f, no, ks⟩⟩ := p
  obtain ⟨D, q, d, rfl, -⟩ := hnd.open_
  exact ⟨A, n, c, k, a, f, no, D, q, d, rfl, h⟩
/-- Two boxes of packages. -/
structure Kb (w : World) (x1 x2 : List Value) (wx : World) : Prop where
  a : Whole wx w.heap.size 59 x1
  b : Whole wx (w.heap.size + 1) 59 x2
  bel : Below w.heap.size w wx
theorem Kb.move {w wx wy : World} {x1 x2 : List Value} (h : Kb w x1 x2 wx) (hb : Below wx.heap.size wx wy) : Kb w x1 x2 wy := ⟨h.a.below hb h.a.lt, h.b.below hb h.b.lt, h.bel.trans (hb.mono h.bel.size)⟩
theorem Kb.new (w : World) (x1 x2 : List Value) : Kb w x1 x2 ((w.alloc (.cells x1.toArray 59)).alloc (.cells x2.toArray 59)) :=
  ⟨(Whole.new w _ _ x1 rfl).alloc _, Whole.new (w.alloc (.cells x1.toArray 59)) (w.heap.size + 1) _ x2 (by simp), ((Below.refl _ w).alloc (Nat.le_refl _) _).alloc (by simp) _⟩
set_option maxRecDepth 100000 in
set_option maxHeartbeats 3200000 in
theorem samePk_any (p q : Pk) (S : Nat → Prop) (cx cy : List Value) (w : World) (hx : RPk w S cx p) (hy : RPk w S cy q) (hS : ∀ k, S k → k < w.heap.size) :
    Calls Tryz.prog 49 #[.agg cx.toArray, .agg cy.toArray] w fun e w' => e = .returned (.bool (samePk p q)) ∧ Below w.heap.size w w' := by
  obtain ⟨A, n, c, k, a, f, no, D, r, d, rfl, hp⟩ := hx.open_
  obtain ⟨B, m, c', k', a', f', no', D', r', d', rfl, hq⟩ := hy.open_
  have KB := Lib.hid (Kb.new w (pkRow p A n c (ndRow k a f no D r d)) (pkRow q B m c' (ndRow k' a' f' no' D' r' d')))
  have Heq := Lib.hid (fun wx (hb : Below w.heap.size w wx) => equalS_any A B n c m c' p.fs q.fs wx S S (hp.fs.row.below hb hS) (hq.fs.row.below hb hS) (Nat.le_trans hp.cap hp.max) (Nat.le_trans hq.cap hq.max))
  unfold EqS at Heq
  have Hsm := Lib.hid (fun wx (hb : Below w.heap.size w wx) => rsame_any p.nd q.nd S _ _ wx (hp.nd.under hb hS) (hq.nd.under hb hS) (fun x hx => Nat.lt_of_lt_of_le (hS x hx) hb.size))
  have HC : Hid (samePk p q = (decide (p.nm = q.nm) && (decide (p.ver = q.ver) && (decide (p.slot = q.slot) && (decide (p.fs = q.fs) && sameNd p.nd q.nd))))) := Lib.hid rfl
  generalize samePk p q = R at HC ⊢
  generalize sameNd p.nd q.nd = q2 at Hsm HC
  generalize decide (p.fs = q.fs) = q1 at Heq HC
  clear hx hy hp hq hS
  obtain ⟨nm, ver, slot, fs, nd⟩ := p
  obtain ⟨nm', ver', slot', fs', nd'⟩ := q
  unfold pkRow ndRow at KB ⊢
  unfold ndRow at Hsm
  dsimp only at KB Hsm Heq HC ⊢
  by_cases c0 : nm = nm'
  · subst c0
    by_cases c1 : ver = ver'
    · subst c1
      by_cases c2 : slot = slot'
      · subst c2
        cases q1
        · have HE : Hid (R = false) := Lib.hid (by rw [HC.out]; simp)
          go_enter Tryz.func49, Tryz.ntmps49
          go_wp2_with (first | (go_at_call 50; refine (Heq.out _ KB.out.bel).mono ?_; rintro e w3 ⟨rfl, g3, rfl⟩; refine Hid.out ?_))
          refine Lib.hid ?_
          go_wp2
          go_ret
          exact ⟨ret_bool HE.out.symm, below_drewN KB.out.bel _⟩
        · have HE : Hid (R = q2) := Lib.hid (by rw [HC.out]; simp)
          go_enter Tryz.func49, Tryz.ntmps49
          go_wp2_with (first | (go_at_call 50; refine (Heq.out _ KB.out.bel).mono ?_; rintro e w3 ⟨rfl, g3, rfl⟩; refine Hid.out ?_))
          refine Lib.hid ?_
          have KB3 := Lib.hid (KB.out.move (below_drewN (Below.refl _ _) g3))
          generalize World.drewN _ g3 = w3 at KB3 ⊢
          have d0 := KB3.out.a.cell 0; have d1 := KB3.out.a.cell 1; have d2 := KB3.out.a.cell 2; have d3 := KB3.out.a.cell 3; have d4 := KB3.out.a.cell 4; have d5 := KB3.out.a.cell 5; have d6 := KB3.out.a.cell 6; have d7 := KB3.out.a.cell 7; have d8 := KB3.out.a.cell 8; have d9 := KB3.out.a.cell 9; have d10 := KB3.out.a.cell 10; have d11 := KB3.out.a.cell 11; have d12 := KB3.out.a.cell 12; have d13 := KB3.out.a.cell 13
          simp only [List.getElem?_cons_zero, List.getElem?_cons_succ] at d0 d1 d2 d3 d4 d5 d6 d7 d8 d9 d10 d11 d12 d13
          have e0 := KB3.out.b.cell 0; have e1 := KB3.out.b.cell 1; have e2 := KB3.out.b.cell 2; have e3 := KB3.out.b.cell 3; have e4 := KB3.out.b.cell 4; have e5 := KB3.out.b.cell 5; have e6 := KB3.out.b.cell 6; have e7 := KB3.out.b.cell 7; have e8 := KB3.out.b.cell 8; have e9 := KB3.out.b.cell 9; have e10 := KB3.out.b.cell 10; have e11 := KB3.out.b.cell 11; have e12 := KB3.out.b.cell 12; have e13 := KB3.out.b.cell 13
          simp only [List.getElem?_cons_zero, List.getElem?_cons_succ] at e0 e1 e2 e3 e4 e5 e6 e7 e8 e9 e10 e11 e12 e13
          go_wp2_with (first | (go_at_call 51; refine (Hsm.out _ KB3.out.bel).mono ?_; rintro e w4 ⟨rfl, hb4⟩; refine Hid.out ?_))
          refine Lib.hid ?_
          have KB4 := Lib.hid (KB3.out.move hb4)
          clear hb4 d0 d1 d2 d3 d4 d5 d6 d7 d8 d9 d10 d11 d12 d13 e0 e1 e2 e3 e4 e5 e6 e7 e8 e9 e10 e11 e12 e13
          go_wp2
          go_ret
          exact ⟨ret_bool HE.out.symm, KB4.out.bel⟩
      · have HE : Hid (R = false) := Lib.hid (by rw [HC.out]; simp [c2])
        go_enter Tryz.func49, Tryz.ntmps49
        go_wp2
        go_ret
        exact ⟨ret_bool HE.out.symm, KB.out.bel⟩
    · have HE : Hid (R = false) := Lib.hid (by rw [HC.out]; simp [c1])
      go_enter Tryz.func49, Tryz.ntmps49
      go_wp2
      go_ret
      exact ⟨ret_bool HE.out.symm, KB.out.bel⟩
  · have HE : Hid (R = false) := Lib.hid (by rw [HC.out]; simp [c0])
    go_enter Tryz.func49, Tryz.ntmps49
    go_wp2
    go_ret
    exact ⟨ret_bool HE.out.symm, KB.out.bel⟩
end Go.Proofs.YthpkffeiehnamaaGreatDoor

/- Lists held against each other, element by element. -/
namespace Go.Proofs.YthpkffeiehnamaaGreatDoor
open Go.RowKit Qm
def eqL {α : Type} (sm : α → α → Bool) : List α → List α → Bool
  | [], [] => true
  | x :: r, y :: s => sm x y && eqL sm r s
  | _, _ => false
theorem eqL_iff {α : Type} {sm : α → α → Bool} (h : ∀ x y, sm x y = true ↔ x = y) : ∀ {xs ys : List α}, eqL sm xs ys = true ↔ xs = ys
  | [], [] => by simp [eqL]
  | [], _ :: _ => by simp [eqL]
  | _ :: _, [] => by simp [eqL]
  | x :: r, y :: s => by simp only [eqL, Bool.and_eq_true, h, eqL_iff h, List.cons.injEq]
theorem eqL_len {α : Type} {sm : α → α → Bool} : ∀ {xs ys : List α}, xs.length ≠ ys.length → eqL sm xs ys = false
  | [], [], h => absurd rfl h
  | [], _ :: _, _ => rfl
  | _ :: _, [], _ => rfl
  | x :: r, y :: s, h => by
    simp only [eqL]
    rw [eqL_len (by simpa using h), Bool.and_false]
theorem eqL_step {α : Type} {sm : α → α → Bool} {xs ys : List α} {j : Nat} {x y : α} (hx : xs[j]? = some x) (hy : ys[j]? = some y) : eqL sm (xs.drop j) (ys.drop j) = (sm x y && eqL sm (xs.drop (j + 1)) (ys.drop (j + 1))) := by
  obtain ⟨h1, rfl⟩ := List.getElem?_eq_some_iff.1 hx
  obtain ⟨h2, rfl⟩ := List.getElem?_eq_some_iff.1 hy
  rw [List.drop_eq_getElem_cons h1, List.drop_eq_getElem_cons h2]
  rfl
/-- A function value that answers, of two elements, whether they are alike. -/
def AsksEq {α : Type} (P : Program) (w : World) (F : FuncId) (R : List Value → α → Prop) (sm : α → α → Bool) : Prop :=
  (∀ (args : Array Value) (W : World), (callFunc F args).run P W = .ok (.enter F args) W) ∧
    ∀ (x y : α) (cx cy : List Value) (W : World), Below w.heap.size w W → R cx x → R cy y → Calls P F #[.agg cx.toArray, .agg cy.toArray] W fun e w' => e = .returned (.bool (sm x y)) ∧ Below W.heap.size W w'
end Go.Proofs.YthpkffeiehnamaaGreatDoor

/- slices.EqualFunc of slices whose elements have 14 cells. (Printed by wip/bin/mkeqf.py.) -/
namespace Go.Proofs.YthpkffeiehnamaaGreatDoor
open Go.RowKit Qm

def Shape_P (x : List Value) : Prop := ∃ (x0 : ByteArray) (x1 : Int) (x2 : Int) (x3a : Option Addr) (x3n x3c : Nat) (x4 : Int) (x5 : ByteArray) (x6 : Int) (x7 : Int) (x8 : Int) (x9 : ByteArray) (x10 : Bool) (x11 : ByteArray) (x12 : Bool) (x13a : Option Addr) (x13n x13c : Nat), x = [.string x0, .int .i64 x1, .int .i64 x2, .slice x3a x3n x3c, .int .i64 x4, .string x5, .int .i64 x6, .int .i64 x7, .int .i64 x8, .string x9, .bool x10, .string x11, .bool x12, .slice x13a x13n x13c]
set_option maxRecDepth 100000 in
set_option maxHeartbeats 3200000 in
theorem equalF_P {α : Type} (R : List Value → α → Prop) (sm : α → α → Bool) (A B : Option Addr) (n c m d : Nat) (xs ys : List α) (F : FuncId) (w : World) (S : Nat → Prop) (hK : RSeq 14 R w S A n xs) (hL : RSeq 14 R w S B m ys) (hS : ∀ k, S k → k < w.heap.size) (hn : n ≤ maxLen) (hm : m ≤ maxLen) (hF : AsksEq Tryz.prog w F R sm) (hsh : ∀ x y, R x y → Shape_P x) :
    Calls Tryz.prog 48 #[.slice A n c, .slice B m d, .func (.func F) #[] #[]] w fun e w' => e = .returned (.bool (eqL sm xs ys)) ∧ Below w.heap.size w w' := by
  unfold maxLen at hn hm
  have HK := Lib.hid hK; have HL := Lib.hid hL; have HS := Lib.hid hS; have HF := Lib.hid hF; clear hK hL hS hF
  by_cases hnm : n = m
  · subst hnm
    go_enter Tryz.func48, Tryz.ntmps48
    go_wp2
    go_loopg [17] n (fun g iv wr => ∃ (j : Nat), Hid (j + g = n) ∧ iv = .int .i64 j ∧ Hid (eqL sm xs ys = eqL sm (xs.drop j) (ys.drop j)) ∧ Below w.heap.size w wr)
    case atStart => exact ⟨0, Lib.hid (Nat.zero_add _), rfl, Lib.hid rfl, Below.refl _ _⟩
    case round =>
      obtain ⟨j, Hj, rfl, Hcl, hb⟩ := hrel
      have HBr := Lib.hid hb; clear hb
      by_cases hj : j < n
      · obtain ⟨b, o, x, y, rfl, hb, hy, hxy, hxl, hcell⟩ := (HK.out.keep (w' := wr) (fun p hp => HBr.out.cell (HS.out _ hp)) fun _ _ h => h).at_ hj (by decide)
        obtain ⟨b', o', x', y', rfl, hb', hy', hxy', hxl', hcell'⟩ := (HL.out.keep (w' := wr) (fun p hp => HBr.out.cell (HS.out _ hp)) fun _ _ h => h).at_ hj (by decide)
        have Hdr : Hid (eqL sm (xs.drop j) (ys.drop j) = (sm y y' && eqL sm (xs.drop (j + 1)) (ys.drop (j + 1)))) := Lib.hid (eqL_step hy hy')
        have hlt : b' < wr.heap.size := Nat.lt_of_lt_of_le (HS.out _ hb') HBr.out.size
        obtain ⟨x0, x1, x2, x3a, x3n, x3c, x4, x5, x6, x7, x8, x9, x10, x11, x12, x13a, x13n, x13c, rfl⟩ := hsh _ _ hxy
        obtain ⟨y0, y1, y2, y3a, y3n, y3c, y4, y5, y6, y7, y8, y9, y10, y11, y12, y13a, y13n, y13c, rfl⟩ := hsh _ _ hxy'
        have g0 := hcell 0 (by omega); have g1 := hcell 1 (by omega); have g2 := hcell 2 (by omega); have g3 := hcell 3 (by omega); have g4 := hcell 4 (by omega); have g5 := hcell 5 (by omega); have g6 := hcell 6 (by omega); have g7 := hcell 7 (by omega); have g8 := hcell 8 (by omega); have g9 := hcell 9 (by omega); have g10 := hcell 10 (by omega); have g11 := hcell 11 (by omega); have g12 := hcell 12 (by omega); have g13 := hcell 13 (by omega)
        have k0 := hcell' 0 (by omega); have k1 := hcell' 1 (by omega); have k2 := hcell' 2 (by omega); have k3 := hcell' 3 (by omega); have k4 := hcell' 4 (by omega); have k5 := hcell' 5 (by omega); have k6 := hcell' 6 (by omega); have k7 := hcell' 7 (by omega); have k8 := hcell' 8 (by omega); have k9 := hcell' 9 (by omega); have k10 := hcell' 10 (by omega); have k11 := hcell' 11 (by omega); have k12 := hcell' 12 (by omega); have k13 := hcell' 13 (by omega)
        simp only [List.getElem?_cons_zero, List.getElem?_cons_succ, Nat.add_zero] at g0 g1 g2 g3 g4 g5 g6 g7 g8 g9 g10 g11 g12 g13 k0 k1 k2 k3 k4 k5 k6 k7 k8 k9 k10 k11 k12 k13
        clear hcell hcell' hy hy'
        have hW1 : Below wr.heap.size wr ((wr.alloc (.cells #[.string x0, .int .i64 x1, .int .i64 x2, .slice x3a x3n x3c, .int .i64 x4, .string x5, .int .i64 x6, .int .i64 x7, .int .i64 x8, .string x9, .bool x10, .string x11, .bool x12, .slice x13a x13n x13c] 59)).alloc (.cells #[.string y0, .int .i64 y1, .int .i64 y2, .slice y3a y3n y3c, .int .i64 y4, .string y5, .int .i64 y6, .int .i64 y7, .int .i64 y8, .string y9, .bool y10, .string y11, .bool y12, .slice y13a y13n y13c] 59)) := ((Below.refl _ wr).alloc (Nat.le_refl _) _).alloc (by simp) _
        have hcall := HF.out.2 _ _ _ _ _ (HBr.out.trans (hW1.mono HBr.out.size)) hxy hxy'
        have henter := HF.out.1
        have HB2 := Lib.hid (HBr.out.trans (hW1.mono HBr.out.size))
        clear hW1 hxy hxy' hxl hxl'
        generalize sm y y' = q at hcall Hdr
        have Hcall := Lib.hid hcall; clear hcall
        cases q
        · go_wp2_with fail
          refine Hcall.out.mono ?_
          rintro e w' ⟨rfl, hb'⟩
          have HB3 := Lib.hid (HB2.out.trans (hb'.mono HB2.out.size)); clear hb'
          go_wp2_with fail
          go_ret
          exact ⟨ret_bool (by rw [Hcl.out, Hdr.out]; rfl), HB3.out⟩
        · go_wp2_with fail
          refine Hcall.out.mono ?_
          rintro e w' ⟨rfl, hb'⟩
          have HB3 := Lib.hid (HB2.out.trans (hb'.mono HB2.out.size)); clear hb'
          go_wp2_with fail
          go_roundg (gk - 1)
          case measure => have := Hj.out; omega
          case rel => exact ⟨j + 1, Lib.hid (by have := Hj.out; omega), by go_num, Lib.hid (by rw [Hcl.out, Hdr.out, Bool.true_and]), HB3.out⟩
      · go_wp2_with fail
        go_ret
        refine ⟨ret_bool ?_, HBr.out⟩
        rw [Hcl.out, List.drop_of_length_le (by have := HK.out.len; omega), List.drop_of_length_le (by have := HL.out.len; omega)]; rfl
  · have e1 : ((n : Int) != (m : Int)) = true := by simp; omega
    have e2 : ((n : Int) == (m : Int)) = false := by simp; omega
    have HE : Hid (eqL sm xs ys = false) := Lib.hid (eqL_len (by have := HK.out.len; have := HL.out.len; omega))
    go_enter Tryz.func48, Tryz.ntmps48
    go_wp2
    go_ret
    exact ⟨ret_bool HE.out.symm, Below.refl _ _⟩
end Go.Proofs.YthpkffeiehnamaaGreatDoor

/- quartermasterref.SameTree, walked. -/
namespace Go.Proofs.YthpkffeiehnamaaGreatDoor
open Go.RowKit Qm
set_option maxHeartbeats 3200000 in
theorem rsameTree_any (ps qs : List Pk) (S : Nat → Prop) (A B : Option Addr) (n c m d : Nat) (w : World) (hT : RTree w S A n ps) (hU : RTree w S B m qs) (hS : ∀ k, S k → k < w.heap.size) (hn : n ≤ maxLen) (hm : m ≤ maxLen) :
    Calls Tryz.prog 18 #[.agg #[.slice A n c], .agg #[.slice B m d]] w fun e w' => e = .returned (.bool (eqL samePk ps qs)) ∧ Below w.heap.size w w' := by
  have hbx : Below w.heap.size w ((w.alloc (.cells #[.slice A n c] 24)).alloc (.cells #[.slice B m d] 24)) := ((Below.refl _ w).alloc (Nat.le_refl _) _).alloc (by simp) _
  have hq := equalF_P (RPk w S) samePk A B n c m d ps qs 49 _ S (RSeq.keep hT (fun p hp => hbx.cell (hS _ hp)) fun _ _ h => h) (RSeq.keep hU (fun p hp => hbx.cell (hS _ hp)) fun _ _ h => h) (fun k hk => Nat.lt_of_lt_of_le (hS k hk) hbx.size) hn hm
    ⟨fun args W => by kernel_rfl, fun x y cx cy W hb hx hy => samePk_any x y S cx cy W (hx.under ((hbx.trans (hb.mono hbx.size))) hS) (hy.under (hbx.trans (hb.mono hbx.size)) hS) (fun k hk => Nat.lt_of_lt_of_le (hS k hk) (Nat.le_trans hbx.size hb.size))⟩
    (fun x y h => by obtain ⟨A, n, c, k, a, f, no, D, q, d, rfl, _⟩ := h.open_; exact ⟨_, _, _, _, _, _, _, _, _, _, _, _, _, _, _, _, _, _, rfl⟩)
  generalize eqL samePk ps qs = q at hq ⊢
  have Hq := Lib.hid hq
  have HB := Lib.hid hbx
  clear hq hbx hT hU hS
  go_enter Tryz.func18, Tryz.ntmps18
  go_wp2_with (first | (go_at_call 48; refine Hq.out.mono ?_; rintro e w3 ⟨rfl, hb3⟩; refine Hid.out ?_))
  refine Lib.hid ?_
  have HB3 := Lib.hid (HB.out.trans (hb3.mono HB.out.size))
  clear hb3
  go_wp2
  go_ret
  exact ⟨rfl, HB3.out⟩
end Go.Proofs.YthpkffeiehnamaaGreatDoor

/- TreeBack, walked: it returns true. -/
namespace Go.Proofs.YthpkffeiehnamaaGreatDoor
open Go.RowKit Qm

end Go.Proofs.YthpkffeiehnamaaGreatDoor

/- quartermasterref.ReadTree in plain words: it reads as parseTree does. -/
namespace Qm
open Go

def readT : Nat → List W → Except (Nat × Int) (List Pk)
  | _, [] => .ok []
  | i, l :: r => if r = [] then (if l = [] then .ok [] else .error (i, 1)) else match parseLine l with
    | .error e => .error (i, e)
    | .ok p => match readT (i + 1) r with
      | .error e => .error e
      | .ok ps => .ok (p :: ps)
theorem readT_eq : ∀ (f i : Nat) (s : W), s.length < f → readT i (splitB 10 s) = parseLines f i s
  | 0, _, _, h => by omega
  | f + 1, i, s, h => by
    unfold parseLines
    by_cases hs : s = []
    · subst hs; rfl
    rw [if_neg hs, splitB_cut]
    cases hc : cutAt (· == 10) s with
    | none => simp [readT, hs]
    | some q =>
      obtain ⟨l, x, rest⟩ := q
      obtain ⟨e, _, _⟩ := of_cutAt_some hc
      have ih := readT_eq f (i + 1) rest (by rw [e] at h; simp at h; omega)
      have hne : splitB 10 rest ≠ [] := by unfold splitB; exact splitGo_ne
      simp only [readT]
      rw [if_neg hne, ih]
      rcases parseLine l with e1 | p
      · rfl
      · rcases parseLines f (i + 1) rest with e2 | ps <;> rfl
def preT (ps : List Pk) : Except (Nat × Int) (List Pk) → Except (Nat × Int) (List Pk)
  | .error e => .error e
  | .ok qs => .ok (ps ++ qs)
def toldT : Except (Nat × Int) (List Pk) → List Pk × Nat × Int
  | .error (i, e) => ([], i, e)
  | .ok ps => if ckTree ps = 0 then (ps, 0, 0) else ([], 0, ckTree ps)
theorem toldT_parse {s : W} (h : s.length ≤ 20000) : toldT (preT [] (readT 0 (splitB 10 s))) = parseTree s := by
  unfold parseTree
  rw [if_neg (by omega), readT_eq (s.length + 1) 0 s (by omega)]
  rcases parseLines (s.length + 1) 0 s with ⟨i, e⟩ | ps <;> rfl
theorem preT_step {ps : List Pk} {i : Nat} {l : W} {r : List W} {p : Pk} (hr : r ≠ []) (hp : parseLine l = .ok p) : preT ps (readT i (l :: r)) = preT (ps ++ [p]) (readT (i + 1) r) := by
  simp only [readT]
  rw [if_neg hr, hp]
  simp only []
  rcases readT (i + 1) r with e | qs
  · rfl
  · simp [preT]
theorem preT_bad {ps : List Pk} {i : Nat} {l : W} {r : List W} {e : Int} (hr : r ≠ []) (hp : parseLine l = .error e) : preT ps (readT i (l :: r)) = .error (i, e) := by
  simp only [readT]
  rw [if_neg hr, hp]; rfl
theorem preT_last {ps : List Pk} {i : Nat} {l : W} : preT ps (readT i [l]) = if l = [] then .ok ps else .error (i, 1) := by
  by_cases h : l = []
  · simp [readT, preT, h]
  · simp [readT, preT, h]
end Qm
namespace Qm
/-- Word after word, k of them. -/
def cutK : Nat → List W → W → Option (List W × W)
  | 0, cs, r => some (cs, r)
  | k + 1, cs, r => match cutAt (· == 32) r with
    | none => none
    | some (a, _, r') => cutK k (cs ++ [a]) r'
theorem cutK4 (l : W) : cutK 4 [] l = match cut4 l with
    | none => none
    | some (a, b, c, d, e) => some ([a, b, c, d], e) := by
  simp only [cutK, cut4]
  rcases cutAt (· == 32) l with _ | ⟨a, x, l1⟩
  · rfl
  simp only []
  rcases cutAt (· == 32) l1 with _ | ⟨b, x2, l2⟩
  · rfl
  simp only []
  rcases cutAt (· == 32) l2 with _ | ⟨c, x3, l3⟩
  · rfl
  simp only []
  rcases cutAt (· == 32) l3 with _ | ⟨d, x4, l4⟩
  · rfl
  rfl
theorem cutK_none {k : Nat} {cs : List W} {r : W} (h : cutAt (· == 32) r = none) : cutK (k + 1) cs r = none := by simp only [cutK]; rw [h]
theorem cutK_some {k : Nat} {cs : List W} {r a r' : W} {x : UInt8} (h : cutAt (· == 32) r = some (a, x, r')) : cutK (k + 1) cs r = cutK k (cs ++ [a]) r' := by simp only [cutK]; rw [h]
end Qm
