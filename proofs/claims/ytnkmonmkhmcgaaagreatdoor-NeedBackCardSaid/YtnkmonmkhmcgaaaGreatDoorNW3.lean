/- need.Check, need.Same, walked. -/
import Derived.Test.YtnkmonmkhmcgaaaGreatDoorNW2
namespace Go.Proofs.YtnkmonmkhmcgaaaGreatDoor
open Go.RowKit Qm

set_option maxHeartbeats 1600000 in
theorem nCheck_any (y : Nd) (S : Nat → Prop) (x : List Value) (w : World) (hR : RNd w S x y) (hS : ∀ k, S k → k < w.heap.size) :
    Calls Tryz.prog 11 #[.agg x.toArray] w fun e w' => e = .returned (.int .i64 (ckNeed y)) ∧ Below w.heap.size w w' := by
  obtain ⟨k, a, f, no, ks⟩ := y
  obtain ⟨A, n, c, rfl, -⟩ := hR.open_
  have HB := Lib.hid ((Below.refl _ w).alloc (Nat.le_refl _) (.cells (ndRow k a f no A n c).toArray 26))
  have HW := Lib.hid (Whole.new w _ 26 (ndRow k a f no A n c) rfl)
  have hR1 := hR.under HB.out hS
  have hc1 := fun wx hw => count_any (.mk k a f no ks) S (ndRow k a f no A n c) 1 20 wx hw
  have hc2 := fun wx hw => ncheck_any (.mk k a f no ks) S (ndRow k a f no A n c) wx hw
  have HM := Lib.hid (cnt_many (.mk k a f no ks))
  have HK : Hid (ckNeed (.mk k a f no ks) = if tooMany (.mk k a f no ks) then 2 else ckNd (.mk k a f no ks)) := Lib.hid rfl
  generalize ckNeed (.mk k a f no ks) = R at HK ⊢
  generalize hq : cnt (.mk k a f no ks) 1 20 = q at hc1 HM
  generalize ckNd (.mk k a f no ks) = z at hc2 HK
  clear hq
  have HR := Lib.hid hR1; have HS := Lib.hid hS; clear hR hR1 hS
  unfold ndRow at hc1 hc2 HW HB HR ⊢
  have Hc1 := Lib.hid hc1; have Hc2 := Lib.hid hc2; clear hc1 hc2
  rcases q with _ | q
  · have HE : Hid (R = 2) := Lib.hid (by rw [HK.out, if_pos (HM.out.2 rfl)])
    go_enter Tryz.func11, Tryz.ntmps11
    go_wp2_with (first | (go_at_call 29; refine (Hc1.out _ HR.out (fun k hk => Nat.lt_of_lt_of_le (HS.out k hk) HB.out.size) (by decide) (by decide) (by decide) (by decide)).mono ?_; unfold cntV; rintro e w1 ⟨rfl, hb1⟩; refine Hid.out ?_))
    refine Lib.hid ?_
    have HB1 := Lib.hid (HB.out.trans (hb1.mono HB.out.size)); clear hb1
    go_wp2
    go_ret
    exact ⟨ret_int HE.out.symm, HB1.out⟩
  · have hM := HM.out.1 q rfl
    by_cases h20 : 20 < q
    · have HE : Hid (R = 2) := Lib.hid (by rw [HK.out, if_pos (hM.1 h20)])
      clear hM
      go_enter Tryz.func11, Tryz.ntmps11
      go_wp2_with (first | (go_at_call 29; refine (Hc1.out _ HR.out (fun k hk => Nat.lt_of_lt_of_le (HS.out k hk) HB.out.size) (by decide) (by decide) (by decide) (by decide)).mono ?_; unfold cntV; rintro e w1 ⟨rfl, hb1⟩; refine Hid.out ?_))
      refine Lib.hid ?_
      have HB1 := Lib.hid (HB.out.trans (hb1.mono HB.out.size)); clear hb1
      go_wp2
      go_ret
      exact ⟨ret_int HE.out.symm, HB1.out⟩
    · have HE : Hid (R = z) := Lib.hid (by rw [HK.out, if_neg fun h => h20 (hM.2 h)])
      have h20' : decide ((20 : Int) < q) = false := by simpa using h20
      clear hM
      go_enter Tryz.func11, Tryz.ntmps11
      go_wp2_with (first | (go_at_call 29; refine (Hc1.out _ HR.out (fun k hk => Nat.lt_of_lt_of_le (HS.out k hk) HB.out.size) (by decide) (by decide) (by decide) (by decide)).mono ?_; unfold cntV; rintro e w1 ⟨rfl, hb1⟩; refine Hid.out ?_))
      refine Lib.hid ?_
      have HB1 := Lib.hid (HB.out.trans (hb1.mono HB.out.size))
      have HR1 := Lib.hid (HR.out.under hb1 fun k hk => Nat.lt_of_lt_of_le (HS.out k hk) HB.out.size)
      have HW1 := Lib.hid (HW.out.below hb1 HW.out.lt); clear hb1
      have g0 := HW1.out.cell 0; have g1 := HW1.out.cell 1; have g2 := HW1.out.cell 2; have g3 := HW1.out.cell 3; have g4 := HW1.out.cell 4
      have g5 := HW1.out.cell 5; have g6 := HW1.out.cell 6; have g7 := HW1.out.cell 7; have g8 := HW1.out.cell 8; have g9 := HW1.out.cell 9
      simp only [List.getElem?_cons_zero, List.getElem?_cons_succ] at g0 g1 g2 g3 g4 g5 g6 g7 g8 g9
      go_wp2_with (first | (go_at_call 30; refine (Hc2.out _ HR1.out (fun k hk => Nat.lt_of_lt_of_le (HS.out k hk) HB1.out.size)).mono ?_; rintro e w2 ⟨rfl, hb2⟩; refine Hid.out ?_))
      refine Lib.hid ?_
      have HB2 := Lib.hid (HB1.out.trans (hb2.mono HB1.out.size)); clear hb2
      go_wp2
      go_ret
      exact ⟨ret_int HE.out.symm, HB2.out⟩

/-- A function value over two needs that answers whether they are alike. -/
def AsksSame (w : World) (S : Nat → Prop) (F : FuncId) (ks : List Nd) : Prop :=
  (∀ (args : Array Value) (W : World), (callFunc F args).run Tryz.prog W = .ok (.enter F args) W) ∧
    ∀ x ∈ ks, ∀ (y : Nd) (cx cy : List Value) (W : World), Below w.heap.size w W → RNd W S cx x → RNd W S cy y → (∀ k, S k → k < W.heap.size) → Calls Tryz.prog F #[.agg cx.toArray, .agg cy.toArray] W fun e w' => e = .returned (.bool (sameNd x y)) ∧ Below W.heap.size W w'

set_option maxRecDepth 100000 in
set_option maxHeartbeats 3200000 in
theorem equalFuncNd_any (A B : Option Addr) (n c m d : Nat) (ks ls : List Nd) (F : FuncId) (w : World) (S : Nat → Prop) (hK : RKids w S A n ks) (hL : RKids w S B m ls) (hS : ∀ k, S k → k < w.heap.size) (hn : n ≤ maxLen) (hm : m ≤ maxLen) (hF : AsksSame w S F ks) :
    Calls Tryz.prog 19 #[.slice A n c, .slice B m d, .func (.func F) #[] #[]] w fun e w' => e = .returned (.bool (sameL ks ls)) ∧ Below w.heap.size w w' := by
  unfold maxLen at hn hm
  have HK := Lib.hid hK; have HL := Lib.hid hL; have HS := Lib.hid hS; have HF := Lib.hid hF; clear hK hL hS hF
  by_cases hnm : n = m
  · subst hnm
    go_enter Tryz.func19, Tryz.ntmps19
    go_wp2
    go_loopg [17] n (fun g iv wr => ∃ (j : Nat), Hid (j + g = n) ∧ iv = .int .i64 j ∧ Hid (sameL ks ls = sameL (ks.drop j) (ls.drop j)) ∧ Below w.heap.size w wr)
    case atStart => exact ⟨0, Lib.hid (Nat.zero_add _), rfl, Lib.hid rfl, Below.refl _ _⟩
    case round =>
      obtain ⟨j, Hj, rfl, Hcl, hb⟩ := hrel
      have HBr := Lib.hid hb; clear hb
      by_cases hj : j < n
      · obtain ⟨b, o, x, y, rfl, hb, hy, hxy, hcell⟩ := (HK.out.under HBr.out HS.out).at_ hj
        obtain ⟨b', o', x', y', rfl, hb', hy', hxy', hcell'⟩ := (HL.out.under HBr.out HS.out).at_ hj
        have Hdr : Hid (sameL (ks.drop j) (ls.drop j) = (sameNd y y' && sameL (ks.drop (j + 1)) (ls.drop (j + 1)))) := Lib.hid (by rw [drop_step hy, drop_step hy']; rfl)
        have hmem := List.mem_of_getElem? hy
        have hbl := HS.out _ hb'
        have hlt : b' < wr.heap.size := Nat.lt_of_lt_of_le hbl HBr.out.size
        obtain ⟨yk, ya, yf, yn, yks⟩ := y
        obtain ⟨A', n', c', rfl, -⟩ := hxy.open_
        have g0 := hcell 0 (by omega); have g1 := hcell 1 (by omega); have g2 := hcell 2 (by omega); have g3 := hcell 3 (by omega); have g4 := hcell 4 (by omega)
        have g5 := hcell 5 (by omega); have g6 := hcell 6 (by omega); have g7 := hcell 7 (by omega); have g8 := hcell 8 (by omega); have g9 := hcell 9 (by omega)
        clear hcell
        unfold ndRow at g0 g1 g2 g3 g4 g5 g6 g7 g8 g9
        simp only [List.getElem?_cons_zero, List.getElem?_cons_succ, Nat.add_zero] at g0 g1 g2 g3 g4 g5 g6 g7 g8 g9
        obtain ⟨zk, za, zf, zn, zks⟩ := y'
        obtain ⟨A'', n'', c'', rfl, -⟩ := hxy'.open_
        have k0 := hcell' 0 (by omega); have k1 := hcell' 1 (by omega); have k2 := hcell' 2 (by omega); have k3 := hcell' 3 (by omega); have k4 := hcell' 4 (by omega)
        have k5 := hcell' 5 (by omega); have k6 := hcell' 6 (by omega); have k7 := hcell' 7 (by omega); have k8 := hcell' 8 (by omega); have k9 := hcell' 9 (by omega)
        clear hcell'
        unfold ndRow at k0 k1 k2 k3 k4 k5 k6 k7 k8 k9
        simp only [List.getElem?_cons_zero, List.getElem?_cons_succ, Nat.add_zero] at k0 k1 k2 k3 k4 k5 k6 k7 k8 k9
        clear hy hy'
        have hW1 : Below wr.heap.size wr ((wr.alloc (.cells #[.int .i64 yk, .string ⟨ya.nm.toArray⟩, .int .i64 ya.op, .int .i64 ya.ver, .int .i64 ya.slot, .string ⟨ya.fl.toArray⟩, .bool ya.on, .string ⟨yf.toArray⟩, .bool yn, .slice A' n' c'] 26)).alloc (.cells #[.int .i64 zk, .string ⟨za.nm.toArray⟩, .int .i64 za.op, .int .i64 za.ver, .int .i64 za.slot, .string ⟨za.fl.toArray⟩, .bool za.on, .string ⟨zf.toArray⟩, .bool zn, .slice A'' n'' c''] 26)) := ((Below.refl _ wr).alloc (Nat.le_refl _) _).alloc (by simp) _
        have hsr : ∀ q, S q → q < wr.heap.size := fun q hq => Nat.lt_of_lt_of_le (HS.out q hq) HBr.out.size
        have hcall := HF.out.2 _ hmem _ _ _ _ (HBr.out.trans (hW1.mono HBr.out.size)) (hxy.under hW1 hsr) (hxy'.under hW1 hsr) (fun q hq => Nat.lt_of_lt_of_le (hsr q hq) hW1.size)
        have henter := HF.out.1
        unfold ndRow at hcall
        have HB2 := Lib.hid (HBr.out.trans (hW1.mono HBr.out.size))
        clear hW1 hsr hxy hxy'
        generalize sameNd _ _ = q at hcall Hdr
        have Hcall := Lib.hid hcall; clear hcall
        cases q
        · go_wp2_with fail
          refine Hcall.out.mono ?_
          rintro e w' ⟨rfl, hb'⟩
          have HB3 := Lib.hid (HB2.out.trans (hb'.mono HB2.out.size)); clear hb'
          go_wp2_with fail
          go_ret
          exact ⟨ret_bool (by rw [Hcl.out, Hdr.out]; rfl), HB3.out⟩
        · go_wp2_with fail
          refine Hcall.out.mono ?_
          rintro e w' ⟨rfl, hb'⟩
          have HB3 := Lib.hid (HB2.out.trans (hb'.mono HB2.out.size)); clear hb'
          go_wp2_with fail
          go_roundg (gk - 1)
          case measure => have := Hj.out; omega
          case rel => exact ⟨j + 1, Lib.hid (by have := Hj.out; omega), by go_num, Lib.hid (by rw [Hcl.out, Hdr.out, Bool.true_and]), HB3.out⟩
      · go_wp2_with fail
        go_ret
        refine ⟨ret_bool ?_, HBr.out⟩
        rw [Hcl.out, List.drop_of_length_le (by have := HK.out.len; omega), List.drop_of_length_le (by have := HL.out.len; omega)]; rfl
  · have e1 : ((n : Int) != (m : Int)) = true := by simp; omega
    have e2 : ((n : Int) == (m : Int)) = false := by simp; omega
    have HE : Hid (sameL ks ls = false) := Lib.hid (sameL_len (by have := HK.out.len; have := HL.out.len; omega))
    go_enter Tryz.func19, Tryz.ntmps19
    go_wp2
    go_ret
    exact ⟨ret_bool HE.out.symm, Below.refl _ _⟩

set_option maxRecDepth 100000 in
set_option maxHeartbeats 3200000 in
theorem same_any : ∀ (y z : Nd) (S : Nat → Prop) (cx cy : List Value) (w : World), RNd w S cx y → RNd w S cy z → (∀ k, S k → k < w.heap.size) →
    Calls Tryz.prog 7 #[.agg cx.toArray, .agg cy.toArray] w fun e w' => e = .returned (.bool (sameNd y z)) ∧ Below w.heap.size w w' := by
  refine Nd.ind fun k a f no ks ih => ?_
  intro z S cx cy w hx hy hS
  obtain ⟨k', a', f', no', ks'⟩ := z
  obtain ⟨A, n, c, rfl, hnc, hc, _, _, _, hK⟩ := hx.open_
  obtain ⟨B, m, d, rfl, hmd, hd, _, _, _, hL⟩ := hy.open_
  have hbl := (((Below.refl _ w).alloc (Nat.le_refl _) (.cells (ndRow k a f no A n c).toArray 26)).alloc (by simp) (.cells (ndRow k' a' f' no' B m d).toArray 26))
  have hE := equalFuncNd_any A B n c m d ks ks' 7 _ S (hK.under hbl hS) (hL.under hbl hS) (fun q hq => Nat.lt_of_lt_of_le (hS q hq) hbl.size) (Nat.le_trans hnc hc) (Nat.le_trans hmd hd) ⟨fun args W => by kernel_rfl, fun x hx y cx cy W hb h1 h2 h3 => ih x hx y S cx cy W h1 h2 h3⟩
  have HC : Hid (sameNd (.mk k a f no ks) (.mk k' a' f' no' ks') = (decide (k = k') && (decide (a = a') && (decide (f = f') && (decide (no = no') && sameL ks ks'))))) := Lib.hid rfl
  generalize sameNd (.mk k a f no ks) (.mk k' a' f' no' ks') = R at HC ⊢
  generalize sameL ks ks' = q at hE HC
  have HB := Lib.hid hbl
  clear hx hy hK hL hS ih hbl
  obtain ⟨nm, op, ver, slot, fl, on⟩ := a
  obtain ⟨nm', op', ver', slot', fl', on'⟩ := a'
  unfold ndRow at hE HB ⊢
  simp only [] at hE HB ⊢
  have HE0 := Lib.hid hE; clear hE
  by_cases c0 : k = k'
  · subst c0
    by_cases c1 : nm = nm'
    · subst c1
      by_cases c2 : op = op'
      · subst c2
        by_cases c3 : ver = ver'
        · subst c3
          by_cases c4 : slot = slot'
          · subst c4
            by_cases c5 : fl = fl'
            · subst c5
              by_cases c6 : on = on'
              · subst c6
                by_cases c7 : f = f'
                · subst c7
                  by_cases c8 : no = no'
                  · subst c8
                    have HE : Hid (R = q) := Lib.hid (by rw [HC.out]; simp)
                    clear HC
                    go_enter Tryz.func7, Tryz.ntmps7
                    go_wp2_with (first | (go_at_call 19; refine HE0.out.mono ?_; rintro e w1 ⟨rfl, hb1⟩; refine Hid.out ?_))
                    refine Lib.hid ?_
                    have HB1 := Lib.hid (HB.out.trans (hb1.mono HB.out.size)); clear hb1
                    go_wp2
                    go_ret
                    exact ⟨ret_bool HE.out.symm, HB1.out⟩
                  · have HE : Hid (R = false) := Lib.hid (by rw [HC.out]; simp [c8])
                    have c8' : (no == no') = false := by simpa using c8
                    go_enter Tryz.func7, Tryz.ntmps7
                    go_wp2
                    go_ret
                    exact ⟨ret_bool HE.out.symm, HB.out⟩
                · have HE : Hid (R = false) := Lib.hid (by rw [HC.out]; simp [c7])
                  go_enter Tryz.func7, Tryz.ntmps7
                  go_wp2
                  go_ret
                  exact ⟨ret_bool HE.out.symm, HB.out⟩
              · have HE : Hid (R = false) := Lib.hid (by rw [HC.out]; simp [c6])
                have c6' : (on == on') = false := by simpa using c6
                go_enter Tryz.func7, Tryz.ntmps7
                go_wp2
                go_ret
                exact ⟨ret_bool HE.out.symm, HB.out⟩
            · have HE : Hid (R = false) := Lib.hid (by rw [HC.out]; simp [c5])
              go_enter Tryz.func7, Tryz.ntmps7
              go_wp2
              go_ret
              exact ⟨ret_bool HE.out.symm, HB.out⟩
          · have HE : Hid (R = false) := Lib.hid (by rw [HC.out]; simp [c4])
            go_enter Tryz.func7, Tryz.ntmps7
            go_wp2
            go_ret
            exact ⟨ret_bool HE.out.symm, HB.out⟩
        · have HE : Hid (R = false) := Lib.hid (by rw [HC.out]; simp [c3])
          go_enter Tryz.func7, Tryz.ntmps7
          go_wp2
          go_ret
          exact ⟨ret_bool HE.out.symm, HB.out⟩
      · have HE : Hid (R = false) := Lib.hid (by rw [HC.out]; simp [c2])
        go_enter Tryz.func7, Tryz.ntmps7
        go_wp2
        go_ret
        exact ⟨ret_bool HE.out.symm, HB.out⟩
    · have HE : Hid (R = false) := Lib.hid (by rw [HC.out]; simp [c1])
      go_enter Tryz.func7, Tryz.ntmps7
      go_wp2
      go_ret
      exact ⟨ret_bool HE.out.symm, HB.out⟩
  · have HE : Hid (R = false) := Lib.hid (by rw [HC.out]; simp [c0])
    go_enter Tryz.func7, Tryz.ntmps7
    go_wp2
    go_ret
    exact ⟨ret_bool HE.out.symm, HB.out⟩
end Go.Proofs.YtnkmonmkhmcgaaaGreatDoor
