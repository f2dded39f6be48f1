/- need.check and need.Check, walked. -/
import Derived.Test.YtnkmonmkhmcgaaaGreatDoorNW1
import Derived.Test.YtnkmonmkhmcgaaaGreatDoorAW2
namespace Go.Proofs.YtnkmonmkhmcgaaaGreatDoor
open Go.RowKit Qm

theorem atOf_mk (x : At) : atOf ⟨x.nm.toArray⟩ x.op x.ver x.slot ⟨x.fl.toArray⟩ x.on = x := by
  cases x; simp [atOf]
theorem bsz (l : Qm.W) : (⟨l.toArray⟩ : ByteArray).size = l.length := by simp [ByteArray.size]

set_option maxRecDepth 100000 in
set_option maxHeartbeats 3200000 in
theorem ncheck_bad (nm fl f : Qm.W) (op ver slot k : Int) (on no : Bool) (A : Option Addr) (n c : Nat) (ks : List Nd) (w : World) (k1 : 3 ≤ k) (k2 : k ≤ 5) (ha : ¬ (nm = [] ∧ op = 0 ∧ ver = 0 ∧ slot = 0 ∧ fl = [] ∧ on = false)) :
    Calls Tryz.prog 30 #[.agg (ndRow k ⟨nm, op, ver, slot, fl, on⟩ f no A n c).toArray] w fun e w' => e = .returned (.int .i64 (ckNd (.mk k ⟨nm, op, ver, slot, fl, on⟩ f no ks))) ∧ Below w.heap.size w w' := by
  unfold ndRow
  have HC : Hid (ckNd (.mk k ⟨nm, op, ver, slot, fl, on⟩ f no ks) = 4) := Lib.hid (by
    have hl : leafK k = false := by simp [leafK]; omega
    simp only [ckNd]; rw [if_neg (by omega), if_neg (by simp [hl]), if_pos ⟨hl, by simpa [At.zero] using ha⟩])
  have e1 : (k == 1) = false := by simp; omega
  have e2 : (k == 2) = false := by simp; omega
  have e3 : decide (k < 1) = false := by simp; omega
  have e4 : decide (5 < k) = false := by simp; omega
  have HB := Lib.hid ((Below.refl _ w).alloc (Nat.le_refl _) (.cells #[.int .i64 k, .string ⟨nm.toArray⟩, .int .i64 op, .int .i64 ver, .int .i64 slot, .string ⟨fl.toArray⟩, .bool on, .string ⟨f.toArray⟩, .bool no, .slice A n c] 26))
  by_cases c1 : nm = []
  · subst c1
    by_cases c2 : op = 0
    · subst c2
      by_cases c3 : ver = 0
      · subst c3
        by_cases c4 : slot = 0
        · subst c4
          by_cases c5 : fl = []
          · subst c5
            cases on
            · exact absurd ⟨rfl, rfl, rfl, rfl, rfl, rfl⟩ ha
            · clear ha
              go_enter Tryz.func30, Tryz.ntmps30
              go_wp2
              go_ret
              exact ⟨ret_int HC.out.symm, HB.out⟩
          · clear ha
            go_enter Tryz.func30, Tryz.ntmps30
            go_wp2
            go_ret
            exact ⟨ret_int HC.out.symm, HB.out⟩
        · clear ha
          go_enter Tryz.func30, Tryz.ntmps30
          go_wp2
          go_ret
          exact ⟨ret_int HC.out.symm, HB.out⟩
      · clear ha
        go_enter Tryz.func30, Tryz.ntmps30
        go_wp2
        go_ret
        exact ⟨ret_int HC.out.symm, HB.out⟩
    · clear ha
      go_enter Tryz.func30, Tryz.ntmps30
      go_wp2
      go_ret
      exact ⟨ret_int HC.out.symm, HB.out⟩
  · clear ha
    go_enter Tryz.func30, Tryz.ntmps30
    go_wp2
    go_ret
    exact ⟨ret_int HC.out.symm, HB.out⟩

set_option maxRecDepth 100000 in
set_option maxHeartbeats 3200000 in
theorem ncheck_any : ∀ (y : Nd) (S : Nat → Prop) (x : List Value) (w : World), RNd w S x y → (∀ k, S k → k < w.heap.size) →
    Calls Tryz.prog 30 #[.agg x.toArray] w fun e w' => e = .returned (.int .i64 (ckNd y)) ∧ Below w.heap.size w w' := by
  refine Nd.ind fun k a f no ks ih => ?_
  intro S x w hR hS
  have HI := Lib.hid ih; clear ih
  obtain ⟨A, n, c, rfl, hnc, hc, h1, h2, h3, hK⟩ := hR.open_
  clear hR
  have HS := Lib.hid hS; clear hS
  have HK := Lib.hid hK; clear hK
  unfold maxLen at hc
  obtain ⟨nm, op, ver, slot, fl, on⟩ := a
  unfold ndRow
  simp only [] at h1 h2 ⊢
  have HB := Lib.hid ((Below.refl _ w).alloc (Nat.le_refl _) (.cells #[.int .i64 k, .string ⟨nm.toArray⟩, .int .i64 op, .int .i64 ver, .int .i64 slot, .string ⟨fl.toArray⟩, .bool on, .string ⟨f.toArray⟩, .bool no, .slice A n c] 26))
  by_cases k1 : k < 1
  · have HC : Hid (ckNd (.mk k ⟨nm, op, ver, slot, fl, on⟩ f no ks) = 4) := Lib.hid (by simp only [ckNd]; rw [if_pos (.inl k1)])
    have e1 : (k == 1) = false := by simp; omega
    have e2 : (k == 2) = false := by simp; omega
    go_enter Tryz.func30, Tryz.ntmps30
    go_wp2
    go_ret
    exact ⟨ret_int HC.out.symm, HB.out⟩
  by_cases k5 : 5 < k
  · have HC : Hid (ckNd (.mk k ⟨nm, op, ver, slot, fl, on⟩ f no ks) = 4) := Lib.hid (by simp only [ckNd]; rw [if_pos (.inr k5)])
    have e1 : (k == 1) = false := by simp; omega
    have e2 : (k == 2) = false := by simp; omega
    go_enter Tryz.func30, Tryz.ntmps30
    go_wp2
    go_ret
    exact ⟨ret_int HC.out.symm, HB.out⟩
  rcases (show k = 1 ∨ k = 2 ∨ k = 3 ∨ k = 4 ∨ k = 5 by omega) with rfl | rfl | rfl | rfl | rfl
  · clear k1 k5
    by_cases hn : 0 < n
    · have HC : Hid (ckNd (.mk 1 ⟨nm, op, ver, slot, fl, on⟩ f no ks) = 4) := Lib.hid (by
        have := HK.out.len
        simp only [ckNd]; rw [if_neg (by omega), if_pos ⟨rfl, by omega⟩])
      have hn' : (0 : Int) < (n : Int) := by omega
      go_enter Tryz.func30, Tryz.ntmps30
      go_wp2
      go_ret
      exact ⟨ret_int HC.out.symm, HB.out⟩
    · obtain rfl : n = 0 := by omega
      by_cases hf : f = [] ∧ no = false
      · obtain ⟨rfl, rfl⟩ := hf
        have HC : Hid (ckNd (.mk 1 ⟨nm, op, ver, slot, fl, on⟩ [] false ks) = ckAtom ⟨nm, op, ver, slot, fl, on⟩) := Lib.hid (by
          have := HK.out.len
          simp only [ckNd]; rw [if_neg (by omega), if_neg (by simp [this]), if_neg (by simp [leafK]), if_neg (by simp), if_neg (by simp), if_pos (by rfl)])
        have hck := fun wx => check_any ⟨nm.toArray⟩ ⟨fl.toArray⟩ op ver slot on wx (by rw [bsz]; exact h1) (by rw [bsz]; exact h2)
        rw [show atOf ⟨nm.toArray⟩ op ver slot ⟨fl.toArray⟩ on = ⟨nm, op, ver, slot, fl, on⟩ from by simp [atOf]] at hck
        unfold atv at hck
        have Hck := Lib.hid hck; clear hck
        clear h1 h2 h3
        go_enter Tryz.func30, Tryz.ntmps30
        go_wp2_with (first | (go_at_call 53; refine (Hck.out _).mono ?_; rintro e w1 ⟨rfl, hb1⟩; refine Hid.out ?_))
        refine Lib.hid ?_
        have HB1 := Lib.hid (HB.out.trans (hb1.mono HB.out.size)); clear hb1
        go_wp2
        go_ret
        exact ⟨ret_int HC.out.symm, HB1.out⟩
      · have HC : Hid (ckNd (.mk 1 ⟨nm, op, ver, slot, fl, on⟩ f no ks) = 4) := Lib.hid (by
          have := HK.out.len
          simp only [ckNd]; rw [if_neg (by omega), if_neg (by simp [this]), if_neg (by simp [leafK]), if_pos ⟨by omega, by cases no <;> simp_all⟩])
        by_cases hf0 : f = []
        · subst hf0
          cases no
          · exact absurd ⟨rfl, rfl⟩ hf
          · clear hf
            go_enter Tryz.func30, Tryz.ntmps30
            go_wp2
            go_ret
            exact ⟨ret_int HC.out.symm, HB.out⟩
        · clear hf
          go_enter Tryz.func30, Tryz.ntmps30
          go_wp2
          go_ret
          exact ⟨ret_int HC.out.symm, HB.out⟩
  · clear k1 k5
    by_cases hn : 0 < n
    · have HC : Hid (ckNd (.mk 2 ⟨nm, op, ver, slot, fl, on⟩ f no ks) = 4) := Lib.hid (by
        have := HK.out.len
        simp only [ckNd]; rw [if_neg (by omega), if_pos ⟨rfl, by omega⟩])
      have hn' : (0 : Int) < (n : Int) := by omega
      go_enter Tryz.func30, Tryz.ntmps30
      go_wp2
      go_ret
      exact ⟨ret_int HC.out.symm, HB.out⟩
    · obtain rfl : n = 0 := by omega
      by_cases hf : f = [] ∧ no = false
      · obtain ⟨rfl, rfl⟩ := hf
        have HC : Hid (ckNd (.mk 2 ⟨nm, op, ver, slot, fl, on⟩ [] false ks) = ckAtom ⟨nm, op, ver, slot, fl, on⟩) := Lib.hid (by
          have := HK.out.len
          simp only [ckNd]; rw [if_neg (by omega), if_neg (by simp [this]), if_neg (by simp [leafK]), if_neg (by simp), if_neg (by simp), if_pos (by rfl)])
        have hck := fun wx => check_any ⟨nm.toArray⟩ ⟨fl.toArray⟩ op ver slot on wx (by rw [bsz]; exact h1) (by rw [bsz]; exact h2)
        rw [show atOf ⟨nm.toArray⟩ op ver slot ⟨fl.toArray⟩ on = ⟨nm, op, ver, slot, fl, on⟩ from by simp [atOf]] at hck
        unfold atv at hck
        have Hck := Lib.hid hck; clear hck
        clear h1 h2 h3
        go_enter Tryz.func30, Tryz.ntmps30
        go_wp2_with (first | (go_at_call 53; refine (Hck.out _).mono ?_; rintro e w1 ⟨rfl, hb1⟩; refine Hid.out ?_))
        refine Lib.hid ?_
        have HB1 := Lib.hid (HB.out.trans (hb1.mono HB.out.size)); clear hb1
        go_wp2
        go_ret
        exact ⟨ret_int HC.out.symm, HB1.out⟩
      · have HC : Hid (ckNd (.mk 2 ⟨nm, op, ver, slot, fl, on⟩ f no ks) = 4) := Lib.hid (by
          have := HK.out.len
          simp only [ckNd]; rw [if_neg (by omega), if_neg (by simp [this]), if_neg (by simp [leafK]), if_pos ⟨by omega, by cases no <;> simp_all⟩])
        by_cases hf0 : f = []
        · subst hf0
          cases no
          · exact absurd ⟨rfl, rfl⟩ hf
          · clear hf
            go_enter Tryz.func30, Tryz.ntmps30
            go_wp2
            go_ret
            exact ⟨ret_int HC.out.symm, HB.out⟩
        · clear hf
          go_enter Tryz.func30, Tryz.ntmps30
          go_wp2
          go_ret
          exact ⟨ret_int HC.out.symm, HB.out⟩
  · clear k1 k5
    by_cases ha : nm = [] ∧ op = 0 ∧ ver = 0 ∧ slot = 0 ∧ fl = [] ∧ on = false
    · obtain ⟨rfl, rfl, rfl, rfl, rfl, rfl⟩ := ha
      by_cases hf : f = [] ∧ no = false
      · obtain ⟨rfl, rfl⟩ := hf
        have HC : Hid (ckNd (.mk 3 ⟨[], 0, 0, 0, [], false⟩ [] false ks) = ckKids ks) := Lib.hid (by
          simp only [ckNd]; rw [if_neg (by omega), if_neg (by simp [leafK]), if_neg (by simp [At.zero]), if_neg (by simp), if_neg (by simp), if_neg (by simp [leafK])])
        clear h1 h2 h3
        go_enter Tryz.func30, Tryz.ntmps30
        go_wp2
        go_loopg [70] n (fun g iv wr => ∃ (j : Nat), Hid (j + g = n) ∧ iv = .int .i64 j ∧ Hid (ckKids ks = ckKids (ks.drop j)) ∧ Below w.heap.size w wr)
        case atStart => exact ⟨0, Lib.hid (Nat.zero_add _), rfl, Lib.hid rfl, HB.out⟩
        case round =>
          obtain ⟨j, Hj, rfl, Hcl, hb⟩ := hrel
          have HBr := Lib.hid hb; clear hb
          by_cases hj : j < n
          · obtain ⟨b, o, x, y, rfl, hb, hy, hxy, hcell⟩ := (HK.out.under HBr.out HS.out).at_ hj
            have Hdr := Lib.hid (drop_step hy)
            have hmem := List.mem_of_getElem? hy
            obtain ⟨yk, ya, yf, yn, yks⟩ := y
            obtain ⟨A', n', c', rfl, -⟩ := hxy.open_
            have g0 := hcell 0 (by omega); have g1 := hcell 1 (by omega); have g2 := hcell 2 (by omega); have g3 := hcell 3 (by omega); have g4 := hcell 4 (by omega)
            have g5 := hcell 5 (by omega); have g6 := hcell 6 (by omega); have g7 := hcell 7 (by omega); have g8 := hcell 8 (by omega); have g9 := hcell 9 (by omega)
            clear hcell
            unfold ndRow at g0 g1 g2 g3 g4 g5 g6 g7 g8 g9
            simp only [List.getElem?_cons_zero, List.getElem?_cons_succ, Nat.add_zero] at g0 g1 g2 g3 g4 g5 g6 g7 g8 g9
            clear hy
            have hxy2 := (hxy.under (Below.refl _ wr |>.alloc (Nat.le_refl _) (.cells #[.int .i64 yk, .string ⟨ya.nm.toArray⟩, .int .i64 ya.op, .int .i64 ya.ver, .int .i64 ya.slot, .string ⟨ya.fl.toArray⟩, .bool ya.on, .string ⟨yf.toArray⟩, .bool yn, .slice A' n' c'] 26)) fun q hq => Nat.lt_of_lt_of_le (HS.out q hq) HBr.out.size)
            clear hxy
            have hcall := HI.out _ hmem S _ _ hxy2 (fun q hq => by have := HS.out q hq; have := HBr.out.size; simp; omega)
            unfold ndRow at hcall
            have HX : Hid (ckKids (ks.drop j) = if ckNd (.mk yk ya yf yn yks) = 0 then ckKids (ks.drop (j + 1)) else ckNd (.mk yk ya yf yn yks)) := Lib.hid (by rw [Hdr.out]; simp only [ckKids])
            generalize hq : ckNd (.mk yk ya yf yn yks) = q at hcall HX
            have HBn := Lib.hid (HBr.out.alloc HBr.out.size (.cells #[.int .i64 yk, .string ⟨ya.nm.toArray⟩, .int .i64 ya.op, .int .i64 ya.ver, .int .i64 ya.slot, .string ⟨ya.fl.toArray⟩, .bool ya.on, .string ⟨yf.toArray⟩, .bool yn, .slice A' n' c'] 26))
            clear hq hxy2
            have Hcall := Lib.hid hcall; clear hcall
            by_cases h0 : q = 0
            · subst h0
              go_wp2_with fail
              refine Hcall.out.mono ?_
              rintro e w' ⟨rfl, hb'⟩
              have HB' := Lib.hid (HBn.out.trans (hb'.mono HBn.out.size)); clear hb'
              go_wp2_with fail
              go_roundg (gk - 1)
              case measure => have := Hj.out; omega
              case rel => exact ⟨j + 1, Lib.hid (by have := Hj.out; omega), by go_num, Lib.hid (by rw [Hcl.out, HX.out]; simp), HB'.out⟩
            · have h1 : (q != 0) = true := by simpa using h0
              have H0 := Lib.hid h0; clear h0
              go_wp2_with fail
              refine Hcall.out.mono ?_
              rintro e w' ⟨rfl, hb'⟩
              have HB' := Lib.hid (HBn.out.trans (hb'.mono HBn.out.size)); clear hb'
              go_wp2_with fail
              go_ret
              exact ⟨ret_int (by rw [HC.out, Hcl.out, HX.out, if_neg H0.out]), HB'.out⟩
          · go_wp2_with fail
            go_ret
            refine ⟨ret_int ?_, HBr.out⟩
            rw [HC.out, Hcl.out, List.drop_of_length_le (by have := HK.out.len; omega)]; rfl
      · have HC : Hid (ckNd (.mk 3 ⟨[], 0, 0, 0, [], false⟩ f no ks) = 4) := Lib.hid (by
          simp only [ckNd]; rw [if_neg (by omega), if_neg (by simp [leafK]), if_neg (by simp [At.zero]), if_pos ⟨by omega, by cases no <;> simp_all⟩])
        by_cases hf0 : f = []
        · subst hf0
          cases no
          · exact absurd ⟨rfl, rfl⟩ hf
          · clear hf
            go_enter Tryz.func30, Tryz.ntmps30
            go_wp2
            go_ret
            exact ⟨ret_int HC.out.symm, HB.out⟩
        · clear hf
          go_enter Tryz.func30, Tryz.ntmps30
          go_wp2
          go_ret
          exact ⟨ret_int HC.out.symm, HB.out⟩
    · exact ncheck_bad nm fl f op ver slot 3 on no A n c ks w (by decide) (by decide) ha
  · clear k1 k5
    by_cases ha : nm = [] ∧ op = 0 ∧ ver = 0 ∧ slot = 0 ∧ fl = [] ∧ on = false
    · obtain ⟨rfl, rfl, rfl, rfl, rfl, rfl⟩ := ha
      by_cases hf : f = [] ∧ no = false
      · obtain ⟨rfl, rfl⟩ := hf
        have HC : Hid (ckNd (.mk 4 ⟨[], 0, 0, 0, [], false⟩ [] false ks) = ckKids ks) := Lib.hid (by
          simp only [ckNd]; rw [if_neg (by omega), if_neg (by simp [leafK]), if_neg (by simp [At.zero]), if_neg (by simp), if_neg (by simp), if_neg (by simp [leafK])])
        clear h1 h2 h3
        go_enter Tryz.func30, Tryz.ntmps30
        go_wp2
        go_loopg [70] n (fun g iv wr => ∃ (j : Nat), Hid (j + g = n) ∧ iv = .int .i64 j ∧ Hid (ckKids ks = ckKids (ks.drop j)) ∧ Below w.heap.size w wr)
        case atStart => exact ⟨0, Lib.hid (Nat.zero_add _), rfl, Lib.hid rfl, HB.out⟩
        case round =>
          obtain ⟨j, Hj, rfl, Hcl, hb⟩ := hrel
          have HBr := Lib.hid hb; clear hb
          by_cases hj : j < n
          · obtain ⟨b, o, x, y, rfl, hb, hy, hxy, hcell⟩ := (HK.out.under HBr.out HS.out).at_ hj
            have Hdr := Lib.hid (drop_step hy)
            have hmem := List.mem_of_getElem? hy
            obtain ⟨yk, ya, yf, yn, yks⟩ := y
            obtain ⟨A', n', c', rfl, -⟩ := hxy.open_
            have g0 := hcell 0 (by omega); have g1 := hcell 1 (by omega); have g2 := hcell 2 (by omega); have g3 := hcell 3 (by omega); have g4 := hcell 4 (by omega)
            have g5 := hcell 5 (by omega); have g6 := hcell 6 (by omega); have g7 := hcell 7 (by omega); have g8 := hcell 8 (by omega); have g9 := hcell 9 (by omega)
            clear hcell
            unfold ndRow at g0 g1 g2 g3 g4 g5 g6 g7 g8 g9
            simp only [List.getElem?_cons_zero, List.getElem?_cons_succ, Nat.add_zero] at g0 g1 g2 g3 g4 g5 g6 g7 g8 g9
            clear hy
            have hxy2 := (hxy.under (Below.refl _ wr |>.alloc (Nat.le_refl _) (.cells #[.int .i64 yk, .string ⟨ya.nm.toArray⟩, .int .i64 ya.op, .int .i64 ya.ver, .int .i64 ya.slot, .string ⟨ya.fl.toArray⟩, .bool ya.on, .string ⟨yf.toArray⟩, .bool yn, .slice A' n' c'] 26)) fun q hq => Nat.lt_of_lt_of_le (HS.out q hq) HBr.out.size)
            clear hxy
            have hcall := HI.out _ hmem S _ _ hxy2 (fun q hq => by have := HS.out q hq; have := HBr.out.size; simp; omega)
            unfold ndRow at hcall
            have HX : Hid (ckKids (ks.drop j) = if ckNd (.mk yk ya yf yn yks) = 0 then ckKids (ks.drop (j + 1)) else ckNd (.mk yk ya yf yn yks)) := Lib.hid (by rw [Hdr.out]; simp only [ckKids])
            generalize hq : ckNd (.mk yk ya yf yn yks) = q at hcall HX
            have HBn := Lib.hid (HBr.out.alloc HBr.out.size (.cells #[.int .i64 yk, .string ⟨ya.nm.toArray⟩, .int .i64 ya.op, .int .i64 ya.ver, .int .i64 ya.slot, .string ⟨ya.fl.toArray⟩, .bool ya.on, .string ⟨yf.toArray⟩, .bool yn, .slice A' n' c'] 26))
            clear hq hxy2
            have Hcall := Lib.hid hcall; clear hcall
            by_cases h0 : q = 0
            · subst h0
              go_wp2_with fail
              refine Hcall.out.mono ?_
              rintro e w' ⟨rfl, hb'⟩
              have HB' := Lib.hid (HBn.out.trans (hb'.mono HBn.out.size)); clear hb'
              go_wp2_with fail
              go_roundg (gk - 1)
              case measure => have := Hj.out; omega
              case rel => exact ⟨j + 1, Lib.hid (by have := Hj.out; omega), by go_num, Lib.hid (by rw [Hcl.out, HX.out]; simp), HB'.out⟩
            · have h1 : (q != 0) = true := by simpa using h0
              have H0 := Lib.hid h0; clear h0
              go_wp2_with fail
              refine Hcall.out.mono ?_
              rintro e w' ⟨rfl, hb'⟩
              have HB' := Lib.hid (HBn.out.trans (hb'.mono HBn.out.size)); clear hb'
              go_wp2_with fail
              go_ret
              exact ⟨ret_int (by rw [HC.out, Hcl.out, HX.out, if_neg H0.out]), HB'.out⟩
          · go_wp2_with fail
            go_ret
            refine ⟨ret_int ?_, HBr.out⟩
            rw [HC.out, Hcl.out, List.drop_of_length_le (by have := HK.out.len; omega)]; rfl
      · have HC : Hid (ckNd (.mk 4 ⟨[], 0, 0, 0, [], false⟩ f no ks) = 4) := Lib.hid (by
          simp only [ckNd]; rw [if_neg (by omega), if_neg (by simp [leafK]), if_neg (by simp [At.zero]), if_pos ⟨by omega, by cases no <;> simp_all⟩])
        by_cases hf0 : f = []
        · subst hf0
          cases no
          · exact absurd ⟨rfl, rfl⟩ hf
          · clear hf
            go_enter Tryz.func30, Tryz.ntmps30
            go_wp2
            go_ret
            exact ⟨ret_int HC.out.symm, HB.out⟩
        · clear hf
          go_enter Tryz.func30, Tryz.ntmps30
          go_wp2
          go_ret
          exact ⟨ret_int HC.out.symm, HB.out⟩
    · exact ncheck_bad nm fl f op ver slot 4 on no A n c ks w (by decide) (by decide) ha
  · clear k1 k5
    by_cases ha : nm = [] ∧ op = 0 ∧ ver = 0 ∧ slot = 0 ∧ fl = [] ∧ on = false
    · obtain ⟨rfl, rfl, rfl, rfl, rfl, rfl⟩ := ha
      have hnm := fun wx => name_any ⟨f.toArray⟩ wx (by rw [bsz]; exact h3)
      rw [show (⟨f.toArray⟩ : ByteArray).data.toList = f from by simp] at hnm
      cases hn : isName f
      · rw [hn] at hnm
        have Hnm := Lib.hid hnm; clear hnm
        have HC : Hid (ckNd (.mk 5 ⟨[], 0, 0, 0, [], false⟩ f no ks) = 1) := Lib.hid (by
          simp only [ckNd]; rw [if_neg (by omega), if_neg (by simp [leafK]), if_neg (by simp [At.zero]), if_neg (by simp), if_pos ⟨by trivial, hn⟩])
        clear h1 h2 h3 hn
        go_enter Tryz.func30, Tryz.ntmps30
        go_wp2_with (first | (go_at_call 47; refine (Hnm.out _).mono ?_; rintro e w1 ⟨rfl, hb1⟩; refine Hid.out ?_))
        refine Lib.hid ?_
        have HB1 := Lib.hid (HB.out.trans (hb1.mono HB.out.size)); clear hb1
        go_wp2
        go_ret
        exact ⟨ret_int HC.out.symm, HB1.out⟩
      · rw [hn] at hnm
        have Hnm := Lib.hid hnm; clear hnm
        have HC : Hid (ckNd (.mk 5 ⟨[], 0, 0, 0, [], false⟩ f no ks) = ckKids ks) := Lib.hid (by
          simp only [ckNd]; rw [if_neg (by omega), if_neg (by simp [leafK]), if_neg (by simp [At.zero]), if_neg (by simp), if_neg (by simp [hn]), if_neg (by simp [leafK])])
        clear h1 h2 h3 hn
        have HW := Lib.hid (Whole.new w _ 26 [.int .i64 5, .string ⟨#[]⟩, .int .i64 0, .int .i64 0, .int .i64 0, .string ⟨#[]⟩, .bool false, .string ⟨f.toArray⟩, .bool no, .slice A n c] rfl)
        go_enter Tryz.func30, Tryz.ntmps30
        go_wp2_with (first | (go_at_call 47; refine (Hnm.out _).mono ?_; rintro e w1 ⟨rfl, hb1⟩; refine Hid.out ?_))
        refine Lib.hid ?_
        replace HB := Lib.hid (HB.out.trans (hb1.mono HB.out.size))
        have q9 := (HW.out.below hb1 HW.out.lt).cell 9
        simp only [List.getElem?_cons_zero, List.getElem?_cons_succ] at q9
        clear hb1 HW
        go_wp2
        go_loopg [70] n (fun g iv wr => ∃ (j : Nat), Hid (j + g = n) ∧ iv = .int .i64 j ∧ Hid (ckKids ks = ckKids (ks.drop j)) ∧ Below w.heap.size w wr)
        case atStart => exact ⟨0, Lib.hid (Nat.zero_add _), rfl, Lib.hid rfl, HB.out⟩
        case round =>
          obtain ⟨j, Hj, rfl, Hcl, hb⟩ := hrel
          have HBr := Lib.hid hb; clear hb
          by_cases hj : j < n
          · obtain ⟨b, o, x, y, rfl, hb, hy, hxy, hcell⟩ := (HK.out.under HBr.out HS.out).at_ hj
            have Hdr := Lib.hid (drop_step hy)
            have hmem := List.mem_of_getElem? hy
            obtain ⟨yk, ya, yf, yn, yks⟩ := y
            obtain ⟨A', n', c', rfl, -⟩ := hxy.open_
            have g0 := hcell 0 (by omega); have g1 := hcell 1 (by omega); have g2 := hcell 2 (by omega); have g3 := hcell 3 (by omega); have g4 := hcell 4 (by omega)
            have g5 := hcell 5 (by omega); have g6 := hcell 6 (by omega); have g7 := hcell 7 (by omega); have g8 := hcell 8 (by omega); have g9 := hcell 9 (by omega)
            clear hcell
            unfold ndRow at g0 g1 g2 g3 g4 g5 g6 g7 g8 g9
            simp only [List.getElem?_cons_zero, List.getElem?_cons_succ, Nat.add_zero] at g0 g1 g2 g3 g4 g5 g6 g7 g8 g9
            clear hy
            have hxy2 := (hxy.under (Below.refl _ wr |>.alloc (Nat.le_refl _) (.cells #[.int .i64 yk, .string ⟨ya.nm.toArray⟩, .int .i64 ya.op, .int .i64 ya.ver, .int .i64 ya.slot, .string ⟨ya.fl.toArray⟩, .bool ya.on, .string ⟨yf.toArray⟩, .bool yn, .slice A' n' c'] 26)) fun q hq => Nat.lt_of_lt_of_le (HS.out q hq) HBr.out.size)
            clear hxy
            have hcall := HI.out _ hmem S _ _ hxy2 (fun q hq => by have := HS.out q hq; have := HBr.out.size; simp; omega)
            unfold ndRow at hcall
            have HX : Hid (ckKids (ks.drop j) = if ckNd (.mk yk ya yf yn yks) = 0 then ckKids (ks.drop (j + 1)) else ckNd (.mk yk ya yf yn yks)) := Lib.hid (by rw [Hdr.out]; simp only [ckKids])
            generalize hq : ckNd (.mk yk ya yf yn yks) = q at hcall HX
            have HBn := Lib.hid (HBr.out.alloc HBr.out.size (.cells #[.int .i64 yk, .string ⟨ya.nm.toArray⟩, .int .i64 ya.op, .int .i64 ya.ver, .int .i64 ya.slot, .string ⟨ya.fl.toArray⟩, .bool ya.on, .string ⟨yf.toArray⟩, .bool yn, .slice A' n' c'] 26))
            clear hq hxy2
            have Hcall := Lib.hid hcall; clear hcall
            by_cases h0 : q = 0
            · subst h0
              go_wp2_with fail
              refine Hcall.out.mono ?_
              rintro e w' ⟨rfl, hb'⟩
              have HB' := Lib.hid (HBn.out.trans (hb'.mono HBn.out.size)); clear hb'
              go_wp2_with fail
              go_roundg (gk - 1)
              case measure => have := Hj.out; omega
              case rel => exact ⟨j + 1, Lib.hid (by have := Hj.out; omega), by go_num, Lib.hid (by rw [Hcl.out, HX.out]; simp), HB'.out⟩
            · have h1 : (q != 0) = true := by simpa using h0
              have H0 := Lib.hid h0; clear h0
              go_wp2_with fail
              refine Hcall.out.mono ?_
              rintro e w' ⟨rfl, hb'⟩
              have HB' := Lib.hid (HBn.out.trans (hb'.mono HBn.out.size)); clear hb'
              go_wp2_with fail
              go_ret
              exact ⟨ret_int (by rw [HC.out, Hcl.out, HX.out, if_neg H0.out]), HB'.out⟩
          · go_wp2_with fail
            go_ret
            refine ⟨ret_int ?_, HBr.out⟩
            rw [HC.out, Hcl.out, List.drop_of_length_le (by have := HK.out.len; omega)]; rfl
    · exact ncheck_bad nm fl f op ver slot 5 on no A n c ks w (by decide) (by decide) ha
end Go.Proofs.YtnkmonmkhmcgaaaGreatDoor
