/- Parts of the proof: walks and plain laws, side by side. -/
import Derived.Test.YtokibfankmjphaaGreatDoorM3
import Derived.Deep.AppendLies
import Derived.OwnWalk
import Derived.Maps.AppendAt
import Derived.Lib.AppendZerosOnto
import Derived.Lib.Walk
import Derived.Test.YtokibfankmjphaaGreatDoorShelf
import Derived.Deep.QuietTactic
import Derived.BigQuiet
import Derived.Deep.RegionHeld3
import Derived.Deep.DeepCutAuto
import Derived.Deep.CutBlock
import Derived.Test.YtokibfankmjphaaGreatDoorM1
import Derived.Test.YtokibfankmjphaaGreatDoorM2
set_option linter.unusedVariables false
set_option linter.unusedSimpArgs false
set_option linter.unusedSectionVars false
/- need.check and need.Check, walked. -/
namespace Go.Proofs.YtokibfankmjphaaGreatDoor
open Go.RowKit Qm

theorem atOf_mk (x : At) : atOf ⟨x.nm.toArray⟩ x.op x.ver x.slot ⟨x.fl.toArray⟩ x.on = x := by
  cases x; simp [atOf]
theorem bsz (l : Qm.W) : (⟨l.toArray⟩ : ByteArray).size = l.length := by simp [ByteArray.size]

set_option maxRecDepth 100000 in
set_option maxHeartbeats 3200000 in
theorem ncheck_bad (nm fl f : Qm.W) (op ver slot k : Int) (on no : Bool) (A : Option Addr) (n c : Nat) (ks : List Nd) (w : World) (k1 : 3 ≤ k) (k2 : k ≤ 5) (ha : ¬ (nm = [] ∧ op = 0 ∧ ver = 0 ∧ slot = 0 ∧ fl = [] ∧ on = false)) :
    Calls Tryz.prog 97 #[.agg (ndRow k ⟨nm, op, ver, slot, fl, on⟩ f no A n c).toArray] w fun e w' => e = .returned (.int .i64 (ckNd (.mk k ⟨nm, op, ver, slot, fl, on⟩ f no ks))) ∧ Below w.heap.size w w' := by
  unfold ndRow
  have HC : Hid (ckNd (.mk k ⟨nm, op, ver, slot, fl, on⟩ f no ks) = 4) := Lib.hid (by
    have hl : leafK k = false := by simp [leafK]; omega
    simp only [ckNd]; rw [if_neg (by omega), if_neg (by simp [hl]), if_pos ⟨hl, by simpa [At.zero] using ha⟩])
  have e1 : (k == 1) = false := by simp; omega
  have e2 : (k == 2) = false := by simp; omega
  have e3 : decide (k < 1) = false := by simp; omega
  have e4 : decide (5 < k) = false := by simp; omega
  have HB := Lib.hid ((Below.refl _ w).alloc (Nat.le_refl _) (.cells #[.int .i64 k, .string ⟨nm.toArray⟩, .int .i64 op, .int .i64 ver, .int .i64 slot, .string ⟨fl.toArray⟩, .bool on, .string ⟨f.toArray⟩, .bool no, .slice A n c] 46))
  by_cases c1 : nm = []
  · subst c1
    by_cases c2 : op = 0
    · subst c2
      by_cases c3 : ver = 0
      · subst c3
        by_cases c4 : slot = 0
        · subst c4
          by_cases c5 : fl = []
          · subst c5
            cases on
            · exact absurd ⟨rfl, rfl, rfl, rfl, rfl, rfl⟩ ha
            · clear ha
              go_enter Tryz.func97, Tryz.ntmps97
              go_wp2
              go_ret
              exact ⟨ret_int HC.out.symm, HB.out⟩
          · clear ha
            go_enter Tryz.func97, Tryz.ntmps97
            go_wp2
            go_ret
            exact ⟨ret_int HC.out.symm, HB.out⟩
        · clear ha
          go_enter Tryz.func97, Tryz.ntmps97
          go_wp2
          go_ret
          exact ⟨ret_int HC.out.symm, HB.out⟩
      · clear ha
        go_enter Tryz.func97, Tryz.ntmps97
        go_wp2
        go_ret
        exact ⟨ret_int HC.out.symm, HB.out⟩
    · clear ha
      go_enter Tryz.func97, Tryz.ntmps97
      go_wp2
      go_ret
      exact ⟨ret_int HC.out.symm, HB.out⟩
  · clear ha
    go_enter Tryz.func97, Tryz.ntmps97
    go_wp2
    go_ret
    exact ⟨ret_int HC.out.symm, HB.out⟩

set_option maxRecDepth 100000 in
set_option maxHeartbeats 3200000 in
theorem ncheck_any : ∀ (y : Nd) (S : Nat → Prop) (x : List Value) (w : World), RNd w S x y → (∀ k, S k → k < w.heap.size) →
    Calls Tryz.prog 97 #[.agg x.toArray] w fun e w' => e = .returned (.int .i64 (ckNd y)) ∧ Below w.heap.size w w' := by
  refine Nd.ind fun k a f no ks ih => ?_
  intro S x w hR hS
  have HI := Lib.hid ih; clear ih
  obtain ⟨A, n, c, rfl, hnc, hc, h1, h2, h3, hK⟩ := hR.open_
  clear hR
  have HS := Lib.hid hS; clear hS
  have HK := Lib.hid hK; clear hK
  unfold maxLen at hc
  obtain ⟨nm, op, ver, slot, fl, on⟩ := a
  unfold ndRow
  simp only [] at h1 h2 ⊢
  have HB := Lib.hid ((Below.refl _ w).alloc (Nat.le_refl _) (.cells #[.int .i64 k, .string ⟨nm.toArray⟩, .int .i64 op, .int .i64 ver, .int .i64 slot, .string ⟨fl.toArray⟩, .bool on, .string ⟨f.toArray⟩, .bool no, .slice A n c] 46))
  by_cases k1 : k < 1
  · have HC : Hid (ckNd (.mk k ⟨nm, op, ver, slot, fl, on⟩ f no ks) = 4) := Lib.hid (by simp only [ckNd]; rw [if_pos (.inl k1)])
    have e1 : (k == 1) = false := by simp; omega
    have e2 : (k == 2) = false := by simp; omega
    go_enter Tryz.func97, Tryz.ntmps97
    go_wp2
    go_ret
    exact ⟨ret_int HC.out.symm, HB.out⟩
  by_cases k5 : 5 < k
  · have HC : Hid (ckNd (.mk k ⟨nm, op, ver, slot, fl, on⟩ f no ks) = 4) := Lib.hid (by simp only [ckNd]; rw [if_pos (.inr k5)])
    have e1 : (k == 1) = false := by simp; omega
    have e2 : (k == 2) = false := by simp; omega
    go_enter Tryz.func97, Tryz.ntmps97
    go_wp2
    go_ret
    exact ⟨ret_int HC.out.symm, HB.out⟩
  rcases (show k = 1 ∨ k = 2 ∨ k = 3 ∨ k = 4 ∨ k = 5 by omega) with rfl | rfl | rfl | rfl | rfl
  · clear k1 k5
    by_cases hn : 0 < n
    · have HC : Hid (ckNd (.mk 1 ⟨nm, op, ver, slot, fl, on⟩ f no ks) = 4) := Lib.hid (by
        have := HK.out.len
        simp only [ckNd]; rw [if_neg (by omega), if_pos ⟨rfl, by omega⟩])
      have hn' : (0 : Int) < (n : Int) := by omega
      go_enter Tryz.func97, Tryz.ntmps97
      go_wp2
      go_ret
      exact ⟨ret_int HC.out.symm, HB.out⟩
    · obtain rfl : n = 0 := by omega
      by_cases hf : f = [] ∧ no = false
      · obtain ⟨rfl, rfl⟩ := hf
        have HC : Hid (ckNd (.mk 1 ⟨nm, op, ver, slot, fl, on⟩ [] false ks) = ckAtom ⟨nm, op, ver, slot, fl, on⟩) := Lib.hid (by
          have := HK.out.len
          simp only [ckNd]; rw [if_neg (by omega), if_neg (by simp [this]), if_neg (by simp [leafK]), if_neg (by simp), if_neg (by simp), if_pos (by rfl)])
        have hck := fun wx => check_any ⟨nm.toArray⟩ ⟨fl.toArray⟩ op ver slot on wx (by rw [bsz]; exact h1) (by rw [bsz]; exact h2)
        rw [show atOf ⟨nm.toArray⟩ op ver slot ⟨fl.toArray⟩ on = ⟨nm, op, ver, slot, fl, on⟩ from by simp [atOf]] at hck
        unfold atv at hck
        have Hck := Lib.hid hck; clear hck
        clear h1 h2 h3
        go_enter Tryz.func97, Tryz.ntmps97
        go_wp2_with (first | (go_at_call 23; refine (Hck.out _).mono ?_; rintro e w1 ⟨rfl, hb1⟩; refine Hid.out ?_))
        refine Lib.hid ?_
        have HB1 := Lib.hid (HB.out.trans (hb1.mono HB.out.size)); clear hb1
        go_wp2
        go_ret
        exact ⟨ret_int HC.out.symm, HB1.out⟩
      · have HC : Hid (ckNd (.mk 1 ⟨nm, op, ver, slot, fl, on⟩ f no ks) = 4) := Lib.hid (by
          have := HK.out.len
          simp only [ckNd]; rw [if_neg (by omega), if_neg (by simp [this]), if_neg (by simp [leafK]), if_pos ⟨by omega, by cases no <;> simp_all⟩])
        by_cases hf0 : f = []
        · subst hf0
          cases no
          · exact absurd ⟨rfl, rfl⟩ hf
          · clear hf
            go_enter Tryz.func97, Tryz.ntmps97
            go_wp2
            go_ret
            exact ⟨ret_int HC.out.symm, HB.out⟩
        · clear hf
          go_enter Tryz.func97, Tryz.ntmps97
          go_wp2
          go_ret
          exact ⟨ret_int HC.out.symm, HB.out⟩
  · clear k1 k5
    by_cases hn : 0 < n
    · have HC : Hid (ckNd (.mk 2 ⟨nm, op, ver, slot, fl, on⟩ f no ks) = 4) := Lib.hid (by
        have := HK.out.len
        simp only [ckNd]; rw [if_neg (by omega), if_pos ⟨rfl, by omega⟩])
      have hn' : (0 : Int) < (n : Int) := by omega
      go_enter Tryz.func97, Tryz.ntmps97
      go_wp2
      go_ret
      exact ⟨ret_int HC.out.symm, HB.out⟩
    · obtain rfl : n = 0 := by omega
      by_cases hf : f = [] ∧ no = false
      · obtain ⟨rfl, rfl⟩ := hf
        have HC : Hid (ckNd (.mk 2 ⟨nm, op, ver, slot, fl, on⟩ [] false ks) = ckAtom ⟨nm, op, ver, slot, fl, on⟩) := Lib.hid (by
          have := HK.out.len
          simp only [ckNd]; rw [if_neg (by omega), if_neg (by simp [this]), if_neg (by simp [leafK]), if_neg (by simp), if_neg (by simp), if_pos (by rfl)])
        have hck := fun wx => check_any ⟨nm.toArray⟩ ⟨fl.toArray⟩ op ver slot on wx (by rw [bsz]; exact h1) (by rw [bsz]; exact h2)
        rw [show atOf ⟨nm.toArray⟩ op ver slot ⟨fl.toArray⟩ on = ⟨nm, op, ver, slot, fl, on⟩ from by simp [atOf]] at hck
        unfold atv at hck
        have Hck := Lib.hid hck; clear hck
        clear h1 h2 h3
        go_enter Tryz.func97, Tryz.ntmps97
        go_wp2_with (first | (go_at_call 23; refine (Hck.out _).mono ?_; rintro e w1 ⟨rfl, hb1⟩; refine Hid.out ?_))
        refine Lib.hid ?_
        have HB1 := Lib.hid (HB.out.trans (hb1.mono HB.out.size)); clear hb1
        go_wp2
        go_ret
        exact ⟨ret_int HC.out.symm, HB1.out⟩
      · have HC : Hid (ckNd (.mk 2 ⟨nm, op, ver, slot, fl, on⟩ f no ks) = 4) := Lib.hid (by
          have := HK.out.len
          simp only [ckNd]; rw [if_neg (by omega), if_neg (by simp [this]), if_neg (by simp [leafK]), if_pos ⟨by omega, by cases no <;> simp_all⟩])
        by_cases hf0 : f = []
        · subst hf0
          cases no
          · exact absurd ⟨rfl, rfl⟩ hf
          · clear hf
            go_enter Tryz.func97, Tryz.ntmps97
            go_wp2
            go_ret
            exact ⟨ret_int HC.out.symm, HB.out⟩
        · clear hf
          go_enter Tryz.func97, Tryz.ntmps97
          go_wp2
          go_ret
          exact ⟨ret_int HC.out.symm, HB.out⟩
  · clear k1 k5
    by_cases ha : nm = [] ∧ op = 0 ∧ ver = 0 ∧ slot = 0 ∧ fl = [] ∧ on = false
    · obtain ⟨rfl, rfl, rfl, rfl, rfl, rfl⟩ := ha
      by_cases hf : f = [] ∧ no = false
      · obtain ⟨rfl, rfl⟩ := hf
        have HC : Hid (ckNd (.mk 3 ⟨[], 0, 0, 0, [], false⟩ [] false ks) = ckKids ks) := Lib.hid (by
          simp only [ckNd]; rw [if_neg (by omega), if_neg (by simp [leafK]), if_neg (by simp [At.zero]), if_neg (by simp), if_neg (by simp), if_neg (by simp [leafK])])
        clear h1 h2 h3
        go_enter Tryz.func97, Tryz.ntmps97
        go_wp2
        go_loopg [70] n (fun g iv wr => ∃ (j : Nat), Hid (j + g = n) ∧ iv = .int .i64 j ∧ Hid (ckKids ks = ckKids (ks.drop j)) ∧ Below w.heap.size w wr)
        case atStart => exact ⟨0, Lib.hid (Nat.zero_add _), rfl, Lib.hid rfl, HB.out⟩
        case round =>
          obtain ⟨j, Hj, rfl, Hcl, hb⟩ := hrel
          have HBr := Lib.hid hb; clear hb
          by_cases hj : j < n
          · obtain ⟨b, o, x, y, rfl, hb, hy, hxy, hcell⟩ := (HK.out.under HBr.out HS.out).at_ hj
            have Hdr := Lib.hid (drop_step hy)
            have hmem := List.mem_of_getElem? hy
            obtain ⟨yk, ya, yf, yn, yks⟩ := y
            obtain ⟨A', n', c', rfl, -⟩ := hxy.open_
            have g0 := hcell 0 (by omega); have g1 := hcell 1 (by omega); have g2 := hcell 2 (by omega); have g3 := hcell 3 (by omega); have g4 := hcell 4 (by omega)
            have g5 := hcell 5 (by omega); have g6 := hcell 6 (by omega); have g7 := hcell 7 (by omega); have g8 := hcell 8 (by omega); have g9 := hcell 9 (by omega)
            clear hcell
            unfold ndRow at g0 g1 g2 g3 g4 g5 g6 g7 g8 g9
            simp only [List.getElem?_cons_zero, List.getElem?_cons_succ, Nat.add_zero] at g0 g1 g2 g3 g4 g5 g6 g7 g8 g9
            clear hy
            have hxy2 := (hxy.under (Below.refl _ wr |>.alloc (Nat.le_refl _) (.cells #[.int .i64 yk, .string ⟨ya.nm.toArray⟩, .int .i64 ya.op, .int .i64 ya.ver, .int .i64 ya.slot, .string ⟨ya.fl.toArray⟩, .bool ya.on, .string ⟨yf.toArray⟩, .bool yn, .slice A' n' c'] 46)) fun q hq => Nat.lt_of_lt_of_le (HS.out q hq) HBr.out.size)
            clear hxy
            have hcall := HI.out _ hmem S _ _ hxy2 (fun q hq => by have := HS.out q hq; have := HBr.out.size; simp; omega)
            unfold ndRow at hcall
            have HX : Hid (ckKids (ks.drop j) = if ckNd (.mk yk ya yf yn yks) = 0 then ckKids (ks.drop (j + 1)) else ckNd (.mk yk ya yf yn yks)) := Lib.hid (by rw [Hdr.out]; simp only [ckKids])
            generalize hq : ckNd (.mk yk ya yf yn yks) = q at hcall HX
            have HBn := Lib.hid (HBr.out.alloc HBr.out.size (.cells #[.int .i64 yk, .string ⟨ya.nm.toArray⟩, .int .i64 ya.op, .int .i64 ya.ver, .int .i64 ya.slot, .string ⟨ya.fl.toArray⟩, .bool ya.on, .string ⟨yf.toArray⟩, .bool yn, .slice A' n' c'] 46))
            clear hq hxy2
            have Hcall := Lib.hid hcall; clear hcall
            by_cases h0 : q = 0
            · subst h0
              go_wp2_with fail
              refine Hcall.out.mono ?_
              rintro e w' ⟨rfl, hb'⟩
              have HB' := Lib.hid (HBn.out.trans (hb'.mono HBn.out.size)); clear hb'
              go_wp2_with fail
              go_roundg (gk - 1)
              case measure => have := Hj.out; omega
              case rel => exact ⟨j + 1, Lib.hid (by have := Hj.out; omega), by go_num, Lib.hid (by rw [Hcl.out, HX.out]; simp), HB'.out⟩
            · have h1 : (q != 0) = true := by simpa using h0
              have H0 := Lib.hid h0; clear h0
              go_wp2_with fail
              refine Hcall.out.mono ?_
              rintro e w' ⟨rfl, hb'⟩
              have HB' := Lib.hid (HBn.out.trans (hb'.mono HBn.out.size)); clear hb'
              go_wp2_with fail
              go_ret
              exact ⟨ret_int (by rw [HC.out, Hcl.out, HX.out, if_neg H0.out]), HB'.out⟩
          · go_wp2_with fail
            go_ret
            refine ⟨ret_int ?_, HBr.out⟩
            rw [HC.out, Hcl.out, List.drop_of_length_le (by have := HK.out.len; omega)]; rfl
      · have HC : Hid (ckNd (.mk 3 ⟨[], 0, 0, 0, [], false⟩ f no ks) = 4) := Lib.hid (by
          simp only [ckNd]; rw [if_neg (by omega), if_neg (by simp [leafK]), if_neg (by simp [At.zero]), if_pos ⟨by omega, by cases no <;> simp_all⟩])
        by_cases hf0 : f = []
        · subst hf0
          cases no
          · exact absurd ⟨rfl, rfl⟩ hf
          · clear hf
            go_enter Tryz.func97, Tryz.ntmps97
            go_wp2
            go_ret
            exact ⟨ret_int HC.out.symm, HB.out⟩
        · clear hf
          go_enter Tryz.func97, Tryz.ntmps97
          go_wp2
          go_ret
          exact ⟨ret_int HC.out.symm, HB.out⟩
    · exact ncheck_bad nm fl f op ver slot 3 on no A n c ks w (by decide) (by decide) ha
  · clear k1 k5
    by_cases ha : nm = [] ∧ op = 0 ∧ ver = 0 ∧ slot = 0 ∧ fl = [] ∧ on = false
    · obtain ⟨rfl, rfl, rfl, rfl, rfl, rfl⟩ := ha
      by_cases hf : f = [] ∧ no = false
      · obtain ⟨rfl, rfl⟩ := hf
        have HC : Hid (ckNd (.mk 4 ⟨[], 0, 0, 0, [], false⟩ [] false ks) = ckKids ks) := Lib.hid (by
          simp only [ckNd]; rw [if_neg (by omega), if_neg (by simp [leafK]), if_neg (by simp [At.zero]), if_neg (by simp), if_neg (by simp), if_neg (by simp [leafK])])
        clear h1 h2 h3
        go_enter Tryz.func97, Tryz.ntmps97
        go_wp2
        go_loopg [70] n (fun g iv wr => ∃ (j : Nat), Hid (j + g = n) ∧ iv = .int .i64 j ∧ Hid (ckKids ks = ckKids (ks.drop j)) ∧ Below w.heap.size w wr)
        case atStart => exact ⟨0, Lib.hid (Nat.zero_add _), rfl, Lib.hid rfl, HB.out⟩
        case round =>
          obtain ⟨j, Hj, rfl, Hcl, hb⟩ := hrel
          have HBr := Lib.hid hb; clear hb
          by_cases hj : j < n
          · obtain ⟨b, o, x, y, rfl, hb, hy, hxy, hcell⟩ := (HK.out.under HBr.out HS.out).at_ hj
            have Hdr := Lib.hid (drop_step hy)
            have hmem := List.mem_of_getElem? hy
            obtain ⟨yk, ya, yf, yn, yks⟩ := y
            obtain ⟨A', n', c', rfl, -⟩ := hxy.open_
            have g0 := hcell 0 (by omega); have g1 := hcell 1 (by omega); have g2 := hcell 2 (by omega); have g3 := hcell 3 (by omega); have g4 := hcell 4 (by omega)
            have g5 := hcell 5 (by omega); have g6 := hcell 6 (by omega); have g7 := hcell 7 (by omega); have g8 := hcell 8 (by omega); have g9 := hcell 9 (by omega)
            clear hcell
            unfold ndRow at g0 g1 g2 g3 g4 g5 g6 g7 g8 g9
            simp only [List.getElem?_cons_zero, List.getElem?_cons_succ, Nat.add_zero] at g0 g1 g2 g3 g4 g5 g6 g7 g8 g9
            clear hy
            have hxy2 := (hxy.under (Below.refl _ wr |>.alloc (Nat.le_refl _) (.cells #[.int .i64 yk, .string ⟨ya.nm.toArray⟩, .int .i64 ya.op, .int .i64 ya.ver, .int .i64 ya.slot, .string ⟨ya.fl.toArray⟩, .bool ya.on, .string ⟨yf.toArray⟩, .bool yn, .slice A' n' c'] 46)) fun q hq => Nat.lt_of_lt_of_le (HS.out q hq) HBr.out.size)
            clear hxy
            have hcall := HI.out _ hmem S _ _ hxy2 (fun q hq => by have := HS.out q hq; have := HBr.out.size; simp; omega)
            unfold ndRow at hcall
            have HX : Hid (ckKids (ks.drop j) = if ckNd (.mk yk ya yf yn yks) = 0 then ckKids (ks.drop (j + 1)) else ckNd (.mk yk ya yf yn yks)) := Lib.hid (by rw [Hdr.out]; simp only [ckKids])
            generalize hq : ckNd (.mk yk ya yf yn yks) = q at hcall HX
            have HBn := Lib.hid (HBr.out.alloc HBr.out.size (.cells #[.int .i64 yk, .string ⟨ya.nm.toArray⟩, .int .i64 ya.op, .int .i64 ya.ver, .int .i64 ya.slot, .string ⟨ya.fl.toArray⟩, .bool ya.on, .string ⟨yf.toArray⟩, .bool yn, .slice A' n' c'] 46))
            clear hq hxy2
            have Hcall := Lib.hid hcall; clear hcall
            by_cases h0 : q = 0
            · subst h0
              go_wp2_with fail
              refine Hcall.out.mono ?_
              rintro e w' ⟨rfl, hb'⟩
              have HB' := Lib.hid (HBn.out.trans (hb'.mono HBn.out.size)); clear hb'
              go_wp2_with fail
              go_roundg (gk - 1)
              case measure => have := Hj.out; omega
              case rel => exact ⟨j + 1, Lib.hid (by have := Hj.out; omega), by go_num, Lib.hid (by rw [Hcl.out, HX.out]; simp), HB'.out⟩
            · have h1 : (q != 0) = true := by simpa using h0
              have H0 := Lib.hid h0; clear h0
              go_wp2_with fail
              refine Hcall.out.mono ?_
              rintro e w' ⟨rfl, hb'⟩
              have HB' := Lib.hid (HBn.out.trans (hb'.mono HBn.out.size)); clear hb'
              go_wp2_with fail
              go_ret
              exact ⟨ret_int (by rw [HC.out, Hcl.out, HX.out, if_neg H0.out]), HB'.out⟩
          · go_wp2_with fail
            go_ret
            refine ⟨ret_int ?_, HBr.out⟩
            rw [HC.out, Hcl.out, List.drop_of_length_le (by have := HK.out.len; omega)]; rfl
      · have HC : Hid (ckNd (.mk 4 ⟨[], 0, 0, 0, [], false⟩ f no ks) = 4) := Lib.hid (by
          simp only [ckNd]; rw [if_neg (by omega), if_neg (by simp [leafK]), if_neg (by simp [At.zero]), if_pos ⟨by omega, by cases no <;> simp_all⟩])
        by_cases hf0 : f = []
        · subst hf0
          cases no
          · exact absurd ⟨rfl, rfl⟩ hf
          · clear hf
            go_enter Tryz.func97, Tryz.ntmps97
            go_wp2
            go_ret
            exact ⟨ret_int HC.out.symm, HB.out⟩
        · clear hf
          go_enter Tryz.func97, Tryz.ntmps97
          go_wp2
          go_ret
          exact ⟨ret_int HC.out.symm, HB.out⟩
    · exact ncheck_bad nm fl f op ver slot 4 on no A n c ks w (by decide) (by decide) ha
  · clear k1 k5
    by_cases ha : nm = [] ∧ op = 0 ∧ ver = 0 ∧ slot = 0 ∧ fl = [] ∧ on = false
    · obtain ⟨rfl, rfl, rfl, rfl, rfl, rfl⟩ := ha
      have hnm := fun wx => name_any ⟨f.toArray⟩ wx (by rw [bsz]; exact h3)
      rw [show (⟨f.toArray⟩ : ByteArray).data.toList = f from by simp] at hnm
      cases hn : isName f
      · rw [hn] at hnm
        have Hnm := Lib.hid hnm; clear hnm
        have HC : Hid (ckNd (.mk 5 ⟨[], 0, 0, 0, [], false⟩ f no ks) = 1) := Lib.hid (by
          simp only [ckNd]; rw [if_neg (by omega), if_neg (by simp [leafK]), if_neg (by simp [At.zero]), if_neg (by simp), if_pos ⟨by trivial, hn⟩])
        clear h1 h2 h3 hn
        go_enter Tryz.func97, Tryz.ntmps97
        go_wp2_with (first | (go_at_call 45; refine (Hnm.out _).mono ?_; rintro e w1 ⟨rfl, hb1⟩; refine Hid.out ?_))
        refine Lib.hid ?_
        have HB1 := Lib.hid (HB.out.trans (hb1.mono HB.out.size)); clear hb1
        go_wp2
        go_ret
        exact ⟨ret_int HC.out.symm, HB1.out⟩
      · rw [hn] at hnm
        have Hnm := Lib.hid hnm; clear hnm
        have HC : Hid (ckNd (.mk 5 ⟨[], 0, 0, 0, [], false⟩ f no ks) = ckKids ks) := Lib.hid (by
          simp only [ckNd]; rw [if_neg (by omega), if_neg (by simp [leafK]), if_neg (by simp [At.zero]), if_neg (by simp), if_neg (by simp [hn]), if_neg (by simp [leafK])])
        clear h1 h2 h3 hn
        have HW := Lib.hid (Whole.new w _ 46 [.int .i64 5, .string ⟨#[]⟩, .int .i64 0, .int .i64 0, .int .i64 0, .string ⟨#[]⟩, .bool false, .string ⟨f.toArray⟩, .bool no, .slice A n c] rfl)
        go_enter Tryz.func97, Tryz.ntmps97
        go_wp2_with (first | (go_at_call 45; refine (Hnm.out _).mono ?_; rintro e w1 ⟨rfl, hb1⟩; refine Hid.out ?_))
        refine Lib.hid ?_
        replace HB := Lib.hid (HB.out.trans (hb1.mono HB.out.size))
        have q9 := (HW.out.below hb1 HW.out.lt).cell 9
        simp only [List.getElem?_cons_zero, List.getElem?_cons_succ] at q9
        clear hb1 HW
        go_wp2
        go_loopg [70] n (fun g iv wr => ∃ (j : Nat), Hid (j + g = n) ∧ iv = .int .i64 j ∧ Hid (ckKids ks = ckKids (ks.drop j)) ∧ Below w.heap.size w wr)
        case atStart => exact ⟨0, Lib.hid (Nat.zero_add _), rfl, Lib.hid rfl, HB.out⟩
        case round =>
          obtain ⟨j, Hj, rfl, Hcl, hb⟩ := hrel
          have HBr := Lib.hid hb; clear hb
          by_cases hj : j < n
          · obtain ⟨b, o, x, y, rfl, hb, hy, hxy, hcell⟩ := (HK.out.under HBr.out HS.out).at_ hj
            have Hdr := Lib.hid (drop_step hy)
            have hmem := List.mem_of_getElem? hy
            obtain ⟨yk, ya, yf, yn, yks⟩ := y
            obtain ⟨A', n', c', rfl, -⟩ := hxy.open_
            have g0 := hcell 0 (by omega); have g1 := hcell 1 (by omega); have g2 := hcell 2 (by omega); have g3 := hcell 3 (by omega); have g4 := hcell 4 (by omega)
            have g5 := hcell 5 (by omega); have g6 := hcell 6 (by omega); have g7 := hcell 7 (by omega); have g8 := hcell 8 (by omega); have g9 := hcell 9 (by omega)
            clear hcell
            unfold ndRow at g0 g1 g2 g3 g4 g5 g6 g7 g8 g9
            simp only [List.getElem?_cons_zero, List.getElem?_cons_succ, Nat.add_zero] at g0 g1 g2 g3 g4 g5 g6 g7 g8 g9
            clear hy
            have hxy2 := (hxy.under (Below.refl _ wr |>.alloc (Nat.le_refl _) (.cells #[.int .i64 yk, .string ⟨ya.nm.toArray⟩, .int .i64 ya.op, .int .i64 ya.ver, .int .i64 ya.slot, .string ⟨ya.fl.toArray⟩, .bool ya.on, .string ⟨yf.toArray⟩, .bool yn, .slice A' n' c'] 46)) fun q hq => Nat.lt_of_lt_of_le (HS.out q hq) HBr.out.size)
            clear hxy
            have hcall := HI.out _ hmem S _ _ hxy2 (fun q hq => by have := HS.out q hq; have := HBr.out.size; simp; omega)
            unfold ndRow at hcall
            have HX : Hid (ckKids (ks.drop j) = if ckNd (.mk yk ya yf yn yks) = 0 then ckKids (ks.drop (j + 1)) else ckNd (.mk yk ya yf yn yks)) := Lib.hid (by rw [Hdr.out]; simp only [ckKids])
            generalize hq : ckNd (.mk yk ya yf yn yks) = q at hcall HX
            have HBn := Lib.hid (HBr.out.alloc HBr.out.size (.cells #[.int .i64 yk, .string ⟨ya.nm.toArray⟩, .int .i64 ya.op, .int .i64 ya.ver, .int .i64 ya.slot, .string ⟨ya.fl.toArray⟩, .bool ya.on, .string ⟨yf.toArray⟩, .bool yn, .slice A' n' c'] 46))
            clear hq hxy2
            have Hcall := Lib.hid hcall; clear hcall
            by_cases h0 : q = 0
            · subst h0
              go_wp2_with fail
              refine Hcall.out.mono ?_
              rintro e w' ⟨rfl, hb'⟩
              have HB' := Lib.hid (HBn.out.trans (hb'.mono HBn.out.size)); clear hb'
              go_wp2_with fail
              go_roundg (gk - 1)
              case measure => have := Hj.out; omega
              case rel => exact ⟨j + 1, Lib.hid (by have := Hj.out; omega), by go_num, Lib.hid (by rw [Hcl.out, HX.out]; simp), HB'.out⟩
            · have h1 : (q != 0) = true := by simpa using h0
              have H0 := Lib.hid h0; clear h0
              go_wp2_with fail
              refine Hcall.out.mono ?_
              rintro e w' ⟨rfl, hb'⟩
              have HB' := Lib.hid (HBn.out.trans (hb'.mono HBn.out.size)); clear hb'
              go_wp2_with fail
              go_ret
              exact ⟨ret_int (by rw [HC.out, Hcl.out, HX.out, if_neg H0.out]), HB'.out⟩
          · go_wp2_with fail
            go_ret
            refine ⟨ret_int ?_, HBr.out⟩
            rw [HC.out, Hcl.out, List.drop_of_length_le (by have := HK.out.len; omega)]; rfl
    · exact ncheck_bad nm fl f op ver slot 5 on no A n c ks w (by decide) (by decide) ha
end Go.Proofs.YtokibfankmjphaaGreatDoor

/- need.Check, need.Same, walked. -/
namespace Go.Proofs.YtokibfankmjphaaGreatDoor
open Go.RowKit Qm

set_option maxHeartbeats 1600000 in
theorem nCheck_any (y : Nd) (S : Nat → Prop) (x : List Value) (w : World) (hR : RNd w S x y) (hS : ∀ k, S k → k < w.heap.size) :
    Calls Tryz.prog 74 #[.agg x.toArray] w fun e w' => e = .returned (.int .i64 (ckNeed y)) ∧ Below w.heap.size w w' := by
  obtain ⟨k, a, f, no, ks⟩ := y
  obtain ⟨A, n, c, rfl, -⟩ := hR.open_
  have HB := Lib.hid ((Below.refl _ w).alloc (Nat.le_refl _) (.cells (ndRow k a f no A n c).toArray 46))
  have HW := Lib.hid (Whole.new w _ 46 (ndRow k a f no A n c) rfl)
  have hR1 := hR.under HB.out hS
  have hc1 := fun wx hw => count_any (.mk k a f no ks) S (ndRow k a f no A n c) 1 20 wx hw
  have hc2 := fun wx hw => ncheck_any (.mk k a f no ks) S (ndRow k a f no A n c) wx hw
  have HM := Lib.hid (cnt_many (.mk k a f no ks))
  have HK : Hid (ckNeed (.mk k a f no ks) = if tooMany (.mk k a f no ks) then 2 else ckNd (.mk k a f no ks)) := Lib.hid rfl
  generalize ckNeed (.mk k a f no ks) = R at HK ⊢
  generalize hq : cnt (.mk k a f no ks) 1 20 = q at hc1 HM
  generalize ckNd (.mk k a f no ks) = z at hc2 HK
  clear hq
  have HR := Lib.hid hR1; have HS := Lib.hid hS; clear hR hR1 hS
  unfold ndRow at hc1 hc2 HW HB HR ⊢
  have Hc1 := Lib.hid hc1; have Hc2 := Lib.hid hc2; clear hc1 hc2
  rcases q with _ | q
  · have HE : Hid (R = 2) := Lib.hid (by rw [HK.out, if_pos (HM.out.2 rfl)])
    go_enter Tryz.func74, Tryz.ntmps74
    go_wp2_with (first | (go_at_call 96; refine (Hc1.out _ HR.out (fun k hk => Nat.lt_of_lt_of_le (HS.out k hk) HB.out.size) (by decide) (by decide) (by decide) (by decide)).mono ?_; unfold cntV; rintro e w1 ⟨rfl, hb1⟩; refine Hid.out ?_))
    refine Lib.hid ?_
    have HB1 := Lib.hid (HB.out.trans (hb1.mono HB.out.size)); clear hb1
    go_wp2
    go_ret
    exact ⟨ret_int HE.out.symm, HB1.out⟩
  · have hM := HM.out.1 q rfl
    by_cases h20 : 20 < q
    · have HE : Hid (R = 2) := Lib.hid (by rw [HK.out, if_pos (hM.1 h20)])
      clear hM
      go_enter Tryz.func74, Tryz.ntmps74
      go_wp2_with (first | (go_at_call 96; refine (Hc1.out _ HR.out (fun k hk => Nat.lt_of_lt_of_le (HS.out k hk) HB.out.size) (by decide) (by decide) (by decide) (by decide)).mono ?_; unfold cntV; rintro e w1 ⟨rfl, hb1⟩; refine Hid.out ?_))
      refine Lib.hid ?_
      have HB1 := Lib.hid (HB.out.trans (hb1.mono HB.out.size)); clear hb1
      go_wp2
      go_ret
      exact ⟨ret_int HE.out.symm, HB1.out⟩
    · have HE : Hid (R = z) := Lib.hid (by rw [HK.out, if_neg fun h => h20 (hM.2 h)])
      have h20' : decide ((20 : Int) < q) = false := by simpa using h20
      clear hM
      go_enter Tryz.func74, Tryz.ntmps74
      go_wp2_with (first | (go_at_call 96; refine (Hc1.out _ HR.out (fun k hk => Nat.lt_of_lt_of_le (HS.out k hk) HB.out.size) (by decide) (by decide) (by decide) (by decide)).mono ?_; unfold cntV; rintro e w1 ⟨rfl, hb1⟩; refine Hid.out ?_))
      refine Lib.hid ?_
      have HB1 := Lib.hid (HB.out.trans (hb1.mono HB.out.size))
      have HR1 := Lib.hid (HR.out.under hb1 fun k hk => Nat.lt_of_lt_of_le (HS.out k hk) HB.out.size)
      have HW1 := Lib.hid (HW.out.below hb1 HW.out.lt); clear hb1
      have g0 := HW1.out.cell 0; have g1 := HW1.out.cell 1; have g2 := HW1.out.cell 2; have g3 := HW1.out.cell 3; have g4 := HW1.out.cell 4
      have g5 := HW1.out.cell 5; have g6 := HW1.out.cell 6; have g7 := HW1.out.cell 7; have g8 := HW1.out.cell 8; have g9 := HW1.out.cell 9
      simp only [List.getElem?_cons_zero, List.getElem?_cons_succ] at g0 g1 g2 g3 g4 g5 g6 g7 g8 g9
      go_wp2_with (first | (go_at_call 97; refine (Hc2.out _ HR1.out (fun k hk => Nat.lt_of_lt_of_le (HS.out k hk) HB1.out.size)).mono ?_; rintro e w2 ⟨rfl, hb2⟩; refine Hid.out ?_))
      refine Lib.hid ?_
      have HB2 := Lib.hid (HB1.out.trans (hb2.mono HB1.out.size)); clear hb2
      go_wp2
      go_ret
      exact ⟨ret_int HE.out.symm, HB2.out⟩

end Go.Proofs.YtokibfankmjphaaGreatDoor

/- Laws: append of whatever row. -/
namespace Go.Proofs.YtokibfankmjphaaGreatDoor
open Go.RowKit
theorem own_form {w : World} {base : Nat} {e : TypeId} {v : Value} {n : Nat} {vs : List Value} (h : w.ownsRow base e 1 v n vs) : ∃ (A : Option Addr) (c : Nat), v = .slice A n c ∧ n ≤ c ∧ c ≤ maxLen ∧ Row w (fun k => base ≤ k ∧ k < w.heap.size) A n vs := by
  have h' := h
  rcases h'.2 with ⟨rfl, rfl⟩ | ⟨g, cap, cur, rfl, hb, hh, hc, hm, _⟩
  · exact ⟨none, 0, rfl, Nat.le_refl _, Nat.zero_le _, by have := h.1; simpa using this, fun h => absurd h (by omega)⟩
  · exact ⟨_, cap, rfl, hc, hm, row_of_own h (fun g' e => by simp [Value.ownBlock] at e; subst e; exact ⟨hb, lt_of_block hh⟩)⟩
theorem own_formK {w : World} {base : Nat} {e : TypeId} {size : Nat} {v : Value} {n : Nat} {vs : List Value} (h : w.ownsRow base e size v n vs) : ∃ (A : Option Addr) (c : Nat), v = .slice A n c ∧ n ≤ c ∧ c ≤ maxLen ∧ Row w (fun k => v.ownBlock = some k) A (n * size) vs := by
  rcases h.2 with ⟨rfl, rfl⟩ | ⟨g, cap, cur, rfl, hb, hh, hc, hm, hs, ht⟩
  · exact ⟨none, 0, rfl, Nat.le_refl _, Nat.zero_le _, by have := h.1; simpa using this, fun h => absurd h (by omega)⟩
  · refine ⟨_, cap, rfl, hc, hm, h.1, fun hn => ⟨g, 0, rfl, rfl, fun j hj => ?_⟩⟩
    have hj' : j < cur.size := by rw [hs]; exact Nat.lt_of_lt_of_le hj (Nat.mul_le_mul_right _ hc)
    rw [cell_of_row w g _ _ _ (0, 0) hh, Nat.zero_add, ← ht, List.getElem?_take_of_lt hj]
    simp
theorem news_of_row {w : World} {S : Nat → Prop} {b o n : Nat} {vs : List Value} (h : Row w S (some ⟨b, o, none⟩) n vs) : ∀ j u, vs[j]? = some u → w.cell? ((⟨b, o, none⟩ : Addr).add j) = some u := by
  intro j u hj
  have hjn : j < n := by have := (List.getElem?_eq_some_iff.1 hj).1; rw [h.len] at this; exact this
  obtain ⟨b', o', e, _, hc⟩ := h.at_ hjn
  injection e with e; injection e with e1 e2
  subst e1 e2
  have hadd : (⟨b, o, none⟩ : Addr).add j = ⟨b, o + j, none⟩ := by unfold Addr.add; split <;> simp_all
  rw [hadd, hc, hj]
theorem Row.some_lit {w : World} {S : Nat → Prop} {A : Option Addr} {n : Nat} {vs : List Value} (h : Row w S A n vs) (hn : 0 < n) : ∃ b o, A = some ⟨b, o, none⟩ ∧ S b := by
  obtain ⟨b, o, e, hS, _⟩ := h.at_ hn
  exact ⟨b, o, e, hS⟩
theorem run_append_row {P : Program} (w : World) (base : Nat) (t ty e : TypeId) (i : TypeInfo) (z : Value) (bytes : Nat) (ht : P.underlying t = some (.slice e)) (hi : P.info? e = some i) (hz : i.zero = some z)
    (hsize : i.size = 1) (hby : i.bytes = bytes) (hzs : z.cells.size = 1) (v : Value) (n : Nat) (xs : List Value) (hown : w.ownsRow base e 1 v n xs)
    (A : Option Addr) (m c : Nat) (news : List Value) (S : Nat → Prop) (hrow : Row w S A m news) (h1 : ∀ u ∈ news, u.oneCell' = true)
    (h63 : n + m ≤ maxLen) (hbytes : (n + m) * bytes ≤ 140737488355328) (hbase : base ≤ w.heap.size) :
    ∃ v' w', (Builtin.append_ #[t, t] ty #[v, .slice A m c]).run P w = .ok v' w' ∧ w'.ownsRow base e 1 v' (n + m) (xs ++ news) ∧ w.grownBy w' v.ownBlock := by
  cases A with
  | none =>
    obtain rfl : m = 0 := by
      by_cases h0 : 0 < m
      · obtain ⟨b, o, e, _⟩ := hrow.some_lit h0; cases e
      · omega
    obtain rfl : news = [] := List.eq_nil_of_length_eq_zero hrow.len
    refine ⟨v, w, ?_, by simpa using hown, World.grownBy.refl _ _⟩
    rcases hown.2 with ⟨rfl, rfl⟩ | ⟨g, cap, cur, rfl, _, _, hnc, _⟩
    · simp [Builtin.append_, run_underlying ht, sizeOf, typeInfo, hi, Builtin.lenOf, Builtin.firstCells]
    · simp [Builtin.append_, run_underlying ht, sizeOf, typeInfo, hi, Builtin.lenOf, Builtin.firstCells, hnc, storeCells]
  | some ad =>
    have hnews : ∀ j u, news[j]? = some u → w.cell? (ad.add j) = some u := by
      intro j u hj
      have hjn : j < m := by have := (List.getElem?_eq_some_iff.1 hj).1; rw [hrow.len] at this; exact this
      obtain ⟨b, o, e, _⟩ := hrow.some_lit (by omega)
      injection e with e
      subst e
      exact news_of_row hrow j u hj
    obtain ⟨v', w', hr, h2, h3, _⟩ := run_append_own (P := P) w base t ty e i z 1 bytes ht hi hz hsize hby hzs (by decide) v n xs hown ad m c news (by rw [hrow.len, Nat.mul_one]) hnews h1 h63 hbytes hbase
    exact ⟨v', w', hr, h2, h3⟩
theorem wpList_append_row {P : Program} {w : World} {ops : Array Oper} {rest : List Oper} {o : Oper} {a : Act} {Q : Exit → Act → World → Prop} (hgd : o.guard = none) (s x : Operand) (t : TypeId)
    (ho : o.op = .call { callee := .builtin .append, args := #[s, x], argTypes := #[t, t] })
    (base : Nat) (e : TypeId) (i : TypeInfo) (z : Value) (bytes : Nat) (ht : P.underlying t = some (.slice e)) (hi : P.info? e = some i) (hz : i.zero = some z)
    (hsize : i.size = 1) (hby : i.bytes = bytes) (hzs : z.cells.size = 1) (v : Value) (n : Nat) (xs : List Value) (hs : a.eval s = v) (hown : w.ownsRow base e 1 v n xs)
    (A : Option Addr) (m c : Nat) (news : List Value) (hx : a.eval x = .slice A m c) (S : Nat → Prop) (hrow : Row w S A m news) (h1 : ∀ u ∈ news, u.oneCell' = true)
    (h63 : n + m ≤ maxLen) (hbytes : (n + m) * bytes ≤ 140737488355328) (hbase : base ≤ w.heap.size)
    (h : ∀ A' c' w', n + m ≤ c' → c' ≤ maxLen → w'.ownsRow base e 1 (.slice A' (n + m) c') (n + m) (xs ++ news) → w.grownBy w' v.ownBlock → wpList P ops Q rest (a.put o.dst (.slice A' (n + m) c')) w') : wpList P ops Q (o :: rest) a w := by
  refine wpList_plain hgd fun K hK => ?_
  obtain ⟨v', w', hr, h2, h3⟩ := run_append_row (P := P) w base t o.type e i z bytes ht hi hz hsize hby hzs v n xs hown A m c news S hrow h1 h63 hbytes hbase
  obtain ⟨A', c', rfl, h4, h5, _⟩ := own_form h2
  unfold Oper.wp execOp
  simp only [ho, resolve, invoke, builtin, Sem.run_bind, Sem.run_pure, Result.andThen_ok, List.map_toArray, List.map_cons, List.map_nil, hs, hx, hr]
  exact hK _ _ (h A' c' w' h4 h5 h2 h3)
theorem run_append_rowK {P : Program} (w : World) (base : Nat) (t ty e : TypeId) (i : TypeInfo) (z : Value) (size bytes : Nat) (ht : P.underlying t = some (.slice e)) (hi : P.info? e = some i) (hz : i.zero = some z)
    (hsize : i.size = size) (hby : i.bytes = bytes) (hzs : z.cells.size = size) (hsz : 0 < size) (v : Value) (n : Nat) (xs : List Value) (hown : w.ownsRow base e size v n xs)
    (A : Option Addr) (m c : Nat) (news : List Value) (S : Nat → Prop) (hrow : Row w S A (m * size) news) (h1 : ∀ u ∈ news, u.oneCell' = true)
    (h63 : n + m ≤ maxLen) (hbytes : (n + m) * bytes ≤ 140737488355328) (hbase : base ≤ w.heap.size) :
    ∃ v' w', (Builtin.append_ #[t, t] ty #[v, .slice A m c]).run P w = .ok v' w' ∧ w'.ownsRow base e size v' (n + m) (xs ++ news) ∧ w.grownBy w' v.ownBlock := by
  cases A with
  | none =>
    obtain rfl : m = 0 := by
      by_cases h0 : 0 < m
      · obtain ⟨b, o, e, _⟩ := hrow.some_lit (Nat.mul_pos h0 hsz); cases e
      · omega
    obtain rfl : news = [] := List.eq_nil_of_length_eq_zero (by rw [hrow.len, Nat.zero_mul])
    refine ⟨v, w, ?_, by simpa using hown, World.grownBy.refl _ _⟩
    rcases hown.2 with ⟨rfl, rfl⟩ | ⟨g, cap, cur, rfl, _, _, hnc, _⟩
    · simp [Builtin.append_, run_underlying ht, sizeOf, typeInfo, hi, Builtin.lenOf, Builtin.firstCells]
    · simp [Builtin.append_, run_underlying ht, sizeOf, typeInfo, hi, Builtin.lenOf, Builtin.firstCells, hnc, storeCells]
  | some ad =>
    have hnews : ∀ j u, news[j]? = some u → w.cell? (ad.add j) = some u := by
      intro j u hj
      have hjn : j < m * size := by have := (List.getElem?_eq_some_iff.1 hj).1; rw [hrow.len] at this; exact this
      obtain ⟨b, o, e, _⟩ := hrow.some_lit (by omega)
      injection e with e
      subst e
      exact news_of_row hrow j u hj
    obtain ⟨v', w', hr, h2, h3, _⟩ := run_append_own (P := P) w base t ty e i z size bytes ht hi hz hsize hby hzs hsz v n xs hown ad m c news hrow.len hnews h1 h63 hbytes hbase
    exact ⟨v', w', hr, h2, h3⟩
end Go.Proofs.YtokibfankmjphaaGreatDoor

/- atom.ops, atom.Print, walked. -/
namespace Go.Proofs.YtokibfankmjphaaGreatDoor
open Go.RowKit Qm

def opsV : Value := .agg #[.string ⟨#[]⟩, .string ⟨#[61]⟩, .string ⟨#[62, 61]⟩, .string ⟨#[60]⟩]

set_option maxHeartbeats 1600000 in
theorem ops_any (w : World) :
    Calls Tryz.prog 133 #[] w fun e w' => e = .returned opsV ∧ Below w.heap.size w w' := by
  go_enter Tryz.func133, Tryz.ntmps133
  go_wp2
  refine bodyPost_ret (v := opsV) (by simp [results, Tryz.results133, go_sem]; rfl) rfl ⟨rfl, ?_⟩
  exact (Below.refl _ _).alloc (Nat.le_refl _) _

theorem ops_any' (w : World) : Calls Tryz.prog 133 #[] w fun e w' => e = .returned (.agg #[.string ⟨#[]⟩, .string ⟨#[61]⟩, .string ⟨#[62, 61]⟩, .string ⟨#[60]⟩]) ∧ Below w.heap.size w w' := ops_any w

/-- The atom in its box, in a world later than w. -/
structure Boxed (w : World) (s : ByteArray) (op ver slot : Int) (f : ByteArray) (on : Bool) (wx : World) : Prop where
  c0 : wx.cell? ⟨w.heap.size, 0, none⟩ = some (.string s)
  c1 : wx.cell? ⟨w.heap.size, 1, none⟩ = some (.int .i64 op)
  c2 : wx.cell? ⟨w.heap.size, 2, none⟩ = some (.int .i64 ver)
  c3 : wx.cell? ⟨w.heap.size, 3, none⟩ = some (.int .i64 slot)
  c4 : wx.cell? ⟨w.heap.size, 4, none⟩ = some (.string f)
  c5 : wx.cell? ⟨w.heap.size, 5, none⟩ = some (.bool on)
  b : Below w.heap.size w wx
theorem Boxed.below {w : World} {s : ByteArray} {op ver slot : Int} {f : ByteArray} {on : Bool} {wx wy : World} (h : Boxed w s op ver slot f on wx) (hb : Below wx.heap.size wx wy) : Boxed w s op ver slot f on wy :=
  ⟨(hb.cell (World.block_lt_of_cell? _ _ h.c0)).trans h.c0, (hb.cell (World.block_lt_of_cell? _ _ h.c1)).trans h.c1, (hb.cell (World.block_lt_of_cell? _ _ h.c2)).trans h.c2,
    (hb.cell (World.block_lt_of_cell? _ _ h.c3)).trans h.c3, (hb.cell (World.block_lt_of_cell? _ _ h.c4)).trans h.c4, (hb.cell (World.block_lt_of_cell? _ _ h.c5)).trans h.c5, h.b.trans (hb.mono h.b.size)⟩
theorem Boxed.new (w : World) (s : ByteArray) (op ver slot : Int) (f : ByteArray) (on : Bool) {t : TypeId} : Boxed w s op ver slot f on (w.alloc (.cells #[.string s, .int .i64 op, .int .i64 ver, .int .i64 slot, .string f, .bool on] t)) := by
  refine ⟨?_, ?_, ?_, ?_, ?_, ?_, (Below.refl _ w).alloc (Nat.le_refl _) _⟩ <;> simp [World.cell?, World.alloc, -World.alloc_eq]

theorem bs_add (a b : List UInt8) : (⟨a.toArray⟩ : ByteArray) ++ ⟨b.toArray⟩ = ⟨(a ++ b).toArray⟩ := by rw [ByteArray.mk_append_mk]; try simp
theorem bs_self (s : ByteArray) : (⟨s.data.toList.toArray⟩ : ByteArray) = s := by cases s; rfl
theorem bs_size (a : List UInt8) : (⟨a.toArray⟩ : ByteArray).size = a.length := by show a.toArray.size = _; simp

theorem ops_at1 (wx : World) : (Instr.index 161 (.agg #[.string ⟨#[]⟩, .string ⟨#[61]⟩, .string ⟨#[62, 61]⟩, .string ⟨#[60]⟩]) (.int .i64 1)).run Tryz.prog wx = .ok (.string ⟨#[61]⟩) wx := by
  simp [Instr.index, run_underlying Tryz.underlying161, go_sem]
theorem ops_at2 (wx : World) : (Instr.index 161 (.agg #[.string ⟨#[]⟩, .string ⟨#[61]⟩, .string ⟨#[62, 61]⟩, .string ⟨#[60]⟩]) (.int .i64 2)).run Tryz.prog wx = .ok (.string ⟨#[62, 61]⟩) wx := by
  simp [Instr.index, run_underlying Tryz.underlying161, go_sem]
theorem ops_at3 (wx : World) : (Instr.index 161 (.agg #[.string ⟨#[]⟩, .string ⟨#[61]⟩, .string ⟨#[62, 61]⟩, .string ⟨#[60]⟩]) (.int .i64 3)).run Tryz.prog wx = .ok (.string ⟨#[60]⟩) wx := by
  simp [Instr.index, run_underlying Tryz.underlying161, go_sem]
def printE (a : At) : Int := ckAtom a
def printS (a : At) : List UInt8 := if ckAtom a = 0 then textOf a else []

end Go.Proofs.YtokibfankmjphaaGreatDoor

/- need.words, walked. -/
namespace Go.Proofs.YtokibfankmjphaaGreatDoor
open Go.RowKit Qm

def strs (ws : List Qm.W) : List Value := ws.map fun l => .string ⟨l.toArray⟩
theorem strs_one (ws : List Qm.W) : ∀ u ∈ strs ws, u.oneCell' = true := by
  intro u hu
  obtain ⟨l, _, rfl⟩ := List.mem_map.1 hu
  rfl
theorem strs_append (a b : List Qm.W) : strs (a ++ b) = strs a ++ strs b := by simp [strs]
theorem strs_len (a : List Qm.W) : (strs a).length = a.length := by simp [strs]
theorem string_info : (Tryz.prog.info? 9).map (fun i => (i.zero, i.size, i.bytes)) = some (some (.string ⟨#[]⟩), 1, 16) := by kernel_rfl

/-- The words gathered so far, beside a box. -/
structure Wd (w : World) (box : List Value) (ws : List Qm.W) (A : Option Addr) (c : Nat) (wx : World) : Prop where
  own : wx.ownsRow (w.heap.size + 1) 9 1 (.slice A ws.length c) ws.length (strs ws)
  box : Whole wx w.heap.size 46 box
  bel : Below w.heap.size w wx
theorem Wd.alloc {w wx : World} {box : List Value} {ws : List Qm.W} {A : Option Addr} {c : Nat} (h : Wd w box ws A c wx) (o : Obj) : Wd w box ws A c (wx.alloc o) :=
  ⟨h.own.alloc o, h.box.alloc o, h.bel.alloc h.bel.size o⟩
theorem own_below {w w' : World} {base : Nat} {e : TypeId} {size : Nat} {v : Value} {n : Nat} {xs : List Value} (h : w.ownsRow base e size v n xs) (hb : Below w.heap.size w w') : w'.ownsRow base e size v n xs :=
  h.kept (grown_of_below hb none) (by cases hv : v.ownBlock <;> simp)
theorem Wd.below {w wx wy : World} {box : List Value} {ws : List Qm.W} {A : Option Addr} {c : Nat} (h : Wd w box ws A c wx) (hb : Below wx.heap.size wx wy) : Wd w box ws A c wy :=
  ⟨own_below h.own hb, h.box.below hb h.box.lt, h.bel.trans (hb.mono h.bel.size)⟩
theorem Wd.more {w wx wy : World} {box : List Value} {ws : List Qm.W} {A : Option Addr} {c : Nat} (h : Wd w box ws A c wx) {ws' : List Qm.W} {v' : Value} {news : List Value} {m : Nat} (hm : m = ws'.length) (hn : news = strs ws')
    (hown : wy.ownsRow (w.heap.size + 1) 9 1 v' (ws.length + m) (strs ws ++ news)) (hg : wx.grownBy wy (Value.slice A ws.length c).ownBlock) : ∃ A' c', v' = .slice A' (ws.length + m) c' ∧ Wd w box (ws ++ ws') A' c' wy := by
  subst hm hn
  obtain ⟨A', c', rfl, _, _, _⟩ := own_form hown
  refine ⟨A', c', rfl, ?_, ?_, ?_⟩
  · rw [strs_append, List.length_append]; exact hown
  · have hlt := h.own.lt
    refine h.box.grown hg ?_
    intro e
    have := (hlt _ e.symm).1
    omega
  · exact h.bel.grown hg h.bel.size fun k e => by have := (h.own.lt k e).1; omega

def WordsPost (w : World) (y : Nd) (e : Ending) (w' : World) : Prop :=
  ∃ A c, e = .returned (.slice A (wordsN y).length c) ∧ w'.ownsRow w.heap.size 9 1 (.slice A (wordsN y).length c) (wordsN y).length (strs (wordsN y)) ∧ Below w.heap.size w w'
theorem own_lower {w : World} {base base' : Nat} {e : TypeId} {size : Nat} {v : Value} {n : Nat} {xs : List Value} (h : w.ownsRow base e size v n xs) (hb : base' ≤ base) : w.ownsRow base' e size v n xs :=
  ⟨h.1, h.2.imp id fun ⟨g, cap, cur, h1, h2, h3⟩ => ⟨g, cap, cur, h1, Nat.le_trans hb h2, h3⟩⟩
theorem Wd.post {w wx : World} {box : List Value} {y : Nd} {A : Option Addr} {c : Nat} (h : Wd w box (wordsN y) A c wx) : WordsPost w y (.returned (.slice A (wordsN y).length c)) wx :=
  ⟨A, c, rfl, own_lower h.own (Nat.le_succ _), h.bel⟩

theorem bapp (a b : Qm.W) : (⟨a.toArray⟩ : ByteArray) ++ ⟨b.toArray⟩ = ⟨(a ++ b).toArray⟩ := by
  apply ByteArray.ext
  simp

theorem bflag0 (f : Qm.W) : (⟨#[]⟩ : ByteArray) ++ ⟨f.toArray⟩ ++ ⟨#[63]⟩ = ⟨(f ++ [63]).toArray⟩ := by
  rw [show (⟨#[]⟩ : ByteArray) = ⟨([] : Qm.W).toArray⟩ from rfl, show (⟨#[63]⟩ : ByteArray) = ⟨([63] : Qm.W).toArray⟩ from rfl, bapp, bapp]; rfl
theorem bflag1 (f : Qm.W) : (⟨#[33]⟩ : ByteArray) ++ ⟨f.toArray⟩ ++ ⟨#[63]⟩ = ⟨(33 :: f ++ [63]).toArray⟩ := by
  rw [show (⟨#[33]⟩ : ByteArray) = ⟨([33] : Qm.W).toArray⟩ from rfl, show (⟨#[63]⟩ : ByteArray) = ⟨([63] : Qm.W).toArray⟩ from rfl, bapp, bapp]; rfl
theorem own_row {w : World} {base : Nat} {e : TypeId} {A : Option Addr} {n c : Nat} {vs : List Value} (h : w.ownsRow base e 1 (.slice A n c) n vs) : Row w (fun k => base ≤ k ∧ k < w.heap.size) A n vs := by
  obtain ⟨A', c', he, _, _, hr⟩ := own_form h
  injection he with h1 _ _
  subst h1
  exact hr
theorem Wd.post' {w wx : World} {box : List Value} {y : Nd} {ws : List Qm.W} {A : Option Addr} {c : Nat} (h : Wd w box ws A c wx) (he : wordsN y = ws) : WordsPost w y (.returned (.slice A ws.length c)) wx := by
  subst he; exact h.post
theorem wordsL_snoc : ∀ (ks : List Nd) (y : Nd), wordsL (ks ++ [y]) = wordsL ks ++ wordsN y
  | [], y => by simp [wordsL]
  | k :: r, y => by simp only [List.cons_append, wordsL, wordsL_snoc r y, List.append_assoc]
theorem take_snocN {ks : List Nd} {j : Nat} {y : Nd} (h : ks[j]? = some y) : ks.take (j + 1) = ks.take j ++ [y] := by
  obtain ⟨hj, e⟩ := List.getElem?_eq_some_iff.1 h
  rw [List.take_succ_eq_append_getElem hj, e]
theorem wordsN_count : ∀ (y : Nd), (wordsN y).length ≤ 4 * y.nodes := by
  refine Nd.ind fun k a f no ks ih => ?_
  have hL : ∀ {l : List Nd}, (∀ y ∈ l, (wordsN y).length ≤ 4 * y.nodes) → (wordsL l).length ≤ 4 * nodesL l := by
    intro l
    induction l with
    | nil => intro _; simp [wordsL, nodesL]
    | cons y l ihl =>
      intro hl
      have h1 := hl y (List.mem_cons_self ..)
      have h2 := ihl fun z hz => hl z (List.mem_cons_of_mem _ hz)
      simp only [wordsL, nodesL, List.length_append]; omega
  have := hL ih
  have hh : (headW k f no).length ≤ 1 := by unfold headW; split; · simp
                                            split <;> simp
  simp only [wordsN, Nd.nodes]
  split
  · simp; omega
  · split
    · simp; omega
    · simp; omega
theorem take_words (ks : List Nd) (j : Nat) : (wordsL (ks.take j)).length ≤ 4 * nodesL ks := by
  have h : ∀ (l : List Nd) (j : Nat), (wordsL (l.take j)).length ≤ 4 * nodesL l := by
    intro l
    induction l with
    | nil => intro j; simp [wordsL]
    | cons y l ihl =>
      intro j
      cases j with
      | zero => simp [wordsL]
      | succ j =>
        have := wordsN_count y
        have := ihl j
        simp only [List.take_succ_cons, wordsL, nodesL, List.length_append]; omega
  exact h ks j
theorem nodes_mem : ∀ {ks : List Nd} {y : Nd}, y ∈ ks → y.nodes ≤ nodesL ks
  | [], _, h => by cases h
  | k :: r, y, h => by
    simp only [nodesL]
    rcases List.mem_cons.1 h with rfl | h
    · omega
    · have := nodes_mem h; omega

/- one word behind: of P at wp, the words WS; the word L -/
end Go.Proofs.YtokibfankmjphaaGreatDoor

/- What a call may change: some blocks alone. -/
namespace Go.Proofs.YtokibfankmjphaaGreatDoor
open Go.RowKit
/-- only blocks of D, and new ones, may have changed -/
structure Far (D : Nat → Prop) (w w' : World) : Prop where
  base : Below 0 w w'
  block : ∀ i, i < w.heap.size → ¬ D i → w'.heap[i]? = w.heap[i]?
section
variable {w w' w'' : World} {D D' : Nat → Prop} {S : Nat → Prop} {A : Option Addr} {n b : Nat}
theorem Far.size (h : Far D w w') : w.heap.size ≤ w'.heap.size := h.base.size
theorem Far.refl (D : Nat → Prop) (w : World) : Far D w w := ⟨Below.refl _ _, fun _ _ _ => rfl⟩
theorem Far.trans (h : Far D w w') (k : Far D' w' w'') (hD : ∀ i, i < w.heap.size → D' i → D i) : Far D w w'' :=
  ⟨h.base.trans k.base, fun i hi hn => (k.block i (Nat.lt_of_lt_of_le hi h.size) (fun hd => hn (hD i hi hd))).trans (h.block i hi hn)⟩
theorem Far.of_below (D : Nat → Prop) (h : Below w.heap.size w w') : Far D w w' := ⟨h.mono (Nat.zero_le _), fun i hi _ => h.block i hi⟩
theorem Far.of_grown {row : Option Nat} (h : w.grownBy w' row) (hD : ∀ i, some i = row → D i) : Far D w w' :=
  ⟨below_of_grown h (Nat.zero_le _) (fun _ _ => Nat.zero_le _), fun i hi hn => h.block i hi (fun e => hn (hD i e))⟩
theorem Far.set_ (hb : D b) (i : Nat) (u : Value) : Far D w (w.setCell ⟨b, i, none⟩ u) :=
  ⟨(Below.refl 0 w).setCell (Nat.zero_le _) _, fun k _ hn => heap_setCell_other w _ k u (fun e => hn (by rw [show k = b from e.symm ▸ rfl]; exact hb))⟩
theorem Far.drew (h : Far D w w') : Far D w w'.drew := ⟨below_drewN h.base 1, h.block⟩
theorem Far.drewN (h : Far D w w') (k : Nat) : Far D w (w'.drewN k) := ⟨below_drewN h.base k, h.block⟩
theorem Far.mono (h : Far D w w') (hD : ∀ i, D i → D' i) : Far D' w w' := ⟨h.base, fun i hi hn => h.block i hi (fun hd => hn (hD i hd))⟩
theorem Far.below (h : Far D w w') {B : Nat} (hB : B ≤ w.heap.size) (hD : ∀ i, D i → B ≤ i) : Below B w w' :=
  ⟨h.base.os, h.base.tape, h.base.output, h.size, fun i hi => h.block i (Nat.lt_of_lt_of_le hi hB) (fun hd => absurd (hD i hd) (by omega))⟩
theorem Far.whole {t : TypeId} {vs : List Value} (h : Far D w w') (hw : Whole w b t vs) (hb : ¬ D b) : Whole w' b t vs := (h.block b hw.lt hb).trans hw
theorem Far.cell (h : Far D w w') {p : Addr} (hp : p.block < w.heap.size) (hn : ¬ D p.block) : w'.cell? p = w.cell? p := World.cell?_of_block (h.block _ hp hn)
theorem Far.ints {xs : List Int} (h : Far D w w') (hr : RInts w S A n xs) (hS : ∀ k, S k → k < w.heap.size ∧ ¬ D k) : RInts w' S A n xs := hr.keep fun _ hp => h.cell (hS _ hp).1 (hS _ hp).2
theorem Far.bools {xs : List Bool} (h : Far D w w') (hr : RBools w S A n xs) (hS : ∀ k, S k → k < w.heap.size ∧ ¬ D k) : RBools w' S A n xs := Row.keep hr fun _ hp => h.cell (hS _ hp).1 (hS _ hp).2
theorem Far.clauses {cs : List (List Int)} (h : Far D w w') (hr : RClauses w S A n cs) (hS : ∀ k, S k → k < w.heap.size ∧ ¬ D k) : RClauses w' S A n cs := hr.keep fun _ hp => h.cell (hS _ hp).1 (hS _ hp).2
theorem Far.own {base : Nat} {e : TypeId} {size : Nat} {v : Value} {vs : List Value} (h : Far D w w') (ho : w.ownsRow base e size v n vs) (hv : ∀ g, v.ownBlock = some g → ¬ D g) : w'.ownsRow base e size v n vs := by
  rcases ho.2 with h0 | ⟨g, cap, cur, rfl, hb, hh, hc, hm, hs, ht⟩
  · exact ⟨ho.1, .inl h0⟩
  · exact ⟨ho.1, .inr ⟨g, cap, cur, rfl, hb, (h.block g (lt_of_block hh) (hv g rfl)).trans hh, hc, hm, hs, ht⟩⟩
/-- a row that is owned lies in no block of another type -/
theorem own_ne {base : Nat} {e t : TypeId} {size : Nat} {v : Value} {vs us : List Value} (ho : w.ownsRow base e size v n vs) (hw : Whole w b t us) (ht : t ≠ e) : v.ownBlock ≠ some b := by
  rcases ho.2 with ⟨rfl, _⟩ | ⟨g, cap, cur, rfl, _, hh, _⟩
  · intro h; cases h
  · intro h
    simp only [Value.ownBlock] at h
    injection h with h
    subst h
    unfold Whole at hw
    rw [hh] at hw
    injection hw with hw; injection hw with _ hw
    exact ht hw.symm
end
end Go.Proofs.YtokibfankmjphaaGreatDoor
