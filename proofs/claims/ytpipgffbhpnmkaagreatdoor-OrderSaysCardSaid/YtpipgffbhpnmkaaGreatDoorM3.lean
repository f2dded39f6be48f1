/- Parts of the proof: walks and plain laws, side by side. -/
import Derived.Test.YtpipgffbhpnmkaaGreatDoorM2
import Derived.Test.YtpipgffbhpnmkaaGreatDoorM1
import Derived.Deep.AppendLies
import Derived.OwnWalk
import Derived.Maps.AppendAt
import Derived.Lib.AppendZerosOnto
import Derived.Lib.Walk
import Derived.Test.YtpipgffbhpnmkaaGreatDoorShelf
import Derived.Deep.QuietTactic
import Derived.BigQuiet
import Derived.Deep.RegionHeld3
import Derived.Deep.DeepCutAuto
import Derived.Deep.CutBlock
import Derived.Lib.AppendIntMem
set_option linter.unusedVariables false
set_option linter.unusedSimpArgs false
set_option linter.unusedSectionVars false
namespace Go.Proofs.YtpipgffbhpnmkaaGreatDoor
/- need.check and need.Check, walked. -/
section
open Go.RowKit Qm

theorem atOf_mk (x : At) : atOf ⟨x.nm.toArray⟩ x.op x.ver x.slot ⟨x.fl.toArray⟩ x.on = x := by
 cases x; simp [atOf]
theorem bsz (l : Qm.W) : (⟨l.toArray⟩ : ByteArray).size = l.length := by simp [ByteArray.size]

set_option maxRecDepth 100000 in
set_option maxHeartbeats 3200000 in
theorem ncheck_bad (nm fl f : Qm.W) (op ver slot k : Int) (on no : Bool) (A : Option Addr) (n c : Nat) (ks : List Nd) (w : World) (k1 : 3 ≤ k) (k2 : k ≤ 5) (ha : ¬ (nm = [] ∧ op = 0 ∧ ver = 0 ∧ slot = 0 ∧ fl = [] ∧ on = false)) :
  Calls Tryz.prog 142 #[.agg (ndRow k ⟨nm, op, ver, slot, fl, on⟩ f no A n c).toArray] w fun e w' => e = .returned (.int .i64 (ckNd (.mk k ⟨nm, op, ver, slot, fl, on⟩ f no ks))) ∧ Below w.heap.size w w' := by
 unfold ndRow
 have HC : Hid (ckNd (.mk k ⟨nm, op, ver, slot, fl, on⟩ f no ks) = 4) := qh (by
  have hl : leafK k = false := by simp [leafK]; omega
  simp only [ckNd]; rw [if_neg (by omega), if_neg (by simp [hl]), if_pos ⟨hl, by simpa [At.zero] using ha⟩])
 have e1 : (k == 1) = false := by simp; omega
 have e2 : (k == 2) = false := by simp; omega
 have e3 : decide (k < 1) = false := by simp; omega
 have e4 : decide (5 < k) = false := by simp; omega
 have HB := qh ((Below.refl _ w).alloc (qr _) (.cells #[.int .i64 k, .string ⟨nm.toArray⟩, .int .i64 op, .int .i64 ver, .int .i64 slot, .string ⟨fl.toArray⟩, .bool on, .string ⟨f.toArray⟩, .bool no, .slice A n c] 40))
 by_cases c1 : nm = []
 ·subst c1
  by_cases c2 : op = 0
  ·subst c2
   by_cases c3 : ver = 0
   ·subst c3
    by_cases c4 : slot = 0
    ·subst c4
     by_cases c5 : fl = []
     ·subst c5
      cases on
      ·exact absurd ⟨rfl, rfl, rfl, rfl, rfl, rfl⟩ ha
      ·clear ha
       go_enter Tryz.func142, Tryz.ntmps142
       go_wp2
       go_ret
       exact ⟨ret_int HC.out.symm, HB.out⟩
     ·clear ha
      go_enter Tryz.func142, Tryz.ntmps142
      go_wp2
      go_ret
      exact ⟨ret_int HC.out.symm, HB.out⟩
    ·clear ha
     go_enter Tryz.func142, Tryz.ntmps142
     go_wp2
     go_ret
     exact ⟨ret_int HC.out.symm, HB.out⟩
   ·clear ha
    go_enter Tryz.func142, Tryz.ntmps142
    go_wp2
    go_ret
    exact ⟨ret_int HC.out.symm, HB.out⟩
  ·clear ha
   go_enter Tryz.func142, Tryz.ntmps142
   go_wp2
   go_ret
   exact ⟨ret_int HC.out.symm, HB.out⟩
 ·clear ha
  go_enter Tryz.func142, Tryz.ntmps142
  go_wp2
  go_ret
  exact ⟨ret_int HC.out.symm, HB.out⟩

set_option maxRecDepth 100000 in
set_option maxHeartbeats 3200000 in
theorem ncheck_any : ∀ (y : Nd) (S : Nat → Prop) (x : List Value) (w : World), RNd w S x y → (∀ k, S k → k < w.heap.size) →
  Calls Tryz.prog 142 #[.agg x.toArray] w fun e w' => e = .returned (.int .i64 (ckNd y)) ∧ Below w.heap.size w w' := by
 refine Nd.ind fun k a f no ks ih => ?_
 intro S x w hR hS
 have HI := qh ih; clear ih
 obtain ⟨A, n, c, rfl, hnc, hc, h1, h2, h3, hK⟩ := hR.open_
 clear hR
 have HS := qh hS; clear hS
 have HK := qh hK; clear hK
 unfold maxLen at hc
 obtain ⟨nm, op, ver, slot, fl, on⟩ := a
 unfold ndRow
 simp only [] at h1 h2 ⊢
 have HB := qh ((Below.refl _ w).alloc (qr _) (.cells #[.int .i64 k, .string ⟨nm.toArray⟩, .int .i64 op, .int .i64 ver, .int .i64 slot, .string ⟨fl.toArray⟩, .bool on, .string ⟨f.toArray⟩, .bool no, .slice A n c] 40))
 by_cases k1 : k < 1
 ·have HC : Hid (ckNd (.mk k ⟨nm, op, ver, slot, fl, on⟩ f no ks) = 4) := qh (by simp only [ckNd]; rw [if_pos (.inl k1)])
  have e1 : (k == 1) = false := by simp; omega
  have e2 : (k == 2) = false := by simp; omega
  go_enter Tryz.func142, Tryz.ntmps142
  go_wp2
  go_ret
  exact ⟨ret_int HC.out.symm, HB.out⟩
 by_cases k5 : 5 < k
 ·have HC : Hid (ckNd (.mk k ⟨nm, op, ver, slot, fl, on⟩ f no ks) = 4) := qh (by simp only [ckNd]; rw [if_pos (.inr k5)])
  have e1 : (k == 1) = false := by simp; omega
  have e2 : (k == 2) = false := by simp; omega
  go_enter Tryz.func142, Tryz.ntmps142
  go_wp2
  go_ret
  exact ⟨ret_int HC.out.symm, HB.out⟩
 rcases (show k = 1 ∨ k = 2 ∨ k = 3 ∨ k = 4 ∨ k = 5 by omega) with rfl | rfl | rfl | rfl | rfl
 ·clear k1 k5
  by_cases hn : 0 < n
  ·have HC : Hid (ckNd (.mk 1 ⟨nm, op, ver, slot, fl, on⟩ f no ks) = 4) := qh (by
    have := HK.out.len
    simp only [ckNd]; rw [if_neg (by omega), if_pos ⟨rfl, by omega⟩])
   have hn' : (0 : Int) < (n : Int) := by omega
   go_enter Tryz.func142, Tryz.ntmps142
   go_wp2
   go_ret
   exact ⟨ret_int HC.out.symm, HB.out⟩
  ·obtain rfl : n = 0 := by omega
   by_cases hf : f = [] ∧ no = false
   ·obtain ⟨rfl, rfl⟩ := hf
    have HC : Hid (ckNd (.mk 1 ⟨nm, op, ver, slot, fl, on⟩ [] false ks) = ckAtom ⟨nm, op, ver, slot, fl, on⟩) := qh (by
     have := HK.out.len
     simp only [ckNd]; rw [if_neg (by omega), if_neg (by simp [this]), if_neg (by simp [leafK]), if_neg (by simp), if_neg (by simp), if_pos (by rfl)])
    have hck := fun wx => check_any ⟨nm.toArray⟩ ⟨fl.toArray⟩ op ver slot on wx (by rw [bsz]; exact h1) (by rw [bsz]; exact h2)
    rw [show atOf ⟨nm.toArray⟩ op ver slot ⟨fl.toArray⟩ on = ⟨nm, op, ver, slot, fl, on⟩ from by simp [atOf]] at hck
    unfold atv at hck
    have Hck := qh hck; clear hck
    clear h1 h2 h3
    go_enter Tryz.func142, Tryz.ntmps142
    go_wp2_with (first | (go_at_call 175; refine (Hck.out _).mono ?_; rintro e w1 ⟨rfl, hb1⟩; refine Hid.out ?_))
    refine qh ?_
    have HB1 := qh (HB.out.trans (hb1.mono HB.out.size)); clear hb1
    go_wp2
    go_ret
    exact ⟨ret_int HC.out.symm, HB1.out⟩
   ·have HC : Hid (ckNd (.mk 1 ⟨nm, op, ver, slot, fl, on⟩ f no ks) = 4) := qh (by
     have := HK.out.len
     simp only [ckNd]; rw [if_neg (by omega), if_neg (by simp [this]), if_neg (by simp [leafK]), if_pos ⟨by omega, by cases no <;> simp_all⟩])
    by_cases hf0 : f = []
    ·subst hf0
     cases no
     ·exact absurd ⟨rfl, rfl⟩ hf
     ·clear hf
      go_enter Tryz.func142, Tryz.ntmps142
      go_wp2
      go_ret
      exact ⟨ret_int HC.out.symm, HB.out⟩
    ·clear hf
     go_enter Tryz.func142, Tryz.ntmps142
     go_wp2
     go_ret
     exact ⟨ret_int HC.out.symm, HB.out⟩
 ·clear k1 k5
  by_cases hn : 0 < n
  ·have HC : Hid (ckNd (.mk 2 ⟨nm, op, ver, slot, fl, on⟩ f no ks) = 4) := qh (by
    have := HK.out.len
    simp only [ckNd]; rw [if_neg (by omega), if_pos ⟨rfl, by omega⟩])
   have hn' : (0 : Int) < (n : Int) := by omega
   go_enter Tryz.func142, Tryz.ntmps142
   go_wp2
   go_ret
   exact ⟨ret_int HC.out.symm, HB.out⟩
  ·obtain rfl : n = 0 := by omega
   by_cases hf : f = [] ∧ no = false
   ·obtain ⟨rfl, rfl⟩ := hf
    have HC : Hid (ckNd (.mk 2 ⟨nm, op, ver, slot, fl, on⟩ [] false ks) = ckAtom ⟨nm, op, ver, slot, fl, on⟩) := qh (by
     have := HK.out.len
     simp only [ckNd]; rw [if_neg (by omega), if_neg (by simp [this]), if_neg (by simp [leafK]), if_neg (by simp), if_neg (by simp), if_pos (by rfl)])
    have hck := fun wx => check_any ⟨nm.toArray⟩ ⟨fl.toArray⟩ op ver slot on wx (by rw [bsz]; exact h1) (by rw [bsz]; exact h2)
    rw [show atOf ⟨nm.toArray⟩ op ver slot ⟨fl.toArray⟩ on = ⟨nm, op, ver, slot, fl, on⟩ from by simp [atOf]] at hck
    unfold atv at hck
    have Hck := qh hck; clear hck
    clear h1 h2 h3
    go_enter Tryz.func142, Tryz.ntmps142
    go_wp2_with (first | (go_at_call 175; refine (Hck.out _).mono ?_; rintro e w1 ⟨rfl, hb1⟩; refine Hid.out ?_))
    refine qh ?_
    have HB1 := qh (HB.out.trans (hb1.mono HB.out.size)); clear hb1
    go_wp2
    go_ret
    exact ⟨ret_int HC.out.symm, HB1.out⟩
   ·have HC : Hid (ckNd (.mk 2 ⟨nm, op, ver, slot, fl, on⟩ f no ks) = 4) := qh (by
     have := HK.out.len
     simp only [ckNd]; rw [if_neg (by omega), if_neg (by simp [this]), if_neg (by simp [leafK]), if_pos ⟨by omega, by cases no <;> simp_all⟩])
    by_cases hf0 : f = []
    ·subst hf0
     cases no
     ·exact absurd ⟨rfl, rfl⟩ hf
     ·clear hf
      go_enter Tryz.func142, Tryz.ntmps142
      go_wp2
      go_ret
      exact ⟨ret_int HC.out.symm, HB.out⟩
    ·clear hf
     go_enter Tryz.func142, Tryz.ntmps142
     go_wp2
     go_ret
     exact ⟨ret_int HC.out.symm, HB.out⟩
 ·clear k1 k5
  by_cases ha : nm = [] ∧ op = 0 ∧ ver = 0 ∧ slot = 0 ∧ fl = [] ∧ on = false
  ·obtain ⟨rfl, rfl, rfl, rfl, rfl, rfl⟩ := ha
   by_cases hf : f = [] ∧ no = false
   ·obtain ⟨rfl, rfl⟩ := hf
    have HC : Hid (ckNd (.mk 3 ⟨[], 0, 0, 0, [], false⟩ [] false ks) = ckKids ks) := qh (by
     simp only [ckNd]; rw [if_neg (by omega), if_neg (by simp [leafK]), if_neg (by simp [At.zero]), if_neg (by simp), if_neg (by simp), if_neg (by simp [leafK])])
    clear h1 h2 h3
    go_enter Tryz.func142, Tryz.ntmps142
    go_wp2
    go_loopg [70] n (fun g iv wr => ∃ (j : Nat), Hid (j + g = n) ∧ iv = .int .i64 j ∧ Hid (ckKids ks = ckKids (ks.drop j)) ∧ Below w.heap.size w wr)
    case atStart => exact ⟨0, qh (Nat.zero_add _), rfl, qh rfl, HB.out⟩
    case round =>
     obtain ⟨j, Hj, rfl, Hcl, hb⟩ := hrel
     have HBr := qh hb; clear hb
     by_cases hj : j < n
     ·obtain ⟨b, o, x, y, rfl, hb, hy, hxy, hcell⟩ := (HK.out.under HBr.out HS.out).at_ hj
      have Hdr := qh (drop_step hy)
      have hmem := List.mem_of_getElem? hy
      obtain ⟨yk, ya, yf, yn, yks⟩ := y
      obtain ⟨A', n', c', rfl, -⟩ := hxy.open_
      have g0 := hcell 0 (by omega); have g1 := hcell 1 (by omega); have g2 := hcell 2 (by omega); have g3 := hcell 3 (by omega); have g4 := hcell 4 (by omega)
      have g5 := hcell 5 (by omega); have g6 := hcell 6 (by omega); have g7 := hcell 7 (by omega); have g8 := hcell 8 (by omega); have g9 := hcell 9 (by omega)
      clear hcell
      unfold ndRow at g0 g1 g2 g3 g4 g5 g6 g7 g8 g9
      simp only [List.getElem?_cons_zero, List.getElem?_cons_succ, Nat.add_zero] at g0 g1 g2 g3 g4 g5 g6 g7 g8 g9
      clear hy
      have hxy2 := (hxy.under (Below.refl _ wr |>.alloc (qr _) (.cells #[.int .i64 yk, .string ⟨ya.nm.toArray⟩, .int .i64 ya.op, .int .i64 ya.ver, .int .i64 ya.slot, .string ⟨ya.fl.toArray⟩, .bool ya.on, .string ⟨yf.toArray⟩, .bool yn, .slice A' n' c'] 40)) fun q hq => ql (HS.out q hq) HBr.out.size)
      clear hxy
      have hcall := HI.out _ hmem S _ _ hxy2 (fun q hq => by have := HS.out q hq; have := HBr.out.size; simp; omega)
      unfold ndRow at hcall
      have HX : Hid (ckKids (ks.drop j) = if ckNd (.mk yk ya yf yn yks) = 0 then ckKids (ks.drop (j + 1)) else ckNd (.mk yk ya yf yn yks)) := qh (by rw [Hdr.out]; simp only [ckKids])
      generalize hq : ckNd (.mk yk ya yf yn yks) = q at hcall HX
      have HBn := qh (HBr.out.alloc HBr.out.size (.cells #[.int .i64 yk, .string ⟨ya.nm.toArray⟩, .int .i64 ya.op, .int .i64 ya.ver, .int .i64 ya.slot, .string ⟨ya.fl.toArray⟩, .bool ya.on, .string ⟨yf.toArray⟩, .bool yn, .slice A' n' c'] 40))
      clear hq hxy2
      have Hcall := qh hcall; clear hcall
      by_cases h0 : q = 0
      ·subst h0
       go_wp2_with fail
       refine Hcall.out.mono ?_
       rintro e w' ⟨rfl, hb'⟩
       have HB' := qh (HBn.out.trans (hb'.mono HBn.out.size)); clear hb'
       go_wp2_with fail
       go_roundg (gk - 1)
       case measure => have := Hj.out; omega
       case rel => exact ⟨j + 1, qh (by have := Hj.out; omega), by go_num, qh (by rw [Hcl.out, HX.out]; simp), HB'.out⟩
      ·have h1 : (q != 0) = true := by simpa using h0
       have H0 := qh h0; clear h0
       go_wp2_with fail
       refine Hcall.out.mono ?_
       rintro e w' ⟨rfl, hb'⟩
       have HB' := qh (HBn.out.trans (hb'.mono HBn.out.size)); clear hb'
       go_wp2_with fail
       go_ret
       exact ⟨ret_int (by rw [HC.out, Hcl.out, HX.out, if_neg H0.out]), HB'.out⟩
     ·go_wp2_with fail
      go_ret
      refine ⟨ret_int ?_, HBr.out⟩
      rw [HC.out, Hcl.out, List.drop_of_length_le (by have := HK.out.len; omega)]; rfl
   ·have HC : Hid (ckNd (.mk 3 ⟨[], 0, 0, 0, [], false⟩ f no ks) = 4) := qh (by
     simp only [ckNd]; rw [if_neg (by omega), if_neg (by simp [leafK]), if_neg (by simp [At.zero]), if_pos ⟨by omega, by cases no <;> simp_all⟩])
    by_cases hf0 : f = []
    ·subst hf0
     cases no
     ·exact absurd ⟨rfl, rfl⟩ hf
     ·clear hf
      go_enter Tryz.func142, Tryz.ntmps142
      go_wp2
      go_ret
      exact ⟨ret_int HC.out.symm, HB.out⟩
    ·clear hf
     go_enter Tryz.func142, Tryz.ntmps142
     go_wp2
     go_ret
     exact ⟨ret_int HC.out.symm, HB.out⟩
  ·exact ncheck_bad nm fl f op ver slot 3 on no A n c ks w (by decide) (by decide) ha
 ·clear k1 k5
  by_cases ha : nm = [] ∧ op = 0 ∧ ver = 0 ∧ slot = 0 ∧ fl = [] ∧ on = false
  ·obtain ⟨rfl, rfl, rfl, rfl, rfl, rfl⟩ := ha
   by_cases hf : f = [] ∧ no = false
   ·obtain ⟨rfl, rfl⟩ := hf
    have HC : Hid (ckNd (.mk 4 ⟨[], 0, 0, 0, [], false⟩ [] false ks) = ckKids ks) := qh (by
     simp only [ckNd]; rw [if_neg (by omega), if_neg (by simp [leafK]), if_neg (by simp [At.zero]), if_neg (by simp), if_neg (by simp), if_neg (by simp [leafK])])
    clear h1 h2 h3
    go_enter Tryz.func142, Tryz.ntmps142
    go_wp2
    go_loopg [70] n (fun g iv wr => ∃ (j : Nat), Hid (j + g = n) ∧ iv = .int .i64 j ∧ Hid (ckKids ks = ckKids (ks.drop j)) ∧ Below w.heap.size w wr)
    case atStart => exact ⟨0, qh (Nat.zero_add _), rfl, qh rfl, HB.out⟩
    case round =>
     obtain ⟨j, Hj, rfl, Hcl, hb⟩ := hrel
     have HBr := qh hb; clear hb
     by_cases hj : j < n
     ·obtain ⟨b, o, x, y, rfl, hb, hy, hxy, hcell⟩ := (HK.out.under HBr.out HS.out).at_ hj
      have Hdr := qh (drop_step hy)
      have hmem := List.mem_of_getElem? hy
      obtain ⟨yk, ya, yf, yn, yks⟩ := y
      obtain ⟨A', n', c', rfl, -⟩ := hxy.open_
      have g0 := hcell 0 (by omega); have g1 := hcell 1 (by omega); have g2 := hcell 2 (by omega); have g3 := hcell 3 (by omega); have g4 := hcell 4 (by omega)
      have g5 := hcell 5 (by omega); have g6 := hcell 6 (by omega); have g7 := hcell 7 (by omega); have g8 := hcell 8 (by omega); have g9 := hcell 9 (by omega)
      clear hcell
      unfold ndRow at g0 g1 g2 g3 g4 g5 g6 g7 g8 g9
      simp only [List.getElem?_cons_zero, List.getElem?_cons_succ, Nat.add_zero] at g0 g1 g2 g3 g4 g5 g6 g7 g8 g9
      clear hy
      have hxy2 := (hxy.under (Below.refl _ wr |>.alloc (qr _) (.cells #[.int .i64 yk, .string ⟨ya.nm.toArray⟩, .int .i64 ya.op, .int .i64 ya.ver, .int .i64 ya.slot, .string ⟨ya.fl.toArray⟩, .bool ya.on, .string ⟨yf.toArray⟩, .bool yn, .slice A' n' c'] 40)) fun q hq => ql (HS.out q hq) HBr.out.size)
      clear hxy
      have hcall := HI.out _ hmem S _ _ hxy2 (fun q hq => by have := HS.out q hq; have := HBr.out.size; simp; omega)
      unfold ndRow at hcall
      have HX : Hid (ckKids (ks.drop j) = if ckNd (.mk yk ya yf yn yks) = 0 then ckKids (ks.drop (j + 1)) else ckNd (.mk yk ya yf yn yks)) := qh (by rw [Hdr.out]; simp only [ckKids])
      generalize hq : ckNd (.mk yk ya yf yn yks) = q at hcall HX
      have HBn := qh (HBr.out.alloc HBr.out.size (.cells #[.int .i64 yk, .string ⟨ya.nm.toArray⟩, .int .i64 ya.op, .int .i64 ya.ver, .int .i64 ya.slot, .string ⟨ya.fl.toArray⟩, .bool ya.on, .string ⟨yf.toArray⟩, .bool yn, .slice A' n' c'] 40))
      clear hq hxy2
      have Hcall := qh hcall; clear hcall
      by_cases h0 : q = 0
      ·subst h0
       go_wp2_with fail
       refine Hcall.out.mono ?_
       rintro e w' ⟨rfl, hb'⟩
       have HB' := qh (HBn.out.trans (hb'.mono HBn.out.size)); clear hb'
       go_wp2_with fail
       go_roundg (gk - 1)
       case measure => have := Hj.out; omega
       case rel => exact ⟨j + 1, qh (by have := Hj.out; omega), by go_num, qh (by rw [Hcl.out, HX.out]; simp), HB'.out⟩
      ·have h1 : (q != 0) = true := by simpa using h0
       have H0 := qh h0; clear h0
       go_wp2_with fail
       refine Hcall.out.mono ?_
       rintro e w' ⟨rfl, hb'⟩
       have HB' := qh (HBn.out.trans (hb'.mono HBn.out.size)); clear hb'
       go_wp2_with fail
       go_ret
       exact ⟨ret_int (by rw [HC.out, Hcl.out, HX.out, if_neg H0.out]), HB'.out⟩
     ·go_wp2_with fail
      go_ret
      refine ⟨ret_int ?_, HBr.out⟩
      rw [HC.out, Hcl.out, List.drop_of_length_le (by have := HK.out.len; omega)]; rfl
   ·have HC : Hid (ckNd (.mk 4 ⟨[], 0, 0, 0, [], false⟩ f no ks) = 4) := qh (by
     simp only [ckNd]; rw [if_neg (by omega), if_neg (by simp [leafK]), if_neg (by simp [At.zero]), if_pos ⟨by omega, by cases no <;> simp_all⟩])
    by_cases hf0 : f = []
    ·subst hf0
     cases no
     ·exact absurd ⟨rfl, rfl⟩ hf
     ·clear hf
      go_enter Tryz.func142, Tryz.ntmps142
      go_wp2
      go_ret
      exact ⟨ret_int HC.out.symm, HB.out⟩
    ·clear hf
     go_enter Tryz.func142, Tryz.ntmps142
     go_wp2
     go_ret
     exact ⟨ret_int HC.out.symm, HB.out⟩
  ·exact ncheck_bad nm fl f op ver slot 4 on no A n c ks w (by decide) (by decide) ha
 ·clear k1 k5
  by_cases ha : nm = [] ∧ op = 0 ∧ ver = 0 ∧ slot = 0 ∧ fl = [] ∧ on = false
  ·obtain ⟨rfl, rfl, rfl, rfl, rfl, rfl⟩ := ha
   have hnm := fun wx => name_any ⟨f.toArray⟩ wx (by rw [bsz]; exact h3)
   rw [show (⟨f.toArray⟩ : ByteArray).data.toList = f from by simp] at hnm
   cases hn : isName f
   ·rw [hn] at hnm
    have Hnm := qh hnm; clear hnm
    have HC : Hid (ckNd (.mk 5 ⟨[], 0, 0, 0, [], false⟩ f no ks) = 1) := qh (by
     simp only [ckNd]; rw [if_neg (by omega), if_neg (by simp [leafK]), if_neg (by simp [At.zero]), if_neg (by simp), if_pos ⟨by trivial, hn⟩])
    clear h1 h2 h3 hn
    go_enter Tryz.func142, Tryz.ntmps142
    go_wp2_with (first | (go_at_call 111; refine (Hnm.out _).mono ?_; rintro e w1 ⟨rfl, hb1⟩; refine Hid.out ?_))
    refine qh ?_
    have HB1 := qh (HB.out.trans (hb1.mono HB.out.size)); clear hb1
    go_wp2
    go_ret
    exact ⟨ret_int HC.out.symm, HB1.out⟩
   ·rw [hn] at hnm
    have Hnm := qh hnm; clear hnm
    have HC : Hid (ckNd (.mk 5 ⟨[], 0, 0, 0, [], false⟩ f no ks) = ckKids ks) := qh (by
     simp only [ckNd]; rw [if_neg (by omega), if_neg (by simp [leafK]), if_neg (by simp [At.zero]), if_neg (by simp), if_neg (by simp [hn]), if_neg (by simp [leafK])])
    clear h1 h2 h3 hn
    have HW := qh (Whole.new w _ 40 [.int .i64 5, .string ⟨#[]⟩, .int .i64 0, .int .i64 0, .int .i64 0, .string ⟨#[]⟩, .bool false, .string ⟨f.toArray⟩, .bool no, .slice A n c] rfl)
    go_enter Tryz.func142, Tryz.ntmps142
    go_wp2_with (first | (go_at_call 111; refine (Hnm.out _).mono ?_; rintro e w1 ⟨rfl, hb1⟩; refine Hid.out ?_))
    refine qh ?_
    replace HB := qh (HB.out.trans (hb1.mono HB.out.size))
    have q9 := (HW.out.below hb1 HW.out.lt).cell 9
    simp only [qgz, qgs] at q9
    clear hb1 HW
    go_wp2
    go_loopg [70] n (fun g iv wr => ∃ (j : Nat), Hid (j + g = n) ∧ iv = .int .i64 j ∧ Hid (ckKids ks = ckKids (ks.drop j)) ∧ Below w.heap.size w wr)
    case atStart => exact ⟨0, qh (Nat.zero_add _), rfl, qh rfl, HB.out⟩
    case round =>
     obtain ⟨j, Hj, rfl, Hcl, hb⟩ := hrel
     have HBr := qh hb; clear hb
     by_cases hj : j < n
     ·obtain ⟨b, o, x, y, rfl, hb, hy, hxy, hcell⟩ := (HK.out.under HBr.out HS.out).at_ hj
      have Hdr := qh (drop_step hy)
      have hmem := List.mem_of_getElem? hy
      obtain ⟨yk, ya, yf, yn, yks⟩ := y
      obtain ⟨A', n', c', rfl, -⟩ := hxy.open_
      have g0 := hcell 0 (by omega); have g1 := hcell 1 (by omega); have g2 := hcell 2 (by omega); have g3 := hcell 3 (by omega); have g4 := hcell 4 (by omega)
      have g5 := hcell 5 (by omega); have g6 := hcell 6 (by omega); have g7 := hcell 7 (by omega); have g8 := hcell 8 (by omega); have g9 := hcell 9 (by omega)
      clear hcell
      unfold ndRow at g0 g1 g2 g3 g4 g5 g6 g7 g8 g9
      simp only [List.getElem?_cons_zero, List.getElem?_cons_succ, Nat.add_zero] at g0 g1 g2 g3 g4 g5 g6 g7 g8 g9
      clear hy
      have hxy2 := (hxy.under (Below.refl _ wr |>.alloc (qr _) (.cells #[.int .i64 yk, .string ⟨ya.nm.toArray⟩, .int .i64 ya.op, .int .i64 ya.ver, .int .i64 ya.slot, .string ⟨ya.fl.toArray⟩, .bool ya.on, .string ⟨yf.toArray⟩, .bool yn, .slice A' n' c'] 40)) fun q hq => ql (HS.out q hq) HBr.out.size)
      clear hxy
      have hcall := HI.out _ hmem S _ _ hxy2 (fun q hq => by have := HS.out q hq; have := HBr.out.size; simp; omega)
      unfold ndRow at hcall
      have HX : Hid (ckKids (ks.drop j) = if ckNd (.mk yk ya yf yn yks) = 0 then ckKids (ks.drop (j + 1)) else ckNd (.mk yk ya yf yn yks)) := qh (by rw [Hdr.out]; simp only [ckKids])
      generalize hq : ckNd (.mk yk ya yf yn yks) = q at hcall HX
      have HBn := qh (HBr.out.alloc HBr.out.size (.cells #[.int .i64 yk, .string ⟨ya.nm.toArray⟩, .int .i64 ya.op, .int .i64 ya.ver, .int .i64 ya.slot, .string ⟨ya.fl.toArray⟩, .bool ya.on, .string ⟨yf.toArray⟩, .bool yn, .slice A' n' c'] 40))
      clear hq hxy2
      have Hcall := qh hcall; clear hcall
      by_cases h0 : q = 0
      ·subst h0
       go_wp2_with fail
       refine Hcall.out.mono ?_
       rintro e w' ⟨rfl, hb'⟩
       have HB' := qh (HBn.out.trans (hb'.mono HBn.out.size)); clear hb'
       go_wp2_with fail
       go_roundg (gk - 1)
       case measure => have := Hj.out; omega
       case rel => exact ⟨j + 1, qh (by have := Hj.out; omega), by go_num, qh (by rw [Hcl.out, HX.out]; simp), HB'.out⟩
      ·have h1 : (q != 0) = true := by simpa using h0
       have H0 := qh h0; clear h0
       go_wp2_with fail
       refine Hcall.out.mono ?_
       rintro e w' ⟨rfl, hb'⟩
       have HB' := qh (HBn.out.trans (hb'.mono HBn.out.size)); clear hb'
       go_wp2_with fail
       go_ret
       exact ⟨ret_int (by rw [HC.out, Hcl.out, HX.out, if_neg H0.out]), HB'.out⟩
     ·go_wp2_with fail
      go_ret
      refine ⟨ret_int ?_, HBr.out⟩
      rw [HC.out, Hcl.out, List.drop_of_length_le (by have := HK.out.len; omega)]; rfl
  ·exact ncheck_bad nm fl f op ver slot 5 on no A n c ks w (by decide) (by decide) ha
end
/- need.Check, need.Same, walked. -/
section
open Go.RowKit Qm

set_option maxHeartbeats 1600000 in
theorem nCheck_any (y : Nd) (S : Nat → Prop) (x : List Value) (w : World) (hR : RNd w S x y) (hS : ∀ k, S k → k < w.heap.size) :
  Calls Tryz.prog 118 #[.agg x.toArray] w fun e w' => e = .returned (.int .i64 (ckNeed y)) ∧ Below w.heap.size w w' := by
 obtain ⟨k, a, f, no, ks⟩ := y
 obtain ⟨A, n, c, rfl, -⟩ := hR.open_
 have HB := qh ((Below.refl _ w).alloc (qr _) (.cells (ndRow k a f no A n c).toArray 40))
 have HW := qh (Whole.new w _ 40 (ndRow k a f no A n c) rfl)
 have hR1 := hR.under HB.out hS
 have hc1 := fun wx hw => count_any (.mk k a f no ks) S (ndRow k a f no A n c) 1 20 wx hw
 have hc2 := fun wx hw => ncheck_any (.mk k a f no ks) S (ndRow k a f no A n c) wx hw
 have HM := qh (cnt_many (.mk k a f no ks))
 have HK : Hid (ckNeed (.mk k a f no ks) = if tooMany (.mk k a f no ks) then 2 else ckNd (.mk k a f no ks)) := qh rfl
 generalize ckNeed (.mk k a f no ks) = R at HK ⊢
 generalize hq : cnt (.mk k a f no ks) 1 20 = q at hc1 HM
 generalize ckNd (.mk k a f no ks) = z at hc2 HK
 clear hq
 have HR := qh hR1; have HS := qh hS; clear hR hR1 hS
 unfold ndRow at hc1 hc2 HW HB HR ⊢
 have Hc1 := qh hc1; have Hc2 := qh hc2; clear hc1 hc2
 rcases q with _ | q
 ·have HE : Hid (R = 2) := qh (by rw [HK.out, if_pos (HM.out.2 rfl)])
  go_enter Tryz.func118, Tryz.ntmps118
  go_wp2_with (first | (go_at_call 141; refine (Hc1.out _ HR.out (fun k hk => ql (HS.out k hk) HB.out.size) (by decide) (by decide) (by decide) (by decide)).mono ?_; unfold cntV; rintro e w1 ⟨rfl, hb1⟩; refine Hid.out ?_))
  refine qh ?_
  have HB1 := qh (HB.out.trans (hb1.mono HB.out.size)); clear hb1
  go_wp2
  go_ret
  exact ⟨ret_int HE.out.symm, HB1.out⟩
 ·have hM := HM.out.1 q rfl
  by_cases h20 : 20 < q
  ·have HE : Hid (R = 2) := qh (by rw [HK.out, if_pos (hM.1 h20)])
   clear hM
   go_enter Tryz.func118, Tryz.ntmps118
   go_wp2_with (first | (go_at_call 141; refine (Hc1.out _ HR.out (fun k hk => ql (HS.out k hk) HB.out.size) (by decide) (by decide) (by decide) (by decide)).mono ?_; unfold cntV; rintro e w1 ⟨rfl, hb1⟩; refine Hid.out ?_))
   refine qh ?_
   have HB1 := qh (HB.out.trans (hb1.mono HB.out.size)); clear hb1
   go_wp2
   go_ret
   exact ⟨ret_int HE.out.symm, HB1.out⟩
  ·have HE : Hid (R = z) := qh (by rw [HK.out, if_neg fun h => h20 (hM.2 h)])
   have h20' : decide ((20 : Int) < q) = false := by simpa using h20
   clear hM
   go_enter Tryz.func118, Tryz.ntmps118
   go_wp2_with (first | (go_at_call 141; refine (Hc1.out _ HR.out (fun k hk => ql (HS.out k hk) HB.out.size) (by decide) (by decide) (by decide) (by decide)).mono ?_; unfold cntV; rintro e w1 ⟨rfl, hb1⟩; refine Hid.out ?_))
   refine qh ?_
   have HB1 := qh (HB.out.trans (hb1.mono HB.out.size))
   have HR1 := qh (HR.out.under hb1 fun k hk => ql (HS.out k hk) HB.out.size)
   have HW1 := qh (HW.out.below hb1 HW.out.lt); clear hb1
   have g0 := HW1.out.cell 0; have g1 := HW1.out.cell 1; have g2 := HW1.out.cell 2; have g3 := HW1.out.cell 3; have g4 := HW1.out.cell 4
   have g5 := HW1.out.cell 5; have g6 := HW1.out.cell 6; have g7 := HW1.out.cell 7; have g8 := HW1.out.cell 8; have g9 := HW1.out.cell 9
   simp only [qgz, qgs] at g0 g1 g2 g3 g4 g5 g6 g7 g8 g9
   go_wp2_with (first | (go_at_call 142; refine (Hc2.out _ HR1.out (fun k hk => ql (HS.out k hk) HB1.out.size)).mono ?_; rintro e w2 ⟨rfl, hb2⟩; refine Hid.out ?_))
   refine qh ?_
   have HB2 := qh (HB1.out.trans (hb2.mono HB1.out.size)); clear hb2
   go_wp2
   go_ret
   exact ⟨ret_int HE.out.symm, HB2.out⟩

end
/- Laws: append of whatever row. -/
section
open Go.RowKit
theorem own_form {w : World} {base : Nat} {e : TypeId} {v : Value} {n : Nat} {vs : List Value} (h : w.ownsRow base e 1 v n vs) : ∃ (A : Option Addr) (c : Nat), v = .slice A n c ∧ n ≤ c ∧ c ≤ maxLen ∧ Row w (fun k => base ≤ k ∧ k < w.heap.size) A n vs := by
 have h' := h
 rcases h'.2 with ⟨rfl, rfl⟩ | ⟨g, cap, cur, rfl, hb, hh, hc, hm, _⟩
 ·exact ⟨none, 0, rfl, qr _, Nat.zero_le _, by have := h.1; simpa using this, fun h => absurd h (by omega)⟩
 ·exact ⟨_, cap, rfl, hc, hm, row_of_own h (fun g' e => by simp [Value.ownBlock] at e; subst e; exact ⟨hb, lt_of_block hh⟩)⟩
theorem own_formK {w : World} {base : Nat} {e : TypeId} {size : Nat} {v : Value} {n : Nat} {vs : List Value} (h : w.ownsRow base e size v n vs) : ∃ (A : Option Addr) (c : Nat), v = .slice A n c ∧ n ≤ c ∧ c ≤ maxLen ∧ Row w (fun k => v.ownBlock = some k) A (n * size) vs := by
 rcases h.2 with ⟨rfl, rfl⟩ | ⟨g, cap, cur, rfl, hb, hh, hc, hm, hs, ht⟩
 ·exact ⟨none, 0, rfl, qr _, Nat.zero_le _, by have := h.1; simpa using this, fun h => absurd h (by omega)⟩
 ·refine ⟨_, cap, rfl, hc, hm, h.1, fun hn => ⟨g, 0, rfl, rfl, fun j hj => ?_⟩⟩
  have hj' : j < cur.size := by rw [hs]; exact ql hj (Nat.mul_le_mul_right _ hc)
  rw [cell_of_row w g _ _ _ (0, 0) hh, Nat.zero_add, ← ht, List.getElem?_take_of_lt hj]
  simp
theorem news_of_row {w : World} {S : Nat → Prop} {b o n : Nat} {vs : List Value} (h : Row w S (some ⟨b, o, none⟩) n vs) : ∀ j u, vs[j]? = some u → w.cell? ((⟨b, o, none⟩ : Addr).add j) = some u := by
 intro j u hj
 have hjn : j < n := by have := (List.getElem?_eq_some_iff.1 hj).1; rw [h.len] at this; exact this
 obtain ⟨b', o', e, _, hc⟩ := h.at_ hjn
 injection e with e; injection e with e1 e2
 subst e1 e2
 have hadd : (⟨b, o, none⟩ : Addr).add j = ⟨b, o + j, none⟩ := by unfold Addr.add; split <;> simp_all
 rw [hadd, hc, hj]
theorem Row.some_lit {w : World} {S : Nat → Prop} {A : Option Addr} {n : Nat} {vs : List Value} (h : Row w S A n vs) (hn : 0 < n) : ∃ b o, A = some ⟨b, o, none⟩ ∧ S b := by
 obtain ⟨b, o, e, hS, _⟩ := h.at_ hn
 exact ⟨b, o, e, hS⟩
end
/- atom.ops, atom.Print, walked. -/
section
open Go.RowKit Qm

def opsV : Value := .agg #[.string ⟨#[]⟩, .string ⟨#[61]⟩, .string ⟨#[62, 61]⟩, .string ⟨#[60]⟩]

set_option maxHeartbeats 1600000 in
theorem ops_any (w : World) :
  Calls Tryz.prog 174 #[] w fun e w' => e = .returned opsV ∧ Below w.heap.size w w' := by
 go_enter Tryz.func174, Tryz.ntmps174
 go_wp2
 refine bodyPost_ret (v := opsV) (by simp [results, Tryz.results174, go_sem]; rfl) rfl ⟨rfl, ?_⟩
 exact (Below.refl _ _).alloc (qr _) _

theorem ops_any' (w : World) : Calls Tryz.prog 174 #[] w fun e w' => e = .returned (.agg #[.string ⟨#[]⟩, .string ⟨#[61]⟩, .string ⟨#[62, 61]⟩, .string ⟨#[60]⟩]) ∧ Below w.heap.size w w' := ops_any w

structure Boxed (w : World) (s : ByteArray) (op ver slot : Int) (f : ByteArray) (on : Bool) (wx : World) : Prop where
 c0 : wx.cell? ⟨w.heap.size, 0, none⟩ = some (.string s)
 c1 : wx.cell? ⟨w.heap.size, 1, none⟩ = some (.int .i64 op)
 c2 : wx.cell? ⟨w.heap.size, 2, none⟩ = some (.int .i64 ver)
 c3 : wx.cell? ⟨w.heap.size, 3, none⟩ = some (.int .i64 slot)
 c4 : wx.cell? ⟨w.heap.size, 4, none⟩ = some (.string f)
 c5 : wx.cell? ⟨w.heap.size, 5, none⟩ = some (.bool on)
 b : Below w.heap.size w wx
theorem Boxed.new (w : World) (s : ByteArray) (op ver slot : Int) (f : ByteArray) (on : Bool) {t : TypeId} : Boxed w s op ver slot f on (w.alloc (.cells #[.string s, .int .i64 op, .int .i64 ver, .int .i64 slot, .string f, .bool on] t)) := by
 refine ⟨?_, ?_, ?_, ?_, ?_, ?_, (Below.refl _ w).alloc (qr _) _⟩ <;> simp [World.cell?, World.alloc, -World.alloc_eq]

theorem bs_size (a : List UInt8) : (⟨a.toArray⟩ : ByteArray).size = a.length := by show a.toArray.size = _; simp

theorem ops_at1 (wx : World) : (Instr.index 202 (.agg #[.string ⟨#[]⟩, .string ⟨#[61]⟩, .string ⟨#[62, 61]⟩, .string ⟨#[60]⟩]) (.int .i64 1)).run Tryz.prog wx = .ok (.string ⟨#[61]⟩) wx := by
 simp [Instr.index, run_underlying Tryz.underlying202, go_sem]
theorem ops_at2 (wx : World) : (Instr.index 202 (.agg #[.string ⟨#[]⟩, .string ⟨#[61]⟩, .string ⟨#[62, 61]⟩, .string ⟨#[60]⟩]) (.int .i64 2)).run Tryz.prog wx = .ok (.string ⟨#[62, 61]⟩) wx := by
 simp [Instr.index, run_underlying Tryz.underlying202, go_sem]
theorem ops_at3 (wx : World) : (Instr.index 202 (.agg #[.string ⟨#[]⟩, .string ⟨#[61]⟩, .string ⟨#[62, 61]⟩, .string ⟨#[60]⟩]) (.int .i64 3)).run Tryz.prog wx = .ok (.string ⟨#[60]⟩) wx := by
 simp [Instr.index, run_underlying Tryz.underlying202, go_sem]
end
/- need.words, walked. -/
section
open Go.RowKit Qm

def strs (ws : List Qm.W) : List Value := ws.map fun l => .string ⟨l.toArray⟩
theorem strs_append (a b : List Qm.W) : strs (a ++ b) = strs a ++ strs b := by simp [strs]
theorem strs_len (a : List Qm.W) : (strs a).length = a.length := by simp [strs]
theorem string_info : (Tryz.prog.info? 9).map (fun i => (i.zero, i.size, i.bytes)) = some (some (.string ⟨#[]⟩), 1, 16) := by kernel_rfl

structure Wd (w : World) (box : List Value) (ws : List Qm.W) (A : Option Addr) (c : Nat) (wx : World) : Prop where
 own : wx.ownsRow (w.heap.size + 1) 9 1 (.slice A ws.length c) ws.length (strs ws)
 box : Whole wx w.heap.size 40 box
 bel : Below w.heap.size w wx
theorem own_below {w w' : World} {base : Nat} {e : TypeId} {size : Nat} {v : Value} {n : Nat} {xs : List Value} (h : w.ownsRow base e size v n xs) (hb : Below w.heap.size w w') : w'.ownsRow base e size v n xs :=
 h.kept (grown_of_below hb none) (by cases hv : v.ownBlock <;> simp)
theorem own_row {w : World} {base : Nat} {e : TypeId} {A : Option Addr} {n c : Nat} {vs : List Value} (h : w.ownsRow base e 1 (.slice A n c) n vs) : Row w (fun k => base ≤ k ∧ k < w.heap.size) A n vs := by
 obtain ⟨A', c', he, _, _, hr⟩ := own_form h
 injection he with h1 _ _
 subst h1
 exact hr
theorem take_snocN {ks : List Nd} {j : Nat} {y : Nd} (h : ks[j]? = some y) : ks.take (j + 1) = ks.take j ++ [y] := by
 obtain ⟨hj, e⟩ := List.getElem?_eq_some_iff.1 h
 rw [List.take_succ_eq_append_getElem hj, e]
/- one word behind: of P at wp, the words WS; the word L -/
end
/- What a call may change: some blocks alone. -/
section
open Go.RowKit
structure Far (D : Nat → Prop) (w w' : World) : Prop where
 base : Below 0 w w'
 block : ∀ i, i < w.heap.size → ¬ D i → w'.heap[i]? = w.heap[i]?
section
variable {w w' w'' : World} {D D' : Nat → Prop} {S : Nat → Prop} {A : Option Addr} {n b : Nat}
theorem Far.size (h : Far D w w') : w.heap.size ≤ w'.heap.size := h.base.size
theorem Far.refl (D : Nat → Prop) (w : World) : Far D w w := ⟨Below.refl _ _, fun _ _ _ => rfl⟩
theorem Far.trans (h : Far D w w') (k : Far D' w' w'') (hD : ∀ i, i < w.heap.size → D' i → D i) : Far D w w'' :=
 ⟨h.base.trans k.base, fun i hi hn => (k.block i (ql hi h.size) (fun hd => hn (hD i hi hd))).trans (h.block i hi hn)⟩
theorem Far.of_below (D : Nat → Prop) (h : Below w.heap.size w w') : Far D w w' := ⟨h.mono (Nat.zero_le _), fun i hi _ => h.block i hi⟩
theorem Far.of_grown {row : Option Nat} (h : w.grownBy w' row) (hD : ∀ i, some i = row → D i) : Far D w w' :=
 ⟨below_of_grown h (Nat.zero_le _) (fun _ _ => Nat.zero_le _), fun i hi hn => h.block i hi (fun e => hn (hD i e))⟩
theorem Far.set_ (hb : D b) (i : Nat) (u : Value) : Far D w (w.setCell ⟨b, i, none⟩ u) :=
 ⟨(Below.refl 0 w).setCell (Nat.zero_le _) _, fun k _ hn => heap_setCell_other w _ k u (fun e => hn (by rw [show k = b from e.symm ▸ rfl]; exact hb))⟩
theorem Far.drew (h : Far D w w') : Far D w w'.drew := ⟨below_drewN h.base 1, h.block⟩
theorem Far.drewN (h : Far D w w') (k : Nat) : Far D w (w'.drewN k) := ⟨below_drewN h.base k, h.block⟩
theorem Far.mono (h : Far D w w') (hD : ∀ i, D i → D' i) : Far D' w w' := ⟨h.base, fun i hi hn => h.block i hi (fun hd => hn (hD i hd))⟩
theorem Far.below (h : Far D w w') {B : Nat} (hB : B ≤ w.heap.size) (hD : ∀ i, D i → B ≤ i) : Below B w w' :=
 ⟨h.base.os, h.base.tape, h.base.output, h.size, fun i hi => h.block i (ql hi hB) (fun hd => absurd (hD i hd) (by omega))⟩
theorem Far.whole {t : TypeId} {vs : List Value} (h : Far D w w') (hw : Whole w b t vs) (hb : ¬ D b) : Whole w' b t vs := (h.block b hw.lt hb).trans hw
theorem Far.cell (h : Far D w w') {p : Addr} (hp : p.block < w.heap.size) (hn : ¬ D p.block) : w'.cell? p = w.cell? p := World.cell?_of_block (h.block _ hp hn)
theorem Far.ints {xs : List Int} (h : Far D w w') (hr : RInts w S A n xs) (hS : ∀ k, S k → k < w.heap.size ∧ ¬ D k) : RInts w' S A n xs := hr.keep fun _ hp => h.cell (hS _ hp).1 (hS _ hp).2
theorem Far.clauses {cs : List (List Int)} (h : Far D w w') (hr : RClauses w S A n cs) (hS : ∀ k, S k → k < w.heap.size ∧ ¬ D k) : RClauses w' S A n cs := hr.keep fun _ hp => h.cell (hS _ hp).1 (hS _ hp).2
theorem Far.own {base : Nat} {e : TypeId} {size : Nat} {v : Value} {vs : List Value} (h : Far D w w') (ho : w.ownsRow base e size v n vs) (hv : ∀ g, v.ownBlock = some g → ¬ D g) : w'.ownsRow base e size v n vs := by
 rcases ho.2 with h0 | ⟨g, cap, cur, rfl, hb, hh, hc, hm, hs, ht⟩
 ·exact ⟨ho.1, .inl h0⟩
 ·exact ⟨ho.1, .inr ⟨g, cap, cur, rfl, hb, (h.block g (lt_of_block hh) (hv g rfl)).trans hh, hc, hm, hs, ht⟩⟩
theorem own_ne {base : Nat} {e t : TypeId} {size : Nat} {v : Value} {vs us : List Value} (ho : w.ownsRow base e size v n vs) (hw : Whole w b t us) (ht : t ≠ e) : v.ownBlock ≠ some b := by
 rcases ho.2 with ⟨rfl, _⟩ | ⟨g, cap, cur, rfl, _, hh, _⟩
 ·intro h; cases h
 ·intro h
  simp only [Value.ownBlock] at h
  injection h with h
  subst h
  unfold Whole at hw
  rw [hh] at hw
  injection hw with hw; injection hw with _ hw
  exact ht hw.symm
end
end
/- need.Print, the reader's next, walked. (Of the shelf: Tryz.strings_HasSuffix Tryz.strings_Split Tryz.slices_Sort_string Tryz.slices_Sort_string_none Tryz.slices_Compact_string Tryz.slices_Compact_string_empty Tryz.slices_Equal_string Tryz.slices_Equal_string_lens Tryz.slices_Equal_string_empty) -/
section
open Go.RowKit Qm

theorem RNd.far {w w' : World} {S D : Nat → Prop} {x : List Value} {y : Nd} (h : RNd w S x y) (hf : Far D w w') (hS : ∀ k, S k → k < w.heap.size ∧ ¬ D k) : RNd w' S x y := h.keep fun _ hp => hf.cell (hS _ hp).1 (hS _ hp).2
/-! the reader of words -/
def RdSt (w : World) (R : Nat) (S : Nat → Prop) (ws : List Qm.W) : Prop :=
 ∃ A c, Whole w R 159 [.slice A ws.length c] ∧ ws.length ≤ c ∧ c ≤ maxLen ∧ Row w S A ws.length (strs ws) ∧ ¬ S R
theorem RdSt.far {w w' : World} {R : Nat} {S D : Nat → Prop} {ws : List Qm.W} (h : RdSt w R S ws) (hf : Far D w w') (hR : ¬ D R) (hS : ∀ k, S k → k < w.heap.size ∧ ¬ D k) : RdSt w' R S ws := by
 obtain ⟨A, c, h1, h2, h3, h4, h5⟩ := h
 exact ⟨A, c, hf.whole h1 hR, h2, h3, h4.keep fun _ hp => hf.cell (hS _ hp).1 (hS _ hp).2, h5⟩
def NextPost (w : World) (R : Nat) (S : Nat → Prop) (ws : List Qm.W) (e : Ending) (w' : World) : Prop :=
 e = .returned (.string ⟨(ws.headD []).toArray⟩) ∧ RdSt w' R S ws.tail ∧ Far (fun i => i = R) w w' ∧ w'.heap.size = w.heap.size
set_option maxHeartbeats 1600000 in
theorem next_any (R : Nat) (S : Nat → Prop) (ws : List Qm.W) (w : World) (h : RdSt w R S ws) :
  Calls Tryz.prog 137 #[.pointer (some ⟨R, 0, none⟩)] w (NextPost w R S ws) := by
 obtain ⟨A, c, hw, hc1, hc2, hr, hS⟩ := h
 have HW := qh hw; have HR := qh hr; have HS := qh hS
 have g0 := hw.cell 0
 have f0 := hw.free 0
 simp only [List.getElem?_cons_zero] at g0
 unfold maxLen at hc2
 cases ws with
 | nil =>
  clear hw hr hS
  simp only [List.length_nil] at g0
  go_enter Tryz.func137, Tryz.ntmps137
  go_wp2
  go_ret
  exact ⟨rfl, ⟨A, c, HW.out, hc1, by unfold maxLen; omega, HR.out, HS.out⟩, Far.refl _ _, rfl⟩
 | cons a r =>
  obtain ⟨b, o, rfl, hb⟩ := hr.some_lit (by simp)
  have hcell := (hr.2 (by simp))
  obtain ⟨b', o', e, _, hcell⟩ := hcell
  injection e with e; injection e with e1 e2
  subst e1 e2
  have k0 := hcell 0 (by simp)
  simp only [Nat.add_zero, strs, List.map_cons, List.getElem?_cons_zero] at k0
  clear hcell
  have hl : (a :: r).length = r.length + 1 := rfl
  rw [hl] at g0 hc1
  have hdrop := hr.drop (k := 1) (cap := c) (by simp) hc1
  have Hdrop := qh hdrop
  clear hw hr hS hdrop hl
  by_cases c1 : c = 1
  ·subst c1
   go_enter Tryz.func137, Tryz.ntmps137
   go_wp2
   go_ret
   obtain rfl : r = [] := List.eq_nil_of_length_eq_zero (by omega)
   refine ⟨rfl, ⟨some ⟨b, o, none⟩, 0, HW.out.set_ 0 _, qr _, by unfold maxLen; omega, ?_, HS.out⟩, Far.set_ (D := fun i => i = R) rfl 0 _, by simp [World.setCell]⟩
   have hd := Hdrop.out
   simp only [if_true] at hd
   exact hd.keep fun p hp => World.cell?_setCell_other _ _ _ _ (fun e => HS.out (by rw [← e] at hp; exact hp))
  ·have h2 : 2 ≤ c := by omega
   go_enter Tryz.func137, Tryz.ntmps137
   go_wp2
   go_ret
   refine ⟨rfl, ⟨some ⟨b, o + 1, none⟩, c - 1, HW.out.set_ 0 _, by simp only [List.tail_cons]; omega, by unfold maxLen; omega, ?_, HS.out⟩, Far.set_ (D := fun i => i = R) rfl 0 _, by simp [World.setCell]⟩
   have hd := Hdrop.out
   rw [if_neg (by omega)] at hd
   exact hd.keep fun p hp => World.cell?_setCell_other _ _ _ _ (fun e => HS.out (by rw [← e] at hp; exact hp))
end
/- atom.Fits, atom.number, walked; what the listed variables hold. -/
section
open Go.RowKit Qm

structure LaidV (w : World) : Prop where
 syn : ∃ tp p, w.var? Tryz.prog "strconv.ErrSyntax" = some #[.iface tp p]
 rng : ∃ tp p, w.var? Tryz.prog "strconv.ErrRange" = some #[.iface tp p]
 tab : Lib.TabIs Tryz.prog w "internal/strconv.uint64pow10" .u64 Lib.pow10Tab

theorem var_below {P : Program} {w w' : World} {n : String} {cs : Array Value} (h : w.var? P n = some cs) (hb : Below w.heap.size w w') : w'.var? P n = some cs := by
 unfold World.var? at h ⊢
 cases hg : P.globalNamed n with
 | none => rw [hg] at h; cases h
 | some g =>
  rw [hg] at h
  simp only [Option.bind_some] at h ⊢
  have hlt : g < w.heap.size := by
   rcases Nat.lt_or_ge g w.heap.size with hlt | hge
   ·exact hlt
   ·rw [Array.getElem?_eq_none hge] at h; cases h
  rw [hb.block g hlt]
  exact h

theorem LaidV.below {w w' : World} (h : LaidV w) (hb : Below w.heap.size w w') : LaidV w' := by
 obtain ⟨⟨t1, p1, h1⟩, ⟨t2, p2, h2⟩, h3⟩ := h
 exact ⟨⟨t1, p1, var_below h1 hb⟩, ⟨t2, p2, var_below h2 hb⟩, var_below h3 hb⟩

theorem bs_eq (a : List UInt8) (s : ByteArray) : (a == s.toList) = decide (a = s.data.toList) := by
 rw [Lib.toList_data, Bool.eq_iff_iff]
 simp

set_option maxHeartbeats 3200000 in
theorem number_any (s : ByteArray) (w : World) (hs : s.size ≤ 140737488355328) (hL : LaidV w) :
  Calls Tryz.prog 173 #[.string s] w fun e w' => ∃ n, e = .returned (.tuple #[.int .i64 n, .bool (number s.data.toList).isSome]) ∧ (∀ v, number s.data.toList = some v → n = v) ∧ Below w.heap.size w w' := by
 obtain ⟨⟨tp, p, h1⟩, ⟨tp2, p2, h2⟩, h3⟩ := hL
 rcases h : Lib.atoiAll s.data.toList with v | _ | _
 ·skip
  have hat := Tryz.strconv_Atoi_ok s (by omega) v h w
  obtain ⟨hv0, hv1⟩ := Lib.atoiAll_bounds h
  go_enter Tryz.func173, Tryz.ntmps173
  go_wp2_with (first | (go_at_call 115; refine hat.mono ?_; rintro e w1 ⟨rfl, hw1⟩; refine Hid.out ?_))
  have hb1 : Hid (Below w.heap.size w w1) := qh (by
   rcases hw1 with rfl | ⟨t, rfl⟩
   ·exact Below.refl _ _
   ·exact Lib.bytesWorld_below _ _ _)
  clear hw1
  have hit := Tryz.strconv_Itoa v (by omega) (by omega) w1 (var_below h3 hb1.out)
  have Hit := qh hit
  clear hit
  have hcmp := bs_eq (Lib.itoa v) s
  have HV := qh (show number s.data.toList = if Lib.itoa v = s.data.toList then some v else none by unfold number; rw [h])
  clear h
  generalize Lib.itoa v = T at hcmp HV Hit
  by_cases e1 : T = s.data.toList
  ·rw [decide_eq_true e1] at hcmp
   have E1 := qh e1; clear e1
   refine qh ?_
   go_wp2_with (first | (go_at_call 116; refine Hit.out.mono ?_; rintro e w2 ⟨rfl, k, os, hw2⟩))
   go_ret2
   refine ⟨v, ?_, ?_, hb1.out.trans (by subst hw2; exact (Lib.below_grow _ _ (qr _) _ _).mono hb1.out.size)⟩
   ·rw [HV.out, if_pos E1.out]; rfl
   ·rw [HV.out, if_pos E1.out]; intro u hu; injection hu
  ·rw [decide_eq_false e1] at hcmp
   have E1 := qh e1; clear e1
   refine qh ?_
   go_wp2_with (first | (go_at_call 116; refine Hit.out.mono ?_; rintro e w2 ⟨rfl, k, os, hw2⟩))
   go_ret2
   refine ⟨v, ?_, ?_, hb1.out.trans (by subst hw2; exact (Lib.below_grow _ _ (qr _) _ _).mono hb1.out.size)⟩
   ·rw [HV.out, if_neg E1.out]; rfl
   ·rw [HV.out, if_neg E1.out]; intro u hu; cases hu
 ·have hat := Any.strconv_Atoi_syntax_var Tryz.laysC172 s (by omega) h tp p w h1
  go_enter Tryz.func173, Tryz.ntmps173
  go_wp2_with (first | (go_at_call 115; refine hat.mono ?_; rintro e w1 ⟨N, rfl, -, -, hb⟩))
  go_ret2
  have hn : number s.data.toList = none := by unfold number; rw [h]
  exact ⟨_, by rw [hn]; rfl, (by rw [hn]; intro v hv; cases hv), hb⟩
 ·have hat := Tryz.strconv_Atoi_range_var s (by omega) h tp2 p2 w h2
  go_enter Tryz.func173, Tryz.ntmps173
  go_wp2_with (first | (go_at_call 115; refine hat.mono ?_; rintro e w1 ⟨N, rfl, -, -, hb⟩))
  go_ret2
  have hn : number s.data.toList = none := by unfold number; rw [h]
  exact ⟨_, by rw [hn]; rfl, (by rw [hn]; intro v hv; cases hv), hb⟩
end
end Go.Proofs.YtpipgffbhpnmkaaGreatDoor
