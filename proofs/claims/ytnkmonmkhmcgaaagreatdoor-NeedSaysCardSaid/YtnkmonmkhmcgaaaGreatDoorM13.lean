/- Parts of the proof: walks and plain laws, side by side. -/
import Derived.Test.YtnkmonmkhmcgaaaGreatDoorM12
import Derived.Test.YtnkmonmkhmcgaaaGreatDoorM3
import Derived.Laws.EntriesVeiled
import Derived.Test.YtnkmonmkhmcgaaaGreatDoorM5
import Derived.Maps.OwnSet
import Derived.Lib.ParseIntBTie
import Derived.Test.YtnkmonmkhmcgaaaGreatDoorM1
import Derived.Test.YtnkmonmkhmcgaaaGreatDoorM2
import Derived.Test.YtnkmonmkhmcgaaaGreatDoorM4
import Derived.Test.YtnkmonmkhmcgaaaGreatDoorM6
import Derived.Test.YtnkmonmkhmcgaaaGreatDoorM7
import Derived.Test.YtnkmonmkhmcgaaaGreatDoorM8
import Derived.Test.YtnkmonmkhmcgaaaGreatDoorM9
import Derived.Test.YtnkmonmkhmcgaaaGreatDoorM10
import Derived.Test.YtnkmonmkhmcgaaaGreatDoorM11
set_option linter.unusedVariables false
set_option linter.unusedSimpArgs false
set_option linter.unusedSectionVars false
/- The closure of quartermasterref.CheckNeed, walked. -/
namespace Go.Proofs.YtnkmonmkhmcgaaaGreatDoor
open Go.RowKit Qm

/-- The box that holds the closure itself. -/
def selfC (bx : Nat) : Value := .func (.func 26) #[] #[.pointer (some ⟨bx, 0, none⟩)]
set_option maxRecDepth 100000 in
set_option maxHeartbeats 3200000 in
theorem rwalk_bad (nm fl f : Qm.W) (op ver slot k : Int) (on no : Bool) (A : Option Addr) (n c : Nat) (ks : List Nd) (w : World) (bx : Nat) (k1 : 3 ≤ k) (k2 : k ≤ 5) (ha : ¬ (nm = [] ∧ op = 0 ∧ ver = 0 ∧ slot = 0 ∧ fl = [] ∧ on = false)) :
    Calls Tryz.prog 26 #[.agg (ndRow k ⟨nm, op, ver, slot, fl, on⟩ f no A n c).toArray, .pointer (some ⟨bx, 0, none⟩)] w fun e w' => e = .returned (.int .i64 (ckNd (.mk k ⟨nm, op, ver, slot, fl, on⟩ f no ks))) ∧ Below w.heap.size w w' := by
  unfold ndRow
  have HC : Hid (ckNd (.mk k ⟨nm, op, ver, slot, fl, on⟩ f no ks) = 4) := Lib.hid (by
    have hl : leafK k = false := by simp [leafK]; omega
    simp only [ckNd]; rw [if_neg (by omega), if_neg (by simp [hl]), if_pos ⟨hl, by simpa [At.zero] using ha⟩])
  have e1 : (k == 1) = false := by simp; omega
  have e2 : (k == 2) = false := by simp; omega
  have e3 : decide (k < 1) = false := by simp; omega
  have e4 : decide (5 < k) = false := by simp; omega
  have HB := Lib.hid ((Below.refl _ w).alloc (Nat.le_refl _) (.cells #[.int .i64 k, .string ⟨nm.toArray⟩, .int .i64 op, .int .i64 ver, .int .i64 slot, .string ⟨fl.toArray⟩, .bool on, .string ⟨f.toArray⟩, .bool no, .slice A n c] 26))
  by_cases c1 : nm = []
  · subst c1
    by_cases c2 : op = 0
    · subst c2
      by_cases c3 : ver = 0
      · subst c3
        by_cases c4 : slot = 0
        · subst c4
          by_cases c5 : fl = []
          · subst c5
            cases on
            · exact absurd ⟨rfl, rfl, rfl, rfl, rfl, rfl⟩ ha
            · clear ha
              go_enter Tryz.func26, Tryz.ntmps26
              go_wp2
              go_ret
              exact ⟨ret_int HC.out.symm, HB.out⟩
          · clear ha
            go_enter Tryz.func26, Tryz.ntmps26
            go_wp2
            go_ret
            exact ⟨ret_int HC.out.symm, HB.out⟩
        · clear ha
          go_enter Tryz.func26, Tryz.ntmps26
          go_wp2
          go_ret
          exact ⟨ret_int HC.out.symm, HB.out⟩
      · clear ha
        go_enter Tryz.func26, Tryz.ntmps26
        go_wp2
        go_ret
        exact ⟨ret_int HC.out.symm, HB.out⟩
    · clear ha
      go_enter Tryz.func26, Tryz.ntmps26
      go_wp2
      go_ret
      exact ⟨ret_int HC.out.symm, HB.out⟩
  · clear ha
    go_enter Tryz.func26, Tryz.ntmps26
    go_wp2
    go_ret
    exact ⟨ret_int HC.out.symm, HB.out⟩

set_option maxRecDepth 100000 in
set_option maxHeartbeats 3200000 in
theorem rwalk_out (nm fl f : Qm.W) (op ver slot k : Int) (on no : Bool) (A : Option Addr) (n c : Nat) (ks : List Nd) (w : World) (bx : Nat) (hk : k < 1 ∨ 5 < k) :
    Calls Tryz.prog 26 #[.agg (ndRow k ⟨nm, op, ver, slot, fl, on⟩ f no A n c).toArray, .pointer (some ⟨bx, 0, none⟩)] w fun e w' => e = .returned (.int .i64 (ckNd (.mk k ⟨nm, op, ver, slot, fl, on⟩ f no ks))) ∧ Below w.heap.size w w' := by
  unfold ndRow
  have HC : Hid (ckNd (.mk k ⟨nm, op, ver, slot, fl, on⟩ f no ks) = 4) := Lib.hid (by simp only [ckNd]; rw [if_pos hk])
  have HB := Lib.hid ((Below.refl _ w).alloc (Nat.le_refl _) (.cells #[.int .i64 k, .string ⟨nm.toArray⟩, .int .i64 op, .int .i64 ver, .int .i64 slot, .string ⟨fl.toArray⟩, .bool on, .string ⟨f.toArray⟩, .bool no, .slice A n c] 26))
  have e1 : (k == 1) = false := by simp; omega
  have e2 : (k == 2) = false := by simp; omega
  rcases hk with hk | hk
  ·
    go_enter Tryz.func26, Tryz.ntmps26
    go_wp2
    go_ret
    exact ⟨ret_int HC.out.symm, HB.out⟩
  · have e3 : decide (k < 1) = false := by simp; omega
    go_enter Tryz.func26, Tryz.ntmps26
    go_wp2
    go_ret
    exact ⟨ret_int HC.out.symm, HB.out⟩
set_option maxRecDepth 100000 in
set_option maxHeartbeats 3200000 in
theorem rwalk_leaf1 (nm fl f : Qm.W) (op ver slot : Int) (on no : Bool) (A : Option Addr) (n c : Nat) (ks : List Nd) (w : World) (bx : Nat) (hc : n ≤ c) (hc2 : c ≤ maxLen) (h1 : nm.length ≤ maxLen) (h2 : fl.length ≤ maxLen) (hlen : ks.length = n) :
    Calls Tryz.prog 26 #[.agg (ndRow 1 ⟨nm, op, ver, slot, fl, on⟩ f no A n c).toArray, .pointer (some ⟨bx, 0, none⟩)] w fun e w' => e = .returned (.int .i64 (ckNd (.mk 1 ⟨nm, op, ver, slot, fl, on⟩ f no ks))) ∧ Below w.heap.size w w' := by
  unfold ndRow
  unfold maxLen at hc2
  have HB := Lib.hid ((Below.refl _ w).alloc (Nat.le_refl _) (.cells #[.int .i64 1, .string ⟨nm.toArray⟩, .int .i64 op, .int .i64 ver, .int .i64 slot, .string ⟨fl.toArray⟩, .bool on, .string ⟨f.toArray⟩, .bool no, .slice A n c] 26))
  by_cases hn : 0 < n
  · have HC : Hid (ckNd (.mk 1 ⟨nm, op, ver, slot, fl, on⟩ f no ks) = 4) := Lib.hid (by
      simp only [ckNd]; rw [if_neg (by omega), if_pos ⟨rfl, by omega⟩])
    have hn' : ((n : Int) != 0) = true := by simp; omega
    go_enter Tryz.func26, Tryz.ntmps26
    go_wp2
    go_ret
    exact ⟨ret_int HC.out.symm, HB.out⟩
  · obtain rfl : n = 0 := by omega
    clear hn
    by_cases hf : f = [] ∧ no = false
    · obtain ⟨rfl, rfl⟩ := hf
      have HC : Hid (ckNd (.mk 1 ⟨nm, op, ver, slot, fl, on⟩ [] false ks) = ckAtom ⟨nm, op, ver, slot, fl, on⟩) := Lib.hid (by
        simp only [ckNd]; rw [if_neg (by omega), if_neg (by simp [hlen]), if_neg (by simp [leafK]), if_neg (by simp), if_neg (by simp), if_pos (by rfl)])
      have hck := fun wx => rcheck_any ⟨nm.toArray⟩ ⟨fl.toArray⟩ op ver slot on wx (by rw [bsz]; exact h1) (by rw [bsz]; exact h2)
      rw [show atOf ⟨nm.toArray⟩ op ver slot ⟨fl.toArray⟩ on = ⟨nm, op, ver, slot, fl, on⟩ from by simp [atOf]] at hck
      unfold atv at hck
      have Hck := Lib.hid hck; clear hck
      generalize ckAtom _ = q at Hck HC
      clear h1 h2
      go_enter Tryz.func26, Tryz.ntmps26
      go_wp2_with (first | (go_at_call 28; refine (Hck.out _).mono ?_; rintro e w1 ⟨rfl, hb1⟩; refine Hid.out ?_))
      refine Lib.hid ?_
      have HB1 := Lib.hid (HB.out.trans (hb1.mono HB.out.size)); clear hb1
      go_wp2
      go_ret
      exact ⟨ret_int HC.out.symm, HB1.out⟩
    · have HC : Hid (ckNd (.mk 1 ⟨nm, op, ver, slot, fl, on⟩ f no ks) = 4) := Lib.hid (by
        simp only [ckNd]; rw [if_neg (by omega), if_neg (by simp [hlen]), if_neg (by simp [leafK]), if_pos ⟨by omega, by cases no <;> simp_all⟩])
      cases no
      · have hf0 : ¬ f = [] := fun e => hf ⟨e, rfl⟩
        have hf1 : (!List.isEmpty f) = true := by cases f with | nil => exact absurd rfl hf0 | cons => rfl
        clear hf
        go_enter Tryz.func26, Tryz.ntmps26
        go_wp2
        go_ret
        exact ⟨ret_int HC.out.symm, HB.out⟩
      · clear hf
        go_enter Tryz.func26, Tryz.ntmps26
        go_wp2
        go_ret
        exact ⟨ret_int HC.out.symm, HB.out⟩
set_option maxRecDepth 100000 in
set_option maxHeartbeats 3200000 in
theorem rwalk_leaf2 (nm fl f : Qm.W) (op ver slot : Int) (on no : Bool) (A : Option Addr) (n c : Nat) (ks : List Nd) (w : World) (bx : Nat) (hc : n ≤ c) (hc2 : c ≤ maxLen) (h1 : nm.length ≤ maxLen) (h2 : fl.length ≤ maxLen) (hlen : ks.length = n) :
    Calls Tryz.prog 26 #[.agg (ndRow 2 ⟨nm, op, ver, slot, fl, on⟩ f no A n c).toArray, .pointer (some ⟨bx, 0, none⟩)] w fun e w' => e = .returned (.int .i64 (ckNd (.mk 2 ⟨nm, op, ver, slot, fl, on⟩ f no ks))) ∧ Below w.heap.size w w' := by
  unfold ndRow
  unfold maxLen at hc2
  have HB := Lib.hid ((Below.refl _ w).alloc (Nat.le_refl _) (.cells #[.int .i64 2, .string ⟨nm.toArray⟩, .int .i64 op, .int .i64 ver, .int .i64 slot, .string ⟨fl.toArray⟩, .bool on, .string ⟨f.toArray⟩, .bool no, .slice A n c] 26))
  by_cases hn : 0 < n
  · have HC : Hid (ckNd (.mk 2 ⟨nm, op, ver, slot, fl, on⟩ f no ks) = 4) := Lib.hid (by
      simp only [ckNd]; rw [if_neg (by omega), if_pos ⟨rfl, by omega⟩])
    have hn' : ((n : Int) != 0) = true := by simp; omega
    go_enter Tryz.func26, Tryz.ntmps26
    go_wp2
    go_ret
    exact ⟨ret_int HC.out.symm, HB.out⟩
  · obtain rfl : n = 0 := by omega
    clear hn
    by_cases hf : f = [] ∧ no = false
    · obtain ⟨rfl, rfl⟩ := hf
      have HC : Hid (ckNd (.mk 2 ⟨nm, op, ver, slot, fl, on⟩ [] false ks) = ckAtom ⟨nm, op, ver, slot, fl, on⟩) := Lib.hid (by
        simp only [ckNd]; rw [if_neg (by omega), if_neg (by simp [hlen]), if_neg (by simp [leafK]), if_neg (by simp), if_neg (by simp), if_pos (by rfl)])
      have hck := fun wx => rcheck_any ⟨nm.toArray⟩ ⟨fl.toArray⟩ op ver slot on wx (by rw [bsz]; exact h1) (by rw [bsz]; exact h2)
      rw [show atOf ⟨nm.toArray⟩ op ver slot ⟨fl.toArray⟩ on = ⟨nm, op, ver, slot, fl, on⟩ from by simp [atOf]] at hck
      unfold atv at hck
      have Hck := Lib.hid hck; clear hck
      generalize ckAtom _ = q at Hck HC
      clear h1 h2
      go_enter Tryz.func26, Tryz.ntmps26
      go_wp2_with (first | (go_at_call 28; refine (Hck.out _).mono ?_; rintro e w1 ⟨rfl, hb1⟩; refine Hid.out ?_))
      refine Lib.hid ?_
      have HB1 := Lib.hid (HB.out.trans (hb1.mono HB.out.size)); clear hb1
      go_wp2
      go_ret
      exact ⟨ret_int HC.out.symm, HB1.out⟩
    · have HC : Hid (ckNd (.mk 2 ⟨nm, op, ver, slot, fl, on⟩ f no ks) = 4) := Lib.hid (by
        simp only [ckNd]; rw [if_neg (by omega), if_neg (by simp [hlen]), if_neg (by simp [leafK]), if_pos ⟨by omega, by cases no <;> simp_all⟩])
      cases no
      · have hf0 : ¬ f = [] := fun e => hf ⟨e, rfl⟩
        have hf1 : (!List.isEmpty f) = true := by cases f with | nil => exact absurd rfl hf0 | cons => rfl
        clear hf
        go_enter Tryz.func26, Tryz.ntmps26
        go_wp2
        go_ret
        exact ⟨ret_int HC.out.symm, HB.out⟩
      · clear hf
        go_enter Tryz.func26, Tryz.ntmps26
        go_wp2
        go_ret
        exact ⟨ret_int HC.out.symm, HB.out⟩
set_option maxRecDepth 100000 in
set_option maxHeartbeats 3200000 in
theorem rwalk_flag3 (f : Qm.W) (no : Bool) (A : Option Addr) (n c : Nat) (ks : List Nd) (w : World) (bx : Nat) (hf : ¬ (f = [] ∧ no = false)) :
    Calls Tryz.prog 26 #[.agg (ndRow 3 ⟨[], 0, 0, 0, [], false⟩ f no A n c).toArray, .pointer (some ⟨bx, 0, none⟩)] w fun e w' => e = .returned (.int .i64 (ckNd (.mk 3 ⟨[], 0, 0, 0, [], false⟩ f no ks))) ∧ Below w.heap.size w w' := by
  unfold ndRow
  have HC : Hid (ckNd (.mk 3 ⟨[], 0, 0, 0, [], false⟩ f no ks) = 4) := Lib.hid (by
    simp only [ckNd]; rw [if_neg (by omega), if_neg (by simp [leafK]), if_neg (by simp [At.zero]), if_pos ⟨by omega, by cases no <;> simp_all⟩])
  have HB := Lib.hid ((Below.refl _ w).alloc (Nat.le_refl _) (.cells #[.int .i64 3, .string ⟨#[]⟩, .int .i64 0, .int .i64 0, .int .i64 0, .string ⟨#[]⟩, .bool false, .string ⟨f.toArray⟩, .bool no, .slice A n c] 26))
  cases no
  · have hf0 : ¬ f = [] := fun e => hf ⟨e, rfl⟩
    have hf1 : (!List.isEmpty f) = true := by cases f with | nil => exact absurd rfl hf0 | cons => rfl
    clear hf
    go_enter Tryz.func26, Tryz.ntmps26
    go_wp2
    go_ret
    exact ⟨ret_int HC.out.symm, HB.out⟩
  · clear hf
    go_enter Tryz.func26, Tryz.ntmps26
    go_wp2
    go_ret
    exact ⟨ret_int HC.out.symm, HB.out⟩
set_option maxRecDepth 100000 in
set_option maxHeartbeats 3200000 in
theorem rwalk_flag4 (f : Qm.W) (no : Bool) (A : Option Addr) (n c : Nat) (ks : List Nd) (w : World) (bx : Nat) (hf : ¬ (f = [] ∧ no = false)) :
    Calls Tryz.prog 26 #[.agg (ndRow 4 ⟨[], 0, 0, 0, [], false⟩ f no A n c).toArray, .pointer (some ⟨bx, 0, none⟩)] w fun e w' => e = .returned (.int .i64 (ckNd (.mk 4 ⟨[], 0, 0, 0, [], false⟩ f no ks))) ∧ Below w.heap.size w w' := by
  unfold ndRow
  have HC : Hid (ckNd (.mk 4 ⟨[], 0, 0, 0, [], false⟩ f no ks) = 4) := Lib.hid (by
    simp only [ckNd]; rw [if_neg (by omega), if_neg (by simp [leafK]), if_neg (by simp [At.zero]), if_pos ⟨by omega, by cases no <;> simp_all⟩])
  have HB := Lib.hid ((Below.refl _ w).alloc (Nat.le_refl _) (.cells #[.int .i64 4, .string ⟨#[]⟩, .int .i64 0, .int .i64 0, .int .i64 0, .string ⟨#[]⟩, .bool false, .string ⟨f.toArray⟩, .bool no, .slice A n c] 26))
  cases no
  · have hf0 : ¬ f = [] := fun e => hf ⟨e, rfl⟩
    have hf1 : (!List.isEmpty f) = true := by cases f with | nil => exact absurd rfl hf0 | cons => rfl
    clear hf
    go_enter Tryz.func26, Tryz.ntmps26
    go_wp2
    go_ret
    exact ⟨ret_int HC.out.symm, HB.out⟩
  · clear hf
    go_enter Tryz.func26, Tryz.ntmps26
    go_wp2
    go_ret
    exact ⟨ret_int HC.out.symm, HB.out⟩
set_option maxRecDepth 100000 in
set_option maxHeartbeats 3200000 in
theorem rwalk_name (f : Qm.W) (no : Bool) (A : Option Addr) (n c : Nat) (ks : List Nd) (w : World) (bx : Nat) (h3 : f.length ≤ maxLen) (hn : isName f = false) :
    Calls Tryz.prog 26 #[.agg (ndRow 5 ⟨[], 0, 0, 0, [], false⟩ f no A n c).toArray, .pointer (some ⟨bx, 0, none⟩)] w fun e w' => e = .returned (.int .i64 (ckNd (.mk 5 ⟨[], 0, 0, 0, [], false⟩ f no ks))) ∧ Below w.heap.size w w' := by
  unfold ndRow
  have hnm := fun wx => rname_any ⟨f.toArray⟩ wx (by rw [bsz]; exact h3)
  rw [show (⟨f.toArray⟩ : ByteArray).data.toList = f from by simp, hn] at hnm
  have Hnm := Lib.hid hnm; clear hnm
  have HC : Hid (ckNd (.mk 5 ⟨[], 0, 0, 0, [], false⟩ f no ks) = 1) := Lib.hid (by
    simp only [ckNd]; rw [if_neg (by omega), if_neg (by simp [leafK]), if_neg (by simp [At.zero]), if_neg (by simp), if_pos ⟨by trivial, hn⟩])
  have HB := Lib.hid ((Below.refl _ w).alloc (Nat.le_refl _) (.cells #[.int .i64 5, .string ⟨#[]⟩, .int .i64 0, .int .i64 0, .int .i64 0, .string ⟨#[]⟩, .bool false, .string ⟨f.toArray⟩, .bool no, .slice A n c] 26))
  clear h3 hn
  go_enter Tryz.func26, Tryz.ntmps26
  go_wp2_with (first | (go_at_call 27; refine (Hnm.out _).mono ?_; rintro e w1 ⟨rfl, hb1⟩; refine Hid.out ?_))
  refine Lib.hid ?_
  have HB1 := Lib.hid (HB.out.trans (hb1.mono HB.out.size)); clear hb1
  go_wp2
  go_ret
  exact ⟨ret_int HC.out.symm, HB1.out⟩
end Go.Proofs.YtnkmonmkhmcgaaaGreatDoor

/- The loop of the closure of quartermasterref.CheckNeed, walked. -/
namespace Go.Proofs.YtnkmonmkhmcgaaaGreatDoor
open Go.RowKit Qm

/-- The walk of the kids, by what is known of them. -/
def RWalks (ks : List Nd) : Prop := ∀ x ∈ ks, ∀ (S : Nat → Prop) (cx : List Value) (bx : Nat) (w : World), RNd w S cx x → (∀ k, S k → k < w.heap.size) → w.cell? ⟨bx, 0, none⟩ = some (selfC bx) →
    Calls Tryz.prog 26 #[.agg cx.toArray, .pointer (some ⟨bx, 0, none⟩)] w fun e w' => e = .returned (.int .i64 (ckNd x)) ∧ Below w.heap.size w w'
set_option maxRecDepth 100000 in
set_option maxHeartbeats 3200000 in
theorem rwalk_kids3 (ks : List Nd) (S : Nat → Prop) (A : Option Addr) (n c bx : Nat) (w : World) (ih : RWalks ks) (hnc : n ≤ c) (hc : c ≤ maxLen) (hK : RKids w S A n ks) (hS : ∀ k, S k → k < w.heap.size) (hbx : w.cell? ⟨bx, 0, none⟩ = some (selfC bx)) :
    Calls Tryz.prog 26 #[.agg (ndRow 3 ⟨[], 0, 0, 0, [], false⟩ [] false A n c).toArray, .pointer (some ⟨bx, 0, none⟩)] w fun e w' => e = .returned (.int .i64 (ckNd (.mk 3 ⟨[], 0, 0, 0, [], false⟩ [] false ks))) ∧ Below w.heap.size w w' := by
  unfold ndRow
  have HI := Lib.hid ih; clear ih
  have HX0 := Lib.hid hbx
  have hbl : bx < w.heap.size := World.block_lt_of_cell? _ _ hbx
  have henter : ∀ (args : Array Value) (W : World), (callFunc 26 args).run Tryz.prog W = .ok (.enter 26 args) W := fun args W => by kernel_rfl
  clear hbx
  have HS := Lib.hid hS; clear hS
  have HK := Lib.hid hK; clear hK
  unfold maxLen at hc
  have HC : Hid (ckNd (.mk 3 ⟨[], 0, 0, 0, [], false⟩ [] false ks) = ckKids ks) := Lib.hid (by
    simp only [ckNd]; rw [if_neg (by omega), if_neg (by simp [leafK]), if_neg (by simp [At.zero]), if_neg (by simp), if_neg (by simp), if_neg (by simp [leafK])])
  have HB := Lib.hid ((Below.refl _ w).alloc (Nat.le_refl _) (.cells #[.int .i64 3, .string ⟨#[]⟩, .int .i64 0, .int .i64 0, .int .i64 0, .string ⟨#[]⟩, .bool false, .string ⟨#[]⟩, .bool false, .slice A n c] 26))
  go_enter Tryz.func26, Tryz.ntmps26
  go_wp2
  go_loopg [73] n (fun g iv wr => ∃ (j : Nat), Hid (j + g = n) ∧ iv = .int .i64 j ∧ Hid (ckKids ks = ckKids (ks.drop j)) ∧ Below w.heap.size w wr)
  case atStart => exact ⟨0, Lib.hid (Nat.zero_add _), rfl, Lib.hid rfl, HB.out⟩
  case round =>
    obtain ⟨j, Hj, rfl, Hcl, hb⟩ := hrel
    have HBr := Lib.hid hb; clear hb
    have hbx := (HBr.out.cell (p := ⟨bx, 0, none⟩) hbl).trans HX0.out
    unfold selfC at hbx
    have hbr : bx < wr.heap.size := Nat.lt_of_lt_of_le hbl HBr.out.size
    by_cases hj : j < n
    · obtain ⟨b, o, x, y, rfl, hb, hy, hxy, hcell⟩ := (HK.out.under HBr.out HS.out).at_ hj
      have Hdr := Lib.hid (drop_step hy)
      have hmem := List.mem_of_getElem? hy
      obtain ⟨yk, ya, yf, yn, yks⟩ := y
      obtain ⟨A', n', c', rfl, -⟩ := hxy.open_
      have g0 := hcell 0 (by omega); have g1 := hcell 1 (by omega); have g2 := hcell 2 (by omega); have g3 := hcell 3 (by omega); have g4 := hcell 4 (by omega)
      have g5 := hcell 5 (by omega); have g6 := hcell 6 (by omega); have g7 := hcell 7 (by omega); have g8 := hcell 8 (by omega); have g9 := hcell 9 (by omega)
      clear hcell
      unfold ndRow at g0 g1 g2 g3 g4 g5 g6 g7 g8 g9
      simp only [List.getElem?_cons_zero, List.getElem?_cons_succ, Nat.add_zero] at g0 g1 g2 g3 g4 g5 g6 g7 g8 g9
      clear hy
      have hxy2 := (hxy.under (Below.refl _ wr |>.alloc (Nat.le_refl _) (.cells #[.int .i64 yk, .string ⟨ya.nm.toArray⟩, .int .i64 ya.op, .int .i64 ya.ver, .int .i64 ya.slot, .string ⟨ya.fl.toArray⟩, .bool ya.on, .string ⟨yf.toArray⟩, .bool yn, .slice A' n' c'] 26)) fun q hq => Nat.lt_of_lt_of_le (HS.out q hq) HBr.out.size)
      clear hxy
      have hcall := HI.out _ hmem S _ bx _ hxy2 (fun q hq => by have := HS.out q hq; have := HBr.out.size; simp; omega) (((Below.refl _ wr |>.alloc (Nat.le_refl _) _).cell (p := ⟨bx, 0, none⟩) hbr).trans ((HBr.out.cell (p := ⟨bx, 0, none⟩) hbl).trans HX0.out))
      unfold ndRow at hcall
      have HX : Hid (ckKids (ks.drop j) = if ckNd (.mk yk ya yf yn yks) = 0 then ckKids (ks.drop (j + 1)) else ckNd (.mk yk ya yf yn yks)) := Lib.hid (by rw [Hdr.out]; simp only [ckKids])
      generalize hq : ckNd (.mk yk ya yf yn yks) = q at hcall HX
      have HBn := Lib.hid (HBr.out.alloc HBr.out.size (.cells #[.int .i64 yk, .string ⟨ya.nm.toArray⟩, .int .i64 ya.op, .int .i64 ya.ver, .int .i64 ya.slot, .string ⟨ya.fl.toArray⟩, .bool ya.on, .string ⟨yf.toArray⟩, .bool yn, .slice A' n' c'] 26))
      clear hq hxy2
      have Hcall := Lib.hid hcall; clear hcall
      by_cases h0 : q = 0
      · subst h0
        go_wp2_with (first | (go_at_call 26; refine Hcall.out.mono ?_; rintro e w' ⟨rfl, hb'⟩; refine Hid.out ?_))
        refine Lib.hid ?_
        have HB' := Lib.hid (HBn.out.trans (hb'.mono HBn.out.size)); clear hb'
        go_wp2_with fail
        go_roundg (gk - 1)
        case measure => have := Hj.out; omega
        case rel => exact ⟨j + 1, Lib.hid (by have := Hj.out; omega), by go_num, Lib.hid (by rw [Hcl.out, HX.out]; simp), HB'.out⟩
      · have h1 : (q != 0) = true := by simpa using h0
        have H0 := Lib.hid h0; clear h0
        go_wp2_with (first | (go_at_call 26; refine Hcall.out.mono ?_; rintro e w' ⟨rfl, hb'⟩; refine Hid.out ?_))
        refine Lib.hid ?_
        have HB' := Lib.hid (HBn.out.trans (hb'.mono HBn.out.size)); clear hb'
        go_wp2_with fail
        go_ret
        exact ⟨ret_int (by rw [HC.out, Hcl.out, HX.out, if_neg H0.out]), HB'.out⟩
    · go_wp2_with fail
      go_ret
      refine ⟨ret_int ?_, HBr.out⟩
      rw [HC.out, Hcl.out, List.drop_of_length_le (by have := HK.out.len; omega)]; rfl
set_option maxRecDepth 100000 in
set_option maxHeartbeats 3200000 in
theorem rwalk_kids4 (ks : List Nd) (S : Nat → Prop) (A : Option Addr) (n c bx : Nat) (w : World) (ih : RWalks ks) (hnc : n ≤ c) (hc : c ≤ maxLen) (hK : RKids w S A n ks) (hS : ∀ k, S k → k < w.heap.size) (hbx : w.cell? ⟨bx, 0, none⟩ = some (selfC bx)) :
    Calls Tryz.prog 26 #[.agg (ndRow 4 ⟨[], 0, 0, 0, [], false⟩ [] false A n c).toArray, .pointer (some ⟨bx, 0, none⟩)] w fun e w' => e = .returned (.int .i64 (ckNd (.mk 4 ⟨[], 0, 0, 0, [], false⟩ [] false ks))) ∧ Below w.heap.size w w' := by
  unfold ndRow
  have HI := Lib.hid ih; clear ih
  have HX0 := Lib.hid hbx
  have hbl : bx < w.heap.size := World.block_lt_of_cell? _ _ hbx
  have henter : ∀ (args : Array Value) (W : World), (callFunc 26 args).run Tryz.prog W = .ok (.enter 26 args) W := fun args W => by kernel_rfl
  clear hbx
  have HS := Lib.hid hS; clear hS
  have HK := Lib.hid hK; clear hK
  unfold maxLen at hc
  have HC : Hid (ckNd (.mk 4 ⟨[], 0, 0, 0, [], false⟩ [] false ks) = ckKids ks) := Lib.hid (by
    simp only [ckNd]; rw [if_neg (by omega), if_neg (by simp [leafK]), if_neg (by simp [At.zero]), if_neg (by simp), if_neg (by simp), if_neg (by simp [leafK])])
  have HB := Lib.hid ((Below.refl _ w).alloc (Nat.le_refl _) (.cells #[.int .i64 4, .string ⟨#[]⟩, .int .i64 0, .int .i64 0, .int .i64 0, .string ⟨#[]⟩, .bool false, .string ⟨#[]⟩, .bool false, .slice A n c] 26))
  go_enter Tryz.func26, Tryz.ntmps26
  go_wp2
  go_loopg [73] n (fun g iv wr => ∃ (j : Nat), Hid (j + g = n) ∧ iv = .int .i64 j ∧ Hid (ckKids ks = ckKids (ks.drop j)) ∧ Below w.heap.size w wr)
  case atStart => exact ⟨0, Lib.hid (Nat.zero_add _), rfl, Lib.hid rfl, HB.out⟩
  case round =>
    obtain ⟨j, Hj, rfl, Hcl, hb⟩ := hrel
    have HBr := Lib.hid hb; clear hb
    have hbx := (HBr.out.cell (p := ⟨bx, 0, none⟩) hbl).trans HX0.out
    unfold selfC at hbx
    have hbr : bx < wr.heap.size := Nat.lt_of_lt_of_le hbl HBr.out.size
    by_cases hj : j < n
    · obtain ⟨b, o, x, y, rfl, hb, hy, hxy, hcell⟩ := (HK.out.under HBr.out HS.out).at_ hj
      have Hdr := Lib.hid (drop_step hy)
      have hmem := List.mem_of_getElem? hy
      obtain ⟨yk, ya, yf, yn, yks⟩ := y
      obtain ⟨A', n', c', rfl, -⟩ := hxy.open_
      have g0 := hcell 0 (by omega); have g1 := hcell 1 (by omega); have g2 := hcell 2 (by omega); have g3 := hcell 3 (by omega); have g4 := hcell 4 (by omega)
      have g5 := hcell 5 (by omega); have g6 := hcell 6 (by omega); have g7 := hcell 7 (by omega); have g8 := hcell 8 (by omega); have g9 := hcell 9 (by omega)
      clear hcell
      unfold ndRow at g0 g1 g2 g3 g4 g5 g6 g7 g8 g9
      simp only [List.getElem?_cons_zero, List.getElem?_cons_succ, Nat.add_zero] at g0 g1 g2 g3 g4 g5 g6 g7 g8 g9
      clear hy
      have hxy2 := (hxy.under (Below.refl _ wr |>.alloc (Nat.le_refl _) (.cells #[.int .i64 yk, .string ⟨ya.nm.toArray⟩, .int .i64 ya.op, .int .i64 ya.ver, .int .i64 ya.slot, .string ⟨ya.fl.toArray⟩, .bool ya.on, .string ⟨yf.toArray⟩, .bool yn, .slice A' n' c'] 26)) fun q hq => Nat.lt_of_lt_of_le (HS.out q hq) HBr.out.size)
      clear hxy
      have hcall := HI.out _ hmem S _ bx _ hxy2 (fun q hq => by have := HS.out q hq; have := HBr.out.size; simp; omega) (((Below.refl _ wr |>.alloc (Nat.le_refl _) _).cell (p := ⟨bx, 0, none⟩) hbr).trans ((HBr.out.cell (p := ⟨bx, 0, none⟩) hbl).trans HX0.out))
      unfold ndRow at hcall
      have HX : Hid (ckKids (ks.drop j) = if ckNd (.mk yk ya yf yn yks) = 0 then ckKids (ks.drop (j + 1)) else ckNd (.mk yk ya yf yn yks)) := Lib.hid (by rw [Hdr.out]; simp only [ckKids])
      generalize hq : ckNd (.mk yk ya yf yn yks) = q at hcall HX
      have HBn := Lib.hid (HBr.out.alloc HBr.out.size (.cells #[.int .i64 yk, .string ⟨ya.nm.toArray⟩, .int .i64 ya.op, .int .i64 ya.ver, .int .i64 ya.slot, .string ⟨ya.fl.toArray⟩, .bool ya.on, .string ⟨yf.toArray⟩, .bool yn, .slice A' n' c'] 26))
      clear hq hxy2
      have Hcall := Lib.hid hcall; clear hcall
      by_cases h0 : q = 0
      · subst h0
        go_wp2_with (first | (go_at_call 26; refine Hcall.out.mono ?_; rintro e w' ⟨rfl, hb'⟩; refine Hid.out ?_))
        refine Lib.hid ?_
        have HB' := Lib.hid (HBn.out.trans (hb'.mono HBn.out.size)); clear hb'
        go_wp2_with fail
        go_roundg (gk - 1)
        case measure => have := Hj.out; omega
        case rel => exact ⟨j + 1, Lib.hid (by have := Hj.out; omega), by go_num, Lib.hid (by rw [Hcl.out, HX.out]; simp), HB'.out⟩
      · have h1 : (q != 0) = true := by simpa using h0
        have H0 := Lib.hid h0; clear h0
        go_wp2_with (first | (go_at_call 26; refine Hcall.out.mono ?_; rintro e w' ⟨rfl, hb'⟩; refine Hid.out ?_))
        refine Lib.hid ?_
        have HB' := Lib.hid (HBn.out.trans (hb'.mono HBn.out.size)); clear hb'
        go_wp2_with fail
        go_ret
        exact ⟨ret_int (by rw [HC.out, Hcl.out, HX.out, if_neg H0.out]), HB'.out⟩
    · go_wp2_with fail
      go_ret
      refine ⟨ret_int ?_, HBr.out⟩
      rw [HC.out, Hcl.out, List.drop_of_length_le (by have := HK.out.len; omega)]; rfl
set_option maxRecDepth 100000 in
set_option maxHeartbeats 3200000 in
theorem rwalk_kids5 (f : Qm.W) (no : Bool) (h3 : f.length ≤ maxLen) (hn : isName f = true) (ks : List Nd) (S : Nat → Prop) (A : Option Addr) (n c bx : Nat) (w : World) (ih : RWalks ks) (hnc : n ≤ c) (hc : c ≤ maxLen) (hK : RKids w S A n ks) (hS : ∀ k, S k → k < w.heap.size) (hbx : w.cell? ⟨bx, 0, none⟩ = some (selfC bx)) :
    Calls Tryz.prog 26 #[.agg (ndRow 5 ⟨[], 0, 0, 0, [], false⟩ f no A n c).toArray, .pointer (some ⟨bx, 0, none⟩)] w fun e w' => e = .returned (.int .i64 (ckNd (.mk 5 ⟨[], 0, 0, 0, [], false⟩ f no ks))) ∧ Below w.heap.size w w' := by
  unfold ndRow
  have HI := Lib.hid ih; clear ih
  have HX0 := Lib.hid hbx
  have hbl : bx < w.heap.size := World.block_lt_of_cell? _ _ hbx
  have henter : ∀ (args : Array Value) (W : World), (callFunc 26 args).run Tryz.prog W = .ok (.enter 26 args) W := fun args W => by kernel_rfl
  clear hbx
  have HS := Lib.hid hS; clear hS
  have HK := Lib.hid hK; clear hK
  unfold maxLen at hc
  have hnm := fun wx => rname_any ⟨f.toArray⟩ wx (by rw [bsz]; exact h3)
  rw [show (⟨f.toArray⟩ : ByteArray).data.toList = f from by simp, hn] at hnm
  have Hnm := Lib.hid hnm; clear hnm
  have HC : Hid (ckNd (.mk 5 ⟨[], 0, 0, 0, [], false⟩ f no ks) = ckKids ks) := Lib.hid (by
    simp only [ckNd]; rw [if_neg (by omega), if_neg (by simp [leafK]), if_neg (by simp [At.zero]), if_neg (by simp), if_neg (by simp [hn]), if_neg (by simp [leafK])])
  have HB := Lib.hid ((Below.refl _ w).alloc (Nat.le_refl _) (.cells #[.int .i64 5, .string ⟨#[]⟩, .int .i64 0, .int .i64 0, .int .i64 0, .string ⟨#[]⟩, .bool false, .string ⟨f.toArray⟩, .bool no, .slice A n c] 26))
  have HW := Lib.hid (Whole.new w _ 26 [.int .i64 5, .string ⟨#[]⟩, .int .i64 0, .int .i64 0, .int .i64 0, .string ⟨#[]⟩, .bool false, .string ⟨f.toArray⟩, .bool no, .slice A n c] rfl)
  clear h3 hn
  go_enter Tryz.func26, Tryz.ntmps26
  go_wp2_with (first | (go_at_call 27; refine (Hnm.out _).mono ?_; rintro e w1 ⟨rfl, hb1⟩; refine Hid.out ?_))
  refine Lib.hid ?_
  replace HB := Lib.hid (HB.out.trans (hb1.mono HB.out.size))
  have q9 := (HW.out.below hb1 HW.out.lt).cell 9
  simp only [List.getElem?_cons_zero, List.getElem?_cons_succ] at q9
  clear hb1 HW Hnm
  go_wp2
  go_loopg [73] n (fun g iv wr => ∃ (j : Nat), Hid (j + g = n) ∧ iv = .int .i64 j ∧ Hid (ckKids ks = ckKids (ks.drop j)) ∧ Below w.heap.size w wr)
  case atStart => exact ⟨0, Lib.hid (Nat.zero_add _), rfl, Lib.hid rfl, HB.out⟩
  case round =>
    obtain ⟨j, Hj, rfl, Hcl, hb⟩ := hrel
    have HBr := Lib.hid hb; clear hb
    have hbx := (HBr.out.cell (p := ⟨bx, 0, none⟩) hbl).trans HX0.out
    unfold selfC at hbx
    have hbr : bx < wr.heap.size := Nat.lt_of_lt_of_le hbl HBr.out.size
    by_cases hj : j < n
    · obtain ⟨b, o, x, y, rfl, hb, hy, hxy, hcell⟩ := (HK.out.under HBr.out HS.out).at_ hj
      have Hdr := Lib.hid (drop_step hy)
      have hmem := List.mem_of_getElem? hy
      obtain ⟨yk, ya, yf, yn, yks⟩ := y
      obtain ⟨A', n', c', rfl, -⟩ := hxy.open_
      have g0 := hcell 0 (by omega); have g1 := hcell 1 (by omega); have g2 := hcell 2 (by omega); have g3 := hcell 3 (by omega); have g4 := hcell 4 (by omega)
      have g5 := hcell 5 (by omega); have g6 := hcell 6 (by omega); have g7 := hcell 7 (by omega); have g8 := hcell 8 (by omega); have g9 := hcell 9 (by omega)
      clear hcell
      unfold ndRow at g0 g1 g2 g3 g4 g5 g6 g7 g8 g9
      simp only [List.getElem?_cons_zero, List.getElem?_cons_succ, Nat.add_zero] at g0 g1 g2 g3 g4 g5 g6 g7 g8 g9
      clear hy
      have hxy2 := (hxy.under (Below.refl _ wr |>.alloc (Nat.le_refl _) (.cells #[.int .i64 yk, .string ⟨ya.nm.toArray⟩, .int .i64 ya.op, .int .i64 ya.ver, .int .i64 ya.slot, .string ⟨ya.fl.toArray⟩, .bool ya.on, .string ⟨yf.toArray⟩, .bool yn, .slice A' n' c'] 26)) fun q hq => Nat.lt_of_lt_of_le (HS.out q hq) HBr.out.size)
      clear hxy
      have hcall := HI.out _ hmem S _ bx _ hxy2 (fun q hq => by have := HS.out q hq; have := HBr.out.size; simp; omega) (((Below.refl _ wr |>.alloc (Nat.le_refl _) _).cell (p := ⟨bx, 0, none⟩) hbr).trans ((HBr.out.cell (p := ⟨bx, 0, none⟩) hbl).trans HX0.out))
      unfold ndRow at hcall
      have HX : Hid (ckKids (ks.drop j) = if ckNd (.mk yk ya yf yn yks) = 0 then ckKids (ks.drop (j + 1)) else ckNd (.mk yk ya yf yn yks)) := Lib.hid (by rw [Hdr.out]; simp only [ckKids])
      generalize hq : ckNd (.mk yk ya yf yn yks) = q at hcall HX
      have HBn := Lib.hid (HBr.out.alloc HBr.out.size (.cells #[.int .i64 yk, .string ⟨ya.nm.toArray⟩, .int .i64 ya.op, .int .i64 ya.ver, .int .i64 ya.slot, .string ⟨ya.fl.toArray⟩, .bool ya.on, .string ⟨yf.toArray⟩, .bool yn, .slice A' n' c'] 26))
      clear hq hxy2
      have Hcall := Lib.hid hcall; clear hcall
      by_cases h0 : q = 0
      · subst h0
        go_wp2_with (first | (go_at_call 26; refine Hcall.out.mono ?_; rintro e w' ⟨rfl, hb'⟩; refine Hid.out ?_))
        refine Lib.hid ?_
        have HB' := Lib.hid (HBn.out.trans (hb'.mono HBn.out.size)); clear hb'
        go_wp2_with fail
        go_roundg (gk - 1)
        case measure => have := Hj.out; omega
        case rel => exact ⟨j + 1, Lib.hid (by have := Hj.out; omega), by go_num, Lib.hid (by rw [Hcl.out, HX.out]; simp), HB'.out⟩
      · have h1 : (q != 0) = true := by simpa using h0
        have H0 := Lib.hid h0; clear h0
        go_wp2_with (first | (go_at_call 26; refine Hcall.out.mono ?_; rintro e w' ⟨rfl, hb'⟩; refine Hid.out ?_))
        refine Lib.hid ?_
        have HB' := Lib.hid (HBn.out.trans (hb'.mono HBn.out.size)); clear hb'
        go_wp2_with fail
        go_ret
        exact ⟨ret_int (by rw [HC.out, Hcl.out, HX.out, if_neg H0.out]), HB'.out⟩
    · go_wp2_with fail
      go_ret
      refine ⟨ret_int ?_, HBr.out⟩
      rw [HC.out, Hcl.out, List.drop_of_length_le (by have := HK.out.len; omega)]; rfl
theorem rwalk_any : ∀ (y : Nd) (S : Nat → Prop) (x : List Value) (bx : Nat) (w : World), RNd w S x y → (∀ k, S k → k < w.heap.size) → w.cell? ⟨bx, 0, none⟩ = some (selfC bx) →
    Calls Tryz.prog 26 #[.agg x.toArray, .pointer (some ⟨bx, 0, none⟩)] w fun e w' => e = .returned (.int .i64 (ckNd y)) ∧ Below w.heap.size w w' := by
  refine Nd.ind fun k a f no ks ih => ?_
  intro S x bx w hR hS hbx
  obtain ⟨A, n, c, rfl, hnc, hc, h1, h2, h3, hK⟩ := hR.open_
  obtain ⟨nm, op, ver, slot, fl, on⟩ := a
  by_cases hk : k < 1 ∨ 5 < k
  · exact rwalk_out nm fl f op ver slot k on no A n c ks w bx hk
  by_cases h12 : k = 1 ∨ k = 2
  · rcases h12 with rfl | rfl
    · exact rwalk_leaf1 nm fl f op ver slot on no A n c ks w bx hnc hc h1 h2 hK.len
    · exact rwalk_leaf2 nm fl f op ver slot on no A n c ks w bx hnc hc h1 h2 hK.len
  by_cases ha : nm = [] ∧ op = 0 ∧ ver = 0 ∧ slot = 0 ∧ fl = [] ∧ on = false
  · obtain ⟨rfl, rfl, rfl, rfl, rfl, rfl⟩ := ha
    rcases (show k = 3 ∨ k = 4 ∨ k = 5 by omega) with rfl | rfl | rfl
    · by_cases hf : f = [] ∧ no = false
      · obtain ⟨rfl, rfl⟩ := hf
        exact rwalk_kids3 ks S A n c bx w ih hnc hc hK hS hbx
      · exact rwalk_flag3 f no A n c ks w bx hf
    · by_cases hf : f = [] ∧ no = false
      · obtain ⟨rfl, rfl⟩ := hf
        exact rwalk_kids4 ks S A n c bx w ih hnc hc hK hS hbx
      · exact rwalk_flag4 f no A n c ks w bx hf
    · cases hn : isName f
      · exact rwalk_name f no A n c ks w bx h3 hn
      · exact rwalk_kids5 f no h3 hn ks S A n c bx w ih hnc hc hK hS hbx
  · exact rwalk_bad nm fl f op ver slot k on no A n c ks w bx (by omega) (by omega) ha
end Go.Proofs.YtnkmonmkhmcgaaaGreatDoor

/- quartermasterref.CheckNeed, walked. -/
namespace Go.Proofs.YtnkmonmkhmcgaaaGreatDoor
open Go.RowKit Qm

set_option maxRecDepth 100000 in
set_option maxHeartbeats 1600000 in
theorem rcheckNeed_any (y : Nd) (S : Nat → Prop) (x : List Value) (w : World) (hR : RNd w S x y) (hS : ∀ k, S k → k < w.heap.size) :
    Calls Tryz.prog 10 #[.agg x.toArray] w fun e w' => e = .returned (.int .i64 (ckNeed y)) ∧ Below w.heap.size w w' := by
  have hm := szd_many y
  have hle := szd_le y 4 (by omega)
  have HC : Hid (ckNeed y = if 20 < (szd y 4).1 ∨ 4 < (szd y 4).2 then 2 else ckNd y) := Lib.hid (by unfold ckNeed; simp only [hm])
  have hz := fun wx hw h => sized_any y S x 4 wx hw h (by omega)
  clear hm
  have hb0 : Below w.heap.size w (w.alloc (.cells x.toArray 26)) := (Below.refl _ w).alloc (Nat.le_refl _) _
  have HB := Lib.hid hb0
  have HW := Lib.hid (Whole.new w _ 26 x rfl)
  have Hwk := Lib.hid (fun bx wx hw h hc => rwalk_any y S x bx wx hw h hc)
  have HR := Lib.hid hR; have HS := Lib.hid hS
  generalize szd y 4 = q at HC hz hle
  generalize ckNeed y = R at HC ⊢
  generalize ckNd y = v at HC Hwk
  obtain ⟨m, d⟩ := q
  simp only at HC hz hle
  obtain ⟨m1, m2, d1, d2⟩ := hle
  obtain ⟨k, a, f, no, ks⟩ := y
  obtain ⟨A, n, c, rfl, -⟩ := hR.open_
  clear hR hS hb0
  unfold ndRow at HB HW HR hz Hwk ⊢
  have hz4 : ((4 : Nat) : Int) = 4 := rfl
  simp only [hz4] at hz
  have Hz := Lib.hid (hz _ (HR.out.under HB.out HS.out) fun k hk => Nat.lt_of_lt_of_le (HS.out k hk) HB.out.size)
  clear hz
  have henter : ∀ (args : Array Value) (W : World), (callFunc 26 args).run Tryz.prog W = .ok (.enter 26 args) W := fun args W => by kernel_rfl
  by_cases hmm : 20 < m
  · have HC2 := Lib.hid (HC.out.trans (if_pos (.inl hmm)))
    go_enter Tryz.func10, Tryz.ntmps10
    go_wp2_with (first | (go_at_call 25; refine Hz.out.mono ?_; rintro e w1 ⟨rfl, hb1⟩; refine Hid.out ?_))
    refine Lib.hid ?_
    have HB1 := Lib.hid (HB.out.trans (hb1.mono HB.out.size))
    clear hb1
    go_wp2
    go_ret
    exact ⟨ret_int HC2.out.symm, HB1.out⟩
  have hmm' : decide (20 < m) = false := by simpa using hmm
  by_cases hdd : 4 < d
  · have HC2 := Lib.hid (HC.out.trans (if_pos (.inr hdd)))
    go_enter Tryz.func10, Tryz.ntmps10
    go_wp2_with (first | (go_at_call 25; refine Hz.out.mono ?_; rintro e w1 ⟨rfl, hb1⟩; refine Hid.out ?_))
    refine Lib.hid ?_
    have HB1 := Lib.hid (HB.out.trans (hb1.mono HB.out.size))
    clear hb1
    go_wp2
    go_ret
    exact ⟨ret_int HC2.out.symm, HB1.out⟩
  have hdd' : decide (4 < d) = false := by simpa using hdd
  have HC2 := Lib.hid (HC.out.trans (if_neg (by omega)))
  go_enter Tryz.func10, Tryz.ntmps10
  go_wp2_with (first | (go_at_call 25; refine Hz.out.mono ?_; rintro e w1 ⟨rfl, hb1⟩; refine Hid.out ?_))
  refine Lib.hid ?_
  have HB1 := Lib.hid (HB.out.trans (hb1.mono HB.out.size))
  have HW1 := Lib.hid (HW.out.below hb1 HW.out.lt); clear hb1
  have g0 := HW1.out.cell 0; have g1 := HW1.out.cell 1; have g2 := HW1.out.cell 2; have g3 := HW1.out.cell 3; have g4 := HW1.out.cell 4
  have g5 := HW1.out.cell 5; have g6 := HW1.out.cell 6; have g7 := HW1.out.cell 7; have g8 := HW1.out.cell 8; have g9 := HW1.out.cell 9
  simp only [List.getElem?_cons_zero, List.getElem?_cons_succ] at g0 g1 g2 g3 g4 g5 g6 g7 g8 g9
  have hlt := HW1.out.lt
  have hbl : Below w1.heap.size w1 (w1.alloc (.cells #[selfC w1.heap.size] 38)) := (Below.refl _ _).alloc (Nat.le_refl _) _
  have HB2 := Lib.hid (HB1.out.trans (hbl.mono HB1.out.size))
  have Hwk2 := Lib.hid (Hwk.out w1.heap.size _ (HR.out.under HB2.out HS.out) (fun k hk => Nat.lt_of_lt_of_le (HS.out k hk) HB2.out.size) ((Whole.new w1 _ 38 [selfC w1.heap.size] rfl).cell 0))
  clear hbl Hwk
  unfold selfC at Hwk2 HB2
  go_wp2_with (first | (go_at_call 26; refine Hwk2.out.mono ?_; rintro e w3 ⟨rfl, hb3⟩; refine Hid.out ?_))
  refine Lib.hid ?_
  have HB3 := Lib.hid (HB2.out.trans (hb3.mono HB2.out.size))
  clear hb3
  go_wp2
  go_ret
  exact ⟨ret_int HC2.out.symm, HB3.out⟩
end Go.Proofs.YtnkmonmkhmcgaaaGreatDoor

/- atom.Fits, walked. -/
namespace Go.Proofs.YtnkmonmkhmcgaaaGreatDoor
open Go.RowKit Qm
def fitsP (a : At) (v sl : Int) : Bool :=
  if a.slot ≠ 0 ∧ a.slot ≠ sl then false
  else if a.op = 1 then decide (v = a.ver) else if a.op = 2 then decide (a.ver ≤ v) else if a.op = 3 then decide (v < a.ver) else true

end Go.Proofs.YtnkmonmkhmcgaaaGreatDoor

/- The other telling of what fits, walked. -/
namespace Go.Proofs.YtnkmonmkhmcgaaaGreatDoor
open Go.RowKit Qm

end Go.Proofs.YtnkmonmkhmcgaaaGreatDoor

/- The other telling of an atom's text, walked. -/
namespace Go.Proofs.YtnkmonmkhmcgaaaGreatDoor
open Go.RowKit Qm Go.ChangeMaps

/-- What holds its world's block b back: a map of the two signs. -/
theorem sign_map (w : World) : ∃ w2 w3, (Instr.mapUpdate 86 (.map (some w.heap.size)) (.bool true) (.string ⟨#[43]⟩)).run Tryz.prog (w.alloc (.map #[] 0)) = .ok () w2 ∧
    (Instr.mapUpdate 86 (.map (some w.heap.size)) (.bool false) (.string ⟨#[45]⟩)).run Tryz.prog w2 = .ok () w3 ∧
    (∀ on : Bool, (Instr.lookup 86 (.map (some w.heap.size)) (.bool on) false).run Tryz.prog w3 = .ok (.string (if on then ⟨#[43]⟩ else ⟨#[45]⟩)) w3) ∧ Below w.heap.size w w3 := by
  have hk : Tryz.prog.underlying 4 = some .bool := Tryz.underlying4
  have ht : Tryz.prog.underlying 86 = some (.map 4 9) := Tryz.underlying86
  have K := Maps.bool_keyed (P := Tryz.prog) hk
  have hck : ∀ (wx : World) (em x : Bool), (Instr.checkKey em 10000 4 (.bool x)).run Tryz.prog wx = .ok () wx := fun wx em x => K.check wx em (Maps.keyOf_bool_mk hk x)
  have hb1 : (w.alloc (.map #[] 0)).heap[w.heap.size]? = some (.map #[] 0) := by simp [World.alloc, -World.alloc_eq]
  have r1 : (Instr.mapUpdate 86 (.map (some w.heap.size)) (.bool true) (.string ⟨#[43]⟩)).run Tryz.prog (w.alloc (.map #[] 0)) = .ok () (setBlock (w.alloc (.map #[] 0)) w.heap.size (.map #[⟨.bool true, .string ⟨#[43]⟩, 0⟩] 1)) := by
    simp [Instr.mapUpdate, run_underlying ht, run_underlying hk, MapKept.run_getObj_map hb1, hck, Instr.findKey, Instr.findNow, MapKept.run_setObj_map _ hb1, Result.andThen, setBlock, go_sem]
  have hb2 : (setBlock (w.alloc (.map #[] 0)) w.heap.size (.map #[⟨.bool true, .string ⟨#[43]⟩, 0⟩] 1)).heap[w.heap.size]? = some (.map #[⟨.bool true, .string ⟨#[43]⟩, 0⟩] 1) := heap_setBlock_same hb1 _
  generalize hw2 : setBlock (w.alloc (.map #[] 0)) w.heap.size (.map #[⟨.bool true, .string ⟨#[43]⟩, 0⟩] 1) = w2 at hb2 r1
  have r2 : (Instr.mapUpdate 86 (.map (some w.heap.size)) (.bool false) (.string ⟨#[45]⟩)).run Tryz.prog w2 =
      .ok () (setBlock w2 w.heap.size (.map #[⟨.bool true, .string ⟨#[43]⟩, 0⟩, ⟨.bool false, .string ⟨#[45]⟩, 1⟩] 2)) := by
    simp [Instr.mapUpdate, run_underlying ht, run_underlying hk, MapKept.run_getObj_map hb2, hck, Instr.findKey, Instr.findNow, Instr.sameNow, MapKept.run_setObj_map _ hb2, Result.andThen, setBlock, go_sem]
  have hb3 : (setBlock w2 w.heap.size (.map #[⟨.bool true, .string ⟨#[43]⟩, 0⟩, ⟨.bool false, .string ⟨#[45]⟩, 1⟩] 2)).heap[w.heap.size]? = some (.map #[⟨.bool true, .string ⟨#[43]⟩, 0⟩, ⟨.bool false, .string ⟨#[45]⟩, 1⟩] 2) := heap_setBlock_same hb2 _
  refine ⟨w2, _, r1, r2, ?_, ?_⟩
  · intro on
    cases on <;> simp [Instr.lookup, run_underlying ht, run_underlying hk, MapKept.run_getObj_map hb3, hck, Instr.findKey, Instr.findNow, Instr.sameNow, Result.andThen, go_sem]
  · subst hw2
    refine ⟨rfl, rfl, rfl, by simp [setBlock], fun i hi => ?_⟩
    exact (heap_setBlock_other hb2 _ (by omega)).trans ((heap_setBlock_other hb1 _ (by omega)).trans (((Below.refl w.heap.size w).alloc (Nat.le_refl _) _).block i hi))

theorem ops_in (wx : World) (b : Nat) (h : wx.heap[b]? = some (.cells #[.string ⟨#[]⟩, .string ⟨#[61]⟩, .string ⟨#[62, 61]⟩, .string ⟨#[60]⟩] 9)) :
    wx.cell? ⟨b, 0, none⟩ = some (.string ⟨#[]⟩) ∧ wx.cell? ⟨b, 1, none⟩ = some (.string ⟨#[61]⟩) ∧ wx.cell? ⟨b, 2, none⟩ = some (.string ⟨#[62, 61]⟩) ∧ wx.cell? ⟨b, 3, none⟩ = some (.string ⟨#[60]⟩) := by
  simp [World.cell?, h]

set_option maxRecDepth 100000 in
set_option maxHeartbeats 3200000 in
theorem rtext_any (s f : ByteArray) (op ver slot : Int) (on : Bool) (w : World) (hk : ckAtom (atOf s op ver slot f on) = 0) :
    Calls Tryz.prog 31 #[atv s op ver slot f on] w fun e w' =>
      e = .returned (.string ⟨(textOf (atOf s op ver slot f on)).toArray⟩) ∧ Below w.heap.size w w' := by
  have B1 := Lib.hid (Boxed.new w s op ver slot f on (t := 23))
  unfold atv
  have HO := Lib.hid (atOk hk)
  have hsz : s.size ≤ 8 := by
    have h1 := isName_len HO.out.nm
    have h2 : s.size = s.data.toList.length := Lib.size_eq s
    have h3 : (atOf s op ver slot f on).nm = s.data.toList := rfl
    rw [h3] at h1
    omega
  have Hsz := Lib.hid hsz; clear hsz
  have HK := Lib.hid hk; clear hk
  have ho : op = 0 ∨ op = 1 ∨ op = 2 ∨ op = 3 := by have := HO.out.op; simp only [atOf] at this; omega
  go_enter Tryz.func31, Tryz.ntmps31
  go_upto_region 1 with fail
  go_cut [3] (fun s3 wx => s3 = .string ⟨(s.data.toList ++ opText op).toArray⟩ ∧ Boxed w s op ver slot f on wx)
  case first =>
    rcases ho with ho | ho | ho | ho
    · subst ho
      have hadd : ∀ wx, (Op.stringOp .add s ⟨#[]⟩).run Tryz.prog wx = .ok (.string ⟨(s.data.toList ++ opText 0).toArray⟩) wx := fun wx => by
        rw [run_string_add_sum wx _ _ (by have h3 := Hsz.out; have h4 : ByteArray.size ⟨#[]⟩ ≤ 2 := (by decide); omega)]
        have := bs_add s.data.toList (opText 0)
        rw [bs_self] at this
        exact congrArg (fun z => Result.ok (Value.string z) wx) this
      go_region
      go_wp2
      go_meet
      case rel => exact ⟨rfl, B1.out.below ((Below.refl _ _).alloc (Nat.le_refl _) _).drew⟩
    · subst ho
      have hadd : ∀ wx, (Op.stringOp .add s ⟨#[61]⟩).run Tryz.prog wx = .ok (.string ⟨(s.data.toList ++ opText 1).toArray⟩) wx := fun wx => by
        rw [run_string_add_sum wx _ _ (by have h3 := Hsz.out; have h4 : ByteArray.size ⟨#[61]⟩ ≤ 2 := (by decide); omega)]
        have := bs_add s.data.toList (opText 1)
        rw [bs_self] at this
        exact congrArg (fun z => Result.ok (Value.string z) wx) this
      go_region
      go_wp2
      go_meet
      case rel => exact ⟨rfl, B1.out.below ((Below.refl _ _).alloc (Nat.le_refl _) _).drew⟩
    · subst ho
      have hadd : ∀ wx, (Op.stringOp .add s ⟨#[62, 61]⟩).run Tryz.prog wx = .ok (.string ⟨(s.data.toList ++ opText 2).toArray⟩) wx := fun wx => by
        rw [run_string_add_sum wx _ _ (by have h3 := Hsz.out; have h4 : ByteArray.size ⟨#[62, 61]⟩ ≤ 2 := (by decide); omega)]
        have := bs_add s.data.toList (opText 2)
        rw [bs_self] at this
        exact congrArg (fun z => Result.ok (Value.string z) wx) this
      go_region
      go_wp2
      go_meet
      case rel => exact ⟨rfl, B1.out.below ((Below.refl _ _).alloc (Nat.le_refl _) _).drew⟩
    · subst ho
      have hadd : ∀ wx, (Op.stringOp .add s ⟨#[60]⟩).run Tryz.prog wx = .ok (.string ⟨(s.data.toList ++ opText 3).toArray⟩) wx := fun wx => by
        rw [run_string_add_sum wx _ _ (by have h3 := Hsz.out; have h4 : ByteArray.size ⟨#[60]⟩ ≤ 2 := (by decide); omega)]
        have := bs_add s.data.toList (opText 3)
        rw [bs_self] at this
        exact congrArg (fun z => Result.ok (Value.string z) wx) this
      go_region
      go_wp2
      go_meet
      case rel => exact ⟨rfl, B1.out.below ((Below.refl _ _).alloc (Nat.le_refl _) _).drew⟩
  case rest =>
    obtain ⟨rfl, B2⟩ := hcut
    replace B2 := Lib.hid B2
    clear B1
    have d0 := B2.out.c0; have d1 := B2.out.c1; have d2 := B2.out.c2; have d3 := B2.out.c3; have d4 := B2.out.c4; have d5 := B2.out.c5
    have hlen := textOf_len HO.out
    have hx : textOf (atOf s op ver slot f on) = (s.data.toList ++ (if op ≠ 0 then opText op ++ Lib.itoa ver else [])) ++ (if 0 < slot then 58 :: Lib.itoa slot else []) ++ (if f.data.toList ≠ [] then (if on then 43 else 45) :: f.data.toList else []) := rfl
    rw [hx] at hlen
    have HX := Lib.hid hx; clear hx
    have HL := Lib.hid hlen; clear hlen
    go_upto_if 14 with fail
    go_cut [3] (fun s3 wx => s3 = .string ⟨(s.data.toList ++ (if op ≠ 0 then opText op ++ Lib.itoa ver else [])).toArray⟩ ∧ Boxed w s op ver slot f on wx)
    case first =>
      by_cases z : op = 0
      · subst z
        go_wp2
        go_meet
        case rel => exact ⟨by simp [opText], B2.out⟩
      · have z1 : 0 < op := by have := HO.out.op; simp only [atOf] at this; omega
        obtain ⟨i, hi⟩ : ∃ i : Nat, ver = (i : Int) := ⟨ver.toNat, by have := HO.out.some z; simp only [atOf] at this; omega⟩
        subst hi
        have hi : i < 100 := by have := HO.out.some z; simp only [atOf] at this; omega
        have hit : Lib.itoa (i : Int) = Lib.decDigits i := by unfold Lib.itoa; rw [if_neg (by omega)]; rfl
        have hD : (Lib.decDigits i).length ≤ 2 := by rw [← hit]; exact (itoa_len (by omega) (by omega)).2
        have hitoa := fun wx => Tryz.strconv_Itoa_small i hi wx
        have Hit := Lib.hid hit
        clear hit
        generalize Lib.decDigits i = D at hD hitoa Hit
        have HD := Lib.hid hD; clear hD
        have Hitoa := Lib.hid hitoa; clear hitoa
        have hT : (s.data.toList ++ opText op).length ≤ 10 := by
          have h1 := Hsz.out; have h2 : s.size = s.data.toList.length := Lib.size_eq s
          have h3 : (opText op).length ≤ 2 := by unfold opText; split <;> (try split) <;> (try split) <;> simp
          rw [List.length_append]; omega
        have HT := Lib.hid hT; clear hT
        have hadd : ∀ wx, (Op.stringOp .add ⟨(s.data.toList ++ opText op).toArray⟩ ⟨D.toArray⟩).run Tryz.prog wx = .ok (.string ⟨(s.data.toList ++ opText op ++ D).toArray⟩) wx := fun wx => by
          rw [run_string_add_sum wx _ _ (by have h1 := bs_size D; have h2 := HD.out; have h3 := HT.out; have h4 := bs_size (s.data.toList ++ opText op); omega)]
          rw [bs_add]
        have Z := Lib.hid z; clear z
        go_wp2_with (first | (go_at_call 54; refine (Hitoa.out _).mono ?_; rintro e w6 ⟨rfl, rfl⟩))
        go_meet
        case rel => exact ⟨by rw [if_pos Z.out, Hit.out]; try simp, B2.out⟩
    case rest =>
      obtain ⟨rfl, B3⟩ := hcut
      replace B3 := Lib.hid B3
      clear B2 d0 d1 d2 d3 d4 d5
      have d0 := B3.out.c0; have d1 := B3.out.c1; have d2 := B3.out.c2; have d3 := B3.out.c3; have d4 := B3.out.c4; have d5 := B3.out.c5
      have hall : (s.data.toList ++ (if op ≠ 0 then opText op ++ Lib.itoa ver else [])).length ≤ 100 := by
        have h1 := HL.out; simp only [List.length_append] at h1 ⊢; omega
      generalize s.data.toList ++ (if op ≠ 0 then opText op ++ Lib.itoa ver else []) = T at HL HX hall ⊢
      have HT := Lib.hid hall; clear hall
      go_upto_if 22 with fail
      go_cut [3] (fun s3 wx => s3 = .string ⟨(T ++ (if 0 < slot then 58 :: Lib.itoa slot else [])).toArray⟩ ∧ Boxed w s op ver slot f on wx)
      case first =>
        by_cases z : 0 < slot
        · have z1 : (slot != 0) = true := by simp; omega
          obtain ⟨i, hi⟩ : ∃ i : Nat, slot = (i : Int) := ⟨slot.toNat, by omega⟩
          subst hi
          have hi : i < 100 := by have := HO.out.slot; simp only [atOf] at this; omega
          have hit : Lib.itoa (i : Int) = Lib.decDigits i := by unfold Lib.itoa; rw [if_neg (by omega)]; rfl
          have hD : (Lib.decDigits i).length ≤ 2 := by rw [← hit]; exact (itoa_len (by omega) (by omega)).2
          have hitoa := fun wx => Tryz.strconv_Itoa_small i hi wx
          have Hit := Lib.hid hit
          clear hit
          generalize Lib.decDigits i = D at hD hitoa Hit
          have HD := Lib.hid hD; clear hD
          have Hitoa := Lib.hid hitoa; clear hitoa
          have hadd1 : ∀ wx, (Op.stringOp .add ⟨#[58]⟩ ⟨D.toArray⟩).run Tryz.prog wx = .ok (.string ⟨(58 :: D).toArray⟩) wx := fun wx => by
            rw [run_string_add_sum wx _ _ (by have h1 := bs_size D; have h2 := HD.out; have h3 : ByteArray.size ⟨#[58]⟩ ≤ 2 := (by decide); omega)]
            exact congrArg (fun z => Result.ok (Value.string z) wx) (bs_add _ D)
          have hadd2 : ∀ wx, (Op.stringOp .add ⟨T.toArray⟩ ⟨(58 :: D).toArray⟩).run Tryz.prog wx = .ok (.string ⟨(T ++ 58 :: D).toArray⟩) wx := fun wx => by
            rw [run_string_add_sum wx _ _ (by have h1 := bs_size (58 :: D); have h2 := HD.out; have h3 := HT.out; have h5 := bs_size T; have h4 : (58 :: D).length ≤ 4 := (by simp; omega); omega)]
            rw [bs_add]
          have Z := Lib.hid z; clear z
          go_wp2_with (first | (go_at_call 54; refine (Hitoa.out _).mono ?_; rintro e w6 ⟨rfl, rfl⟩))
          go_meet
          case rel => exact ⟨by rw [if_pos Z.out, Hit.out], B3.out⟩
        · have z1 : (slot != 0) = false := by simp; have := HO.out.slot; simp only [atOf] at this; omega
          have Z := Lib.hid z; clear z
          go_wp2
          go_meet
          case rel => exact ⟨by rw [if_neg (by have := Z.out; omega), List.append_nil], B3.out⟩
      case rest =>
        obtain ⟨rfl, B4⟩ := hcut
        replace B4 := Lib.hid B4
        clear B3 d0 d1 d2 d3 d4 d5
        have d0 := B4.out.c0; have d1 := B4.out.c1; have d2 := B4.out.c2; have d3 := B4.out.c3; have d4 := B4.out.c4; have d5 := B4.out.c5
        have HT2 : Hid ((T ++ (if 0 < slot then 58 :: Lib.itoa slot else [])).length ≤ 100) := Lib.hid (by have h1 := HL.out; simp only [List.length_append] at h1 ⊢; omega)
        clear HL HT
        generalize T ++ (if 0 < slot then 58 :: Lib.itoa slot else []) = T2 at HT2 HX ⊢
        by_cases h0 : f.data.toList = []
        · obtain ⟨e1, e2⟩ := empty_spell h0
          have H0 := Lib.hid h0; clear h0
          go_wp2
          go_ret
          refine ⟨?_, B4.out.b⟩
          rw [HX.out, if_neg (fun h => h H0.out), List.append_nil]; rfl
        · obtain ⟨e1, e2⟩ := full_spell h0
          have H0 := Lib.hid h0
          have hf8 : Hid (f.size ≤ 8) := Lib.hid (by have h1 := isName_len (HO.out.fl h0); have h2 : f.size = f.data.toList.length := Lib.size_eq f; have h3 : (atOf s op ver slot f on).fl = f.data.toList := rfl; rw [h3] at h1; omega)
          clear h0
          go_upto_region 7 with fail
          obtain ⟨w2, w3, m1, m2, m3, m4⟩ := sign_map wc
          have B5 := Lib.hid (B4.out.below m4); clear m4
          have x4 := B5.out.c4; have x5 := B5.out.c5
          cases on
          · have hadd1 : ∀ wx, (Op.stringOp .add ⟨#[45]⟩ f).run Tryz.prog wx = .ok (.string ⟨(45 :: f.data.toList).toArray⟩) wx := fun wx => by
              rw [run_string_add_sum wx _ _ (by have h2 := hf8.out; have h3 : ByteArray.size ⟨#[45]⟩ ≤ 2 := (by decide); omega)]
              have := bs_add [45] f.data.toList
              rw [bs_self] at this
              exact congrArg (fun z => Result.ok (Value.string z) wx) this
            have hadd2 : ∀ wx, (Op.stringOp .add ⟨T2.toArray⟩ ⟨(45 :: f.data.toList).toArray⟩).run Tryz.prog wx = .ok (.string ⟨(T2 ++ 45 :: f.data.toList).toArray⟩) wx := fun wx => by
              rw [run_string_add_sum wx _ _ (by have h1 := bs_size (45 :: f.data.toList); have h2 := hf8.out; have h3 := HT2.out; have h5 := bs_size T2; have h6 : f.size = f.data.toList.length := Lib.size_eq f; have h4 : (45 :: f.data.toList).length ≤ 10 := (by rw [List.length_cons, ← h6]; omega); omega)]
              rw [bs_add]
            have hm3 := m3 false; clear m3
            have hmm := @run_makeMap Tryz.prog
            go_wp2
            go_ret
            refine ⟨?_, B5.out.b⟩
            rw [HX.out, if_pos H0.out]; rfl
          · have hadd1 : ∀ wx, (Op.stringOp .add ⟨#[43]⟩ f).run Tryz.prog wx = .ok (.string ⟨(43 :: f.data.toList).toArray⟩) wx := fun wx => by
              rw [run_string_add_sum wx _ _ (by have h2 := hf8.out; have h3 : ByteArray.size ⟨#[43]⟩ ≤ 2 := (by decide); omega)]
              have := bs_add [43] f.data.toList
              rw [bs_self] at this
              exact congrArg (fun z => Result.ok (Value.string z) wx) this
            have hadd2 : ∀ wx, (Op.stringOp .add ⟨T2.toArray⟩ ⟨(43 :: f.data.toList).toArray⟩).run Tryz.prog wx = .ok (.string ⟨(T2 ++ 43 :: f.data.toList).toArray⟩) wx := fun wx => by
              rw [run_string_add_sum wx _ _ (by have h1 := bs_size (43 :: f.data.toList); have h2 := hf8.out; have h3 := HT2.out; have h5 := bs_size T2; have h6 : f.size = f.data.toList.length := Lib.size_eq f; have h4 : (43 :: f.data.toList).length ≤ 10 := (by rw [List.length_cons, ← h6]; omega); omega)]
              rw [bs_add]
            have hm3 := m3 true; clear m3
            have hmm := @run_makeMap Tryz.prog
            go_wp2
            go_ret
            refine ⟨?_, B5.out.b⟩
            rw [HX.out, if_pos H0.out]; rfl
end Go.Proofs.YtnkmonmkhmcgaaaGreatDoor

/- The other telling of a number, walked. -/
namespace Go.Proofs.YtnkmonmkhmcgaaaGreatDoor
open Go.RowKit Qm

set_option maxHeartbeats 3200000 in
theorem whole_any (s : ByteArray) (w : World) (hs : s.size ≤ 140737488355328) (hL : LaidV w) :
    Calls Tryz.prog 60 #[.string s] w fun e w' => ∃ n, e = .returned (.tuple #[.int .i64 n, .bool (number s.data.toList).isSome]) ∧ (∀ v, number s.data.toList = some v → n = v) ∧ Below w.heap.size w w' := by
  obtain ⟨⟨tp, p, h1⟩, ⟨tp2, p2, h2⟩, h3⟩ := hL
  rcases h : Lib.atoiAll s.data.toList with v | _ | _
  · skip
    have hat := Tryz.strconv_ParseInt_10_at64_ok s (by omega) v (by rw [Lib.parseIntB_64]; exact h) w
    obtain ⟨hv0, hv1⟩ := Lib.atoiAll_bounds h
    go_enter Tryz.func60, Tryz.ntmps60
    go_wp2_with (first | (go_at_call 92; refine hat.mono ?_; rintro e w1 ⟨rfl, hw1⟩; refine Hid.out ?_))
    have hb1 : Hid (Below w.heap.size w w1) := Lib.hid (by
      rcases hw1 with rfl | ⟨t, rfl⟩
      · exact Below.refl _ _
      · exact Lib.bytesWorld_below _ _ _)
    clear hw1
    have hit := Tryz.strconv_FormatInt_10 v (by omega) (by omega) w1 (var_below h3 hb1.out)
    have Hit := Lib.hid hit
    clear hit
    have hcmp := bs_eq (Lib.itoa v) s
    have HV := Lib.hid (show number s.data.toList = if Lib.itoa v = s.data.toList then some v else none by unfold number; rw [h])
    clear h
    generalize Lib.itoa v = T at hcmp HV Hit
    by_cases e1 : T = s.data.toList
    · rw [decide_eq_true e1] at hcmp
      have E1 := Lib.hid e1; clear e1
      refine Lib.hid ?_
      go_wp2_with (first | (go_at_call 93; refine Hit.out.mono ?_; rintro e w2 ⟨rfl, k, os, hw2⟩))
      go_ret2
      refine ⟨v, ?_, ?_, hb1.out.trans (by subst hw2; exact (Lib.below_grow _ _ (Nat.le_refl _) _ _).mono hb1.out.size)⟩
      · rw [HV.out, if_pos E1.out]; rfl
      · rw [HV.out, if_pos E1.out]; intro u hu; injection hu
    · rw [decide_eq_false e1] at hcmp
      have E1 := Lib.hid e1; clear e1
      refine Lib.hid ?_
      go_wp2_with (first | (go_at_call 93; refine Hit.out.mono ?_; rintro e w2 ⟨rfl, k, os, hw2⟩))
      go_ret2
      refine ⟨v, ?_, ?_, hb1.out.trans (by subst hw2; exact (Lib.below_grow _ _ (Nat.le_refl _) _ _).mono hb1.out.size)⟩
      · rw [HV.out, if_neg E1.out]; rfl
      · rw [HV.out, if_neg E1.out]; intro u hu; cases hu
  · have hat := Any.strconv_ParseInt_10_at64_syntax_var Tryz.laysC174 s (by omega) (by rw [Lib.parseIntB_64]; exact h) tp p w h1
    go_enter Tryz.func60, Tryz.ntmps60
    go_wp2_with (first | (go_at_call 92; refine hat.mono ?_; rintro e w1 ⟨N, rfl, -, -, hb⟩))
    go_ret2
    have hn : number s.data.toList = none := by unfold number; rw [h]
    exact ⟨_, by rw [hn]; rfl, (by rw [hn]; intro v hv; cases hv), hb⟩
  · have hat := Tryz.strconv_ParseInt_10_at64_range_var s (by omega) (by rw [Lib.parseIntB_64]; exact h) tp2 p2 w h2
    go_enter Tryz.func60, Tryz.ntmps60
    go_wp2_with (first | (go_at_call 92; refine hat.mono ?_; rintro e w1 ⟨N, rfl, -, -, hb⟩))
    go_ret2
    have hn : number s.data.toList = none := by unfold number; rw [h]
    exact ⟨_, by rw [hn]; rfl, (by rw [hn]; intro v hv; cases hv), hb⟩
end Go.Proofs.YtnkmonmkhmcgaaaGreatDoor
