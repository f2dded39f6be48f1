/- Parts of the proof: walks and plain laws, side by side. -/
import Derived.Test.YtpipgffbhpnmkaaGreatDoorM21
import Derived.Test.YtpipgffbhpnmkaaGreatDoorM3
import Derived.Laws.EntriesVeiled
import Derived.Test.YtpipgffbhpnmkaaGreatDoorM12
import Derived.Maps.OwnSet
import Derived.Lib.ParseIntBTie
import Derived.Test.YtpipgffbhpnmkaaGreatDoorM5
import Derived.Deep.CutBlock
import Derived.Lib.IndexBytes
import Derived.Lib.IndexMore
import Derived.Test.YtpipgffbhpnmkaaGreatDoorM8
import Derived.Test.YtpipgffbhpnmkaaGreatDoorM1
import Derived.StringKeys
import Derived.Maps.RangeWalk
set_option linter.unusedVariables false
set_option linter.unusedSimpArgs false
set_option linter.unusedSectionVars false
namespace Go.Proofs.YtpipgffbhpnmkaaGreatDoor
/- The closure of quartermasterref.CheckNeed, walked. -/
section
open Go.RowKit Qm

def selfC (bx : Nat) : Value := .func (.func 79) #[] #[.pointer (some ⟨bx, 0, none⟩)]
set_option maxRecDepth 100000 in
set_option maxHeartbeats 3200000 in
theorem rwalk_bad (nm fl f : Qm.W) (op ver slot k : Int) (on no : Bool) (A : Option Addr) (n c : Nat) (ks : List Nd) (w : World) (bx : Nat) (k1 : 3 ≤ k) (k2 : k ≤ 5) (ha : ¬ (nm = [] ∧ op = 0 ∧ ver = 0 ∧ slot = 0 ∧ fl = [] ∧ on = false)) :
  Calls Tryz.prog 79 #[.agg (ndRow k ⟨nm, op, ver, slot, fl, on⟩ f no A n c).toArray, .pointer (some ⟨bx, 0, none⟩)] w fun e w' => e = .returned (.int .i64 (ckNd (.mk k ⟨nm, op, ver, slot, fl, on⟩ f no ks))) ∧ Below w.heap.size w w' := by
 unfold ndRow
 have HC : Hid (ckNd (.mk k ⟨nm, op, ver, slot, fl, on⟩ f no ks) = 4) := qh (by
  have hl : leafK k = false := by simp [leafK]; omega
  simp only [ckNd]; rw [if_neg (by omega), if_neg (by simp [hl]), if_pos ⟨hl, by simpa [At.zero] using ha⟩])
 have e1 : (k == 1) = false := by simp; omega
 have e2 : (k == 2) = false := by simp; omega
 have e3 : decide (k < 1) = false := by simp; omega
 have e4 : decide (5 < k) = false := by simp; omega
 have HB := qh ((Below.refl _ w).alloc (qr _) (.cells #[.int .i64 k, .string ⟨nm.toArray⟩, .int .i64 op, .int .i64 ver, .int .i64 slot, .string ⟨fl.toArray⟩, .bool on, .string ⟨f.toArray⟩, .bool no, .slice A n c] 40))
 by_cases c1 : nm = []
 ·subst c1
  by_cases c2 : op = 0
  ·subst c2
   by_cases c3 : ver = 0
   ·subst c3
    by_cases c4 : slot = 0
    ·subst c4
     by_cases c5 : fl = []
     ·subst c5
      cases on
      ·exact absurd ⟨rfl, rfl, rfl, rfl, rfl, rfl⟩ ha
      ·clear ha
       go_enter Tryz.func79, Tryz.ntmps79
       go_wp2
       go_ret
       exact ⟨ret_int HC.out.symm, HB.out⟩
     ·clear ha
      go_enter Tryz.func79, Tryz.ntmps79
      go_wp2
      go_ret
      exact ⟨ret_int HC.out.symm, HB.out⟩
    ·clear ha
     go_enter Tryz.func79, Tryz.ntmps79
     go_wp2
     go_ret
     exact ⟨ret_int HC.out.symm, HB.out⟩
   ·clear ha
    go_enter Tryz.func79, Tryz.ntmps79
    go_wp2
    go_ret
    exact ⟨ret_int HC.out.symm, HB.out⟩
  ·clear ha
   go_enter Tryz.func79, Tryz.ntmps79
   go_wp2
   go_ret
   exact ⟨ret_int HC.out.symm, HB.out⟩
 ·clear ha
  go_enter Tryz.func79, Tryz.ntmps79
  go_wp2
  go_ret
  exact ⟨ret_int HC.out.symm, HB.out⟩

set_option maxRecDepth 100000 in
set_option maxHeartbeats 3200000 in
theorem rwalk_out (nm fl f : Qm.W) (op ver slot k : Int) (on no : Bool) (A : Option Addr) (n c : Nat) (ks : List Nd) (w : World) (bx : Nat) (hk : k < 1 ∨ 5 < k) :
  Calls Tryz.prog 79 #[.agg (ndRow k ⟨nm, op, ver, slot, fl, on⟩ f no A n c).toArray, .pointer (some ⟨bx, 0, none⟩)] w fun e w' => e = .returned (.int .i64 (ckNd (.mk k ⟨nm, op, ver, slot, fl, on⟩ f no ks))) ∧ Below w.heap.size w w' := by
 unfold ndRow
 have HC : Hid (ckNd (.mk k ⟨nm, op, ver, slot, fl, on⟩ f no ks) = 4) := qh (by simp only [ckNd]; rw [if_pos hk])
 have HB := qh ((Below.refl _ w).alloc (qr _) (.cells #[.int .i64 k, .string ⟨nm.toArray⟩, .int .i64 op, .int .i64 ver, .int .i64 slot, .string ⟨fl.toArray⟩, .bool on, .string ⟨f.toArray⟩, .bool no, .slice A n c] 40))
 have e1 : (k == 1) = false := by simp; omega
 have e2 : (k == 2) = false := by simp; omega
 rcases hk with hk | hk
 ·
  go_enter Tryz.func79, Tryz.ntmps79
  go_wp2
  go_ret
  exact ⟨ret_int HC.out.symm, HB.out⟩
 ·have e3 : decide (k < 1) = false := by simp; omega
  go_enter Tryz.func79, Tryz.ntmps79
  go_wp2
  go_ret
  exact ⟨ret_int HC.out.symm, HB.out⟩
set_option maxRecDepth 100000 in
set_option maxHeartbeats 3200000 in
theorem rwalk_leaf1 (nm fl f : Qm.W) (op ver slot : Int) (on no : Bool) (A : Option Addr) (n c : Nat) (ks : List Nd) (w : World) (bx : Nat) (hc : n ≤ c) (hc2 : c ≤ maxLen) (h1 : nm.length ≤ maxLen) (h2 : fl.length ≤ maxLen) (hlen : ks.length = n) :
  Calls Tryz.prog 79 #[.agg (ndRow 1 ⟨nm, op, ver, slot, fl, on⟩ f no A n c).toArray, .pointer (some ⟨bx, 0, none⟩)] w fun e w' => e = .returned (.int .i64 (ckNd (.mk 1 ⟨nm, op, ver, slot, fl, on⟩ f no ks))) ∧ Below w.heap.size w w' := by
 unfold ndRow
 unfold maxLen at hc2
 have HB := qh ((Below.refl _ w).alloc (qr _) (.cells #[.int .i64 1, .string ⟨nm.toArray⟩, .int .i64 op, .int .i64 ver, .int .i64 slot, .string ⟨fl.toArray⟩, .bool on, .string ⟨f.toArray⟩, .bool no, .slice A n c] 40))
 by_cases hn : 0 < n
 ·have HC : Hid (ckNd (.mk 1 ⟨nm, op, ver, slot, fl, on⟩ f no ks) = 4) := qh (by
   simp only [ckNd]; rw [if_neg (by omega), if_pos ⟨rfl, by omega⟩])
  have hn' : ((n : Int) != 0) = true := by simp; omega
  go_enter Tryz.func79, Tryz.ntmps79
  go_wp2
  go_ret
  exact ⟨ret_int HC.out.symm, HB.out⟩
 ·obtain rfl : n = 0 := by omega
  clear hn
  by_cases hf : f = [] ∧ no = false
  ·obtain ⟨rfl, rfl⟩ := hf
   have HC : Hid (ckNd (.mk 1 ⟨nm, op, ver, slot, fl, on⟩ [] false ks) = ckAtom ⟨nm, op, ver, slot, fl, on⟩) := qh (by
    simp only [ckNd]; rw [if_neg (by omega), if_neg (by simp [hlen]), if_neg (by simp [leafK]), if_neg (by simp), if_neg (by simp), if_pos (by rfl)])
   have hck := fun wx => rcheck_any ⟨nm.toArray⟩ ⟨fl.toArray⟩ op ver slot on wx (by rw [bsz]; exact h1) (by rw [bsz]; exact h2)
   rw [show atOf ⟨nm.toArray⟩ op ver slot ⟨fl.toArray⟩ on = ⟨nm, op, ver, slot, fl, on⟩ from by simp [atOf]] at hck
   unfold atv at hck
   have Hck := qh hck; clear hck
   generalize ckAtom _ = q at Hck HC
   clear h1 h2
   go_enter Tryz.func79, Tryz.ntmps79
   go_wp2_with (first | (go_at_call 80; refine (Hck.out _).mono ?_; rintro e w1 ⟨rfl, hb1⟩; refine Hid.out ?_))
   refine qh ?_
   have HB1 := qh (HB.out.trans (hb1.mono HB.out.size)); clear hb1
   go_wp2
   go_ret
   exact ⟨ret_int HC.out.symm, HB1.out⟩
  ·have HC : Hid (ckNd (.mk 1 ⟨nm, op, ver, slot, fl, on⟩ f no ks) = 4) := qh (by
    simp only [ckNd]; rw [if_neg (by omega), if_neg (by simp [hlen]), if_neg (by simp [leafK]), if_pos ⟨by omega, by cases no <;> simp_all⟩])
   cases no
   ·have hf0 : ¬ f = [] := fun e => hf ⟨e, rfl⟩
    have hf1 : (!List.isEmpty f) = true := by cases f with | nil => exact absurd rfl hf0 | cons => rfl
    clear hf
    go_enter Tryz.func79, Tryz.ntmps79
    go_wp2
    go_ret
    exact ⟨ret_int HC.out.symm, HB.out⟩
   ·clear hf
    go_enter Tryz.func79, Tryz.ntmps79
    go_wp2
    go_ret
    exact ⟨ret_int HC.out.symm, HB.out⟩
set_option maxRecDepth 100000 in
set_option maxHeartbeats 3200000 in
theorem rwalk_leaf2 (nm fl f : Qm.W) (op ver slot : Int) (on no : Bool) (A : Option Addr) (n c : Nat) (ks : List Nd) (w : World) (bx : Nat) (hc : n ≤ c) (hc2 : c ≤ maxLen) (h1 : nm.length ≤ maxLen) (h2 : fl.length ≤ maxLen) (hlen : ks.length = n) :
  Calls Tryz.prog 79 #[.agg (ndRow 2 ⟨nm, op, ver, slot, fl, on⟩ f no A n c).toArray, .pointer (some ⟨bx, 0, none⟩)] w fun e w' => e = .returned (.int .i64 (ckNd (.mk 2 ⟨nm, op, ver, slot, fl, on⟩ f no ks))) ∧ Below w.heap.size w w' := by
 unfold ndRow
 unfold maxLen at hc2
 have HB := qh ((Below.refl _ w).alloc (qr _) (.cells #[.int .i64 2, .string ⟨nm.toArray⟩, .int .i64 op, .int .i64 ver, .int .i64 slot, .string ⟨fl.toArray⟩, .bool on, .string ⟨f.toArray⟩, .bool no, .slice A n c] 40))
 by_cases hn : 0 < n
 ·have HC : Hid (ckNd (.mk 2 ⟨nm, op, ver, slot, fl, on⟩ f no ks) = 4) := qh (by
   simp only [ckNd]; rw [if_neg (by omega), if_pos ⟨rfl, by omega⟩])
  have hn' : ((n : Int) != 0) = true := by simp; omega
  go_enter Tryz.func79, Tryz.ntmps79
  go_wp2
  go_ret
  exact ⟨ret_int HC.out.symm, HB.out⟩
 ·obtain rfl : n = 0 := by omega
  clear hn
  by_cases hf : f = [] ∧ no = false
  ·obtain ⟨rfl, rfl⟩ := hf
   have HC : Hid (ckNd (.mk 2 ⟨nm, op, ver, slot, fl, on⟩ [] false ks) = ckAtom ⟨nm, op, ver, slot, fl, on⟩) := qh (by
    simp only [ckNd]; rw [if_neg (by omega), if_neg (by simp [hlen]), if_neg (by simp [leafK]), if_neg (by simp), if_neg (by simp), if_pos (by rfl)])
   have hck := fun wx => rcheck_any ⟨nm.toArray⟩ ⟨fl.toArray⟩ op ver slot on wx (by rw [bsz]; exact h1) (by rw [bsz]; exact h2)
   rw [show atOf ⟨nm.toArray⟩ op ver slot ⟨fl.toArray⟩ on = ⟨nm, op, ver, slot, fl, on⟩ from by simp [atOf]] at hck
   unfold atv at hck
   have Hck := qh hck; clear hck
   generalize ckAtom _ = q at Hck HC
   clear h1 h2
   go_enter Tryz.func79, Tryz.ntmps79
   go_wp2_with (first | (go_at_call 80; refine (Hck.out _).mono ?_; rintro e w1 ⟨rfl, hb1⟩; refine Hid.out ?_))
   refine qh ?_
   have HB1 := qh (HB.out.trans (hb1.mono HB.out.size)); clear hb1
   go_wp2
   go_ret
   exact ⟨ret_int HC.out.symm, HB1.out⟩
  ·have HC : Hid (ckNd (.mk 2 ⟨nm, op, ver, slot, fl, on⟩ f no ks) = 4) := qh (by
    simp only [ckNd]; rw [if_neg (by omega), if_neg (by simp [hlen]), if_neg (by simp [leafK]), if_pos ⟨by omega, by cases no <;> simp_all⟩])
   cases no
   ·have hf0 : ¬ f = [] := fun e => hf ⟨e, rfl⟩
    have hf1 : (!List.isEmpty f) = true := by cases f with | nil => exact absurd rfl hf0 | cons => rfl
    clear hf
    go_enter Tryz.func79, Tryz.ntmps79
    go_wp2
    go_ret
    exact ⟨ret_int HC.out.symm, HB.out⟩
   ·clear hf
    go_enter Tryz.func79, Tryz.ntmps79
    go_wp2
    go_ret
    exact ⟨ret_int HC.out.symm, HB.out⟩
set_option maxRecDepth 100000 in
set_option maxHeartbeats 3200000 in
theorem rwalk_flag3 (f : Qm.W) (no : Bool) (A : Option Addr) (n c : Nat) (ks : List Nd) (w : World) (bx : Nat) (hf : ¬ (f = [] ∧ no = false)) :
  Calls Tryz.prog 79 #[.agg (ndRow 3 ⟨[], 0, 0, 0, [], false⟩ f no A n c).toArray, .pointer (some ⟨bx, 0, none⟩)] w fun e w' => e = .returned (.int .i64 (ckNd (.mk 3 ⟨[], 0, 0, 0, [], false⟩ f no ks))) ∧ Below w.heap.size w w' := by
 unfold ndRow
 have HC : Hid (ckNd (.mk 3 ⟨[], 0, 0, 0, [], false⟩ f no ks) = 4) := qh (by
  simp only [ckNd]; rw [if_neg (by omega), if_neg (by simp [leafK]), if_neg (by simp [At.zero]), if_pos ⟨by omega, by cases no <;> simp_all⟩])
 have HB := qh ((Below.refl _ w).alloc (qr _) (.cells #[.int .i64 3, .string ⟨#[]⟩, .int .i64 0, .int .i64 0, .int .i64 0, .string ⟨#[]⟩, .bool false, .string ⟨f.toArray⟩, .bool no, .slice A n c] 40))
 cases no
 ·have hf0 : ¬ f = [] := fun e => hf ⟨e, rfl⟩
  have hf1 : (!List.isEmpty f) = true := by cases f with | nil => exact absurd rfl hf0 | cons => rfl
  clear hf
  go_enter Tryz.func79, Tryz.ntmps79
  go_wp2
  go_ret
  exact ⟨ret_int HC.out.symm, HB.out⟩
 ·clear hf
  go_enter Tryz.func79, Tryz.ntmps79
  go_wp2
  go_ret
  exact ⟨ret_int HC.out.symm, HB.out⟩
set_option maxRecDepth 100000 in
set_option maxHeartbeats 3200000 in
theorem rwalk_flag4 (f : Qm.W) (no : Bool) (A : Option Addr) (n c : Nat) (ks : List Nd) (w : World) (bx : Nat) (hf : ¬ (f = [] ∧ no = false)) :
  Calls Tryz.prog 79 #[.agg (ndRow 4 ⟨[], 0, 0, 0, [], false⟩ f no A n c).toArray, .pointer (some ⟨bx, 0, none⟩)] w fun e w' => e = .returned (.int .i64 (ckNd (.mk 4 ⟨[], 0, 0, 0, [], false⟩ f no ks))) ∧ Below w.heap.size w w' := by
 unfold ndRow
 have HC : Hid (ckNd (.mk 4 ⟨[], 0, 0, 0, [], false⟩ f no ks) = 4) := qh (by
  simp only [ckNd]; rw [if_neg (by omega), if_neg (by simp [leafK]), if_neg (by simp [At.zero]), if_pos ⟨by omega, by cases no <;> simp_all⟩])
 have HB := qh ((Below.refl _ w).alloc (qr _) (.cells #[.int .i64 4, .string ⟨#[]⟩, .int .i64 0, .int .i64 0, .int .i64 0, .string ⟨#[]⟩, .bool false, .string ⟨f.toArray⟩, .bool no, .slice A n c] 40))
 cases no
 ·have hf0 : ¬ f = [] := fun e => hf ⟨e, rfl⟩
  have hf1 : (!List.isEmpty f) = true := by cases f with | nil => exact absurd rfl hf0 | cons => rfl
  clear hf
  go_enter Tryz.func79, Tryz.ntmps79
  go_wp2
  go_ret
  exact ⟨ret_int HC.out.symm, HB.out⟩
 ·clear hf
  go_enter Tryz.func79, Tryz.ntmps79
  go_wp2
  go_ret
  exact ⟨ret_int HC.out.symm, HB.out⟩
set_option maxRecDepth 100000 in
set_option maxHeartbeats 3200000 in
theorem rwalk_name (f : Qm.W) (no : Bool) (A : Option Addr) (n c : Nat) (ks : List Nd) (w : World) (bx : Nat) (h3 : f.length ≤ maxLen) (hn : isName f = false) :
  Calls Tryz.prog 79 #[.agg (ndRow 5 ⟨[], 0, 0, 0, [], false⟩ f no A n c).toArray, .pointer (some ⟨bx, 0, none⟩)] w fun e w' => e = .returned (.int .i64 (ckNd (.mk 5 ⟨[], 0, 0, 0, [], false⟩ f no ks))) ∧ Below w.heap.size w w' := by
 unfold ndRow
 have hnm := fun wx => rname_any ⟨f.toArray⟩ wx (by rw [bsz]; exact h3)
 rw [show (⟨f.toArray⟩ : ByteArray).data.toList = f from by simp, hn] at hnm
 have Hnm := qh hnm; clear hnm
 have HC : Hid (ckNd (.mk 5 ⟨[], 0, 0, 0, [], false⟩ f no ks) = 1) := qh (by
  simp only [ckNd]; rw [if_neg (by omega), if_neg (by simp [leafK]), if_neg (by simp [At.zero]), if_neg (by simp), if_pos ⟨by trivial, hn⟩])
 have HB := qh ((Below.refl _ w).alloc (qr _) (.cells #[.int .i64 5, .string ⟨#[]⟩, .int .i64 0, .int .i64 0, .int .i64 0, .string ⟨#[]⟩, .bool false, .string ⟨f.toArray⟩, .bool no, .slice A n c] 40))
 clear h3 hn
 go_enter Tryz.func79, Tryz.ntmps79
 go_wp2_with (first | (go_at_call 50; refine (Hnm.out _).mono ?_; rintro e w1 ⟨rfl, hb1⟩; refine Hid.out ?_))
 refine qh ?_
 have HB1 := qh (HB.out.trans (hb1.mono HB.out.size)); clear hb1
 go_wp2
 go_ret
 exact ⟨ret_int HC.out.symm, HB1.out⟩
end
/- The loop of the closure of quartermasterref.CheckNeed, walked. -/
section
open Go.RowKit Qm

def RWalks (ks : List Nd) : Prop := ∀ x ∈ ks, ∀ (S : Nat → Prop) (cx : List Value) (bx : Nat) (w : World), RNd w S cx x → (∀ k, S k → k < w.heap.size) → w.cell? ⟨bx, 0, none⟩ = some (selfC bx) →
  Calls Tryz.prog 79 #[.agg cx.toArray, .pointer (some ⟨bx, 0, none⟩)] w fun e w' => e = .returned (.int .i64 (ckNd x)) ∧ Below w.heap.size w w'
set_option maxRecDepth 100000 in
set_option maxHeartbeats 3200000 in
theorem rwalk_kids3 (ks : List Nd) (S : Nat → Prop) (A : Option Addr) (n c bx : Nat) (w : World) (ih : RWalks ks) (hnc : n ≤ c) (hc : c ≤ maxLen) (hK : RKids w S A n ks) (hS : ∀ k, S k → k < w.heap.size) (hbx : w.cell? ⟨bx, 0, none⟩ = some (selfC bx)) :
  Calls Tryz.prog 79 #[.agg (ndRow 3 ⟨[], 0, 0, 0, [], false⟩ [] false A n c).toArray, .pointer (some ⟨bx, 0, none⟩)] w fun e w' => e = .returned (.int .i64 (ckNd (.mk 3 ⟨[], 0, 0, 0, [], false⟩ [] false ks))) ∧ Below w.heap.size w w' := by
 unfold ndRow
 have HI := qh ih; clear ih
 have HX0 := qh hbx
 have hbl : bx < w.heap.size := World.block_lt_of_cell? _ _ hbx
 have henter : ∀ (args : Array Value) (W : World), (callFunc 79 args).run Tryz.prog W = .ok (.enter 79 args) W := fun args W => by kernel_rfl
 clear hbx
 have HS := qh hS; clear hS
 have HK := qh hK; clear hK
 unfold maxLen at hc
 have HC : Hid (ckNd (.mk 3 ⟨[], 0, 0, 0, [], false⟩ [] false ks) = ckKids ks) := qh (by
  simp only [ckNd]; rw [if_neg (by omega), if_neg (by simp [leafK]), if_neg (by simp [At.zero]), if_neg (by simp), if_neg (by simp), if_neg (by simp [leafK])])
 have HB := qh ((Below.refl _ w).alloc (qr _) (.cells #[.int .i64 3, .string ⟨#[]⟩, .int .i64 0, .int .i64 0, .int .i64 0, .string ⟨#[]⟩, .bool false, .string ⟨#[]⟩, .bool false, .slice A n c] 40))
 go_enter Tryz.func79, Tryz.ntmps79
 go_wp2
 go_loopg [73] n (fun g iv wr => ∃ (j : Nat), Hid (j + g = n) ∧ iv = .int .i64 j ∧ Hid (ckKids ks = ckKids (ks.drop j)) ∧ Below w.heap.size w wr)
 case atStart => exact ⟨0, qh (Nat.zero_add _), rfl, qh rfl, HB.out⟩
 case round =>
  obtain ⟨j, Hj, rfl, Hcl, hb⟩ := hrel
  have HBr := qh hb; clear hb
  have hbx := (HBr.out.cell (p := ⟨bx, 0, none⟩) hbl).trans HX0.out
  unfold selfC at hbx
  have hbr : bx < wr.heap.size := ql hbl HBr.out.size
  by_cases hj : j < n
  ·obtain ⟨b, o, x, y, rfl, hb, hy, hxy, hcell⟩ := (HK.out.under HBr.out HS.out).at_ hj
   have Hdr := qh (drop_step hy)
   have hmem := List.mem_of_getElem? hy
   obtain ⟨yk, ya, yf, yn, yks⟩ := y
   obtain ⟨A', n', c', rfl, -⟩ := hxy.open_
   have g0 := hcell 0 (by omega); have g1 := hcell 1 (by omega); have g2 := hcell 2 (by omega); have g3 := hcell 3 (by omega); have g4 := hcell 4 (by omega)
   have g5 := hcell 5 (by omega); have g6 := hcell 6 (by omega); have g7 := hcell 7 (by omega); have g8 := hcell 8 (by omega); have g9 := hcell 9 (by omega)
   clear hcell
   unfold ndRow at g0 g1 g2 g3 g4 g5 g6 g7 g8 g9
   simp only [List.getElem?_cons_zero, List.getElem?_cons_succ, Nat.add_zero] at g0 g1 g2 g3 g4 g5 g6 g7 g8 g9
   clear hy
   have hxy2 := (hxy.under (Below.refl _ wr |>.alloc (qr _) (.cells #[.int .i64 yk, .string ⟨ya.nm.toArray⟩, .int .i64 ya.op, .int .i64 ya.ver, .int .i64 ya.slot, .string ⟨ya.fl.toArray⟩, .bool ya.on, .string ⟨yf.toArray⟩, .bool yn, .slice A' n' c'] 40)) fun q hq => ql (HS.out q hq) HBr.out.size)
   clear hxy
   have hcall := HI.out _ hmem S _ bx _ hxy2 (fun q hq => by have := HS.out q hq; have := HBr.out.size; simp; omega) (((Below.refl _ wr |>.alloc (qr _) _).cell (p := ⟨bx, 0, none⟩) hbr).trans ((HBr.out.cell (p := ⟨bx, 0, none⟩) hbl).trans HX0.out))
   unfold ndRow at hcall
   have HX : Hid (ckKids (ks.drop j) = if ckNd (.mk yk ya yf yn yks) = 0 then ckKids (ks.drop (j + 1)) else ckNd (.mk yk ya yf yn yks)) := qh (by rw [Hdr.out]; simp only [ckKids])
   generalize hq : ckNd (.mk yk ya yf yn yks) = q at hcall HX
   have HBn := qh (HBr.out.alloc HBr.out.size (.cells #[.int .i64 yk, .string ⟨ya.nm.toArray⟩, .int .i64 ya.op, .int .i64 ya.ver, .int .i64 ya.slot, .string ⟨ya.fl.toArray⟩, .bool ya.on, .string ⟨yf.toArray⟩, .bool yn, .slice A' n' c'] 40))
   clear hq hxy2
   have Hcall := qh hcall; clear hcall
   by_cases h0 : q = 0
   ·subst h0
    go_wp2_with (first | (go_at_call 79; refine Hcall.out.mono ?_; rintro e w' ⟨rfl, hb'⟩; refine Hid.out ?_))
    refine qh ?_
    have HB' := qh (HBn.out.trans (hb'.mono HBn.out.size)); clear hb'
    go_wp2_with fail
    go_roundg (gk - 1)
    case measure => have := Hj.out; omega
    case rel => exact ⟨j + 1, qh (by have := Hj.out; omega), by go_num, qh (by rw [Hcl.out, HX.out]; simp), HB'.out⟩
   ·have h1 : (q != 0) = true := by simpa using h0
    have H0 := qh h0; clear h0
    go_wp2_with (first | (go_at_call 79; refine Hcall.out.mono ?_; rintro e w' ⟨rfl, hb'⟩; refine Hid.out ?_))
    refine qh ?_
    have HB' := qh (HBn.out.trans (hb'.mono HBn.out.size)); clear hb'
    go_wp2_with fail
    go_ret
    exact ⟨ret_int (by rw [HC.out, Hcl.out, HX.out, if_neg H0.out]), HB'.out⟩
  ·go_wp2_with fail
   go_ret
   refine ⟨ret_int ?_, HBr.out⟩
   rw [HC.out, Hcl.out, List.drop_of_length_le (by have := HK.out.len; omega)]; rfl
set_option maxRecDepth 100000 in
set_option maxHeartbeats 3200000 in
theorem rwalk_kids4 (ks : List Nd) (S : Nat → Prop) (A : Option Addr) (n c bx : Nat) (w : World) (ih : RWalks ks) (hnc : n ≤ c) (hc : c ≤ maxLen) (hK : RKids w S A n ks) (hS : ∀ k, S k → k < w.heap.size) (hbx : w.cell? ⟨bx, 0, none⟩ = some (selfC bx)) :
  Calls Tryz.prog 79 #[.agg (ndRow 4 ⟨[], 0, 0, 0, [], false⟩ [] false A n c).toArray, .pointer (some ⟨bx, 0, none⟩)] w fun e w' => e = .returned (.int .i64 (ckNd (.mk 4 ⟨[], 0, 0, 0, [], false⟩ [] false ks))) ∧ Below w.heap.size w w' := by
 unfold ndRow
 have HI := qh ih; clear ih
 have HX0 := qh hbx
 have hbl : bx < w.heap.size := World.block_lt_of_cell? _ _ hbx
 have henter : ∀ (args : Array Value) (W : World), (callFunc 79 args).run Tryz.prog W = .ok (.enter 79 args) W := fun args W => by kernel_rfl
 clear hbx
 have HS := qh hS; clear hS
 have HK := qh hK; clear hK
 unfold maxLen at hc
 have HC : Hid (ckNd (.mk 4 ⟨[], 0, 0, 0, [], false⟩ [] false ks) = ckKids ks) := qh (by
  simp only [ckNd]; rw [if_neg (by omega), if_neg (by simp [leafK]), if_neg (by simp [At.zero]), if_neg (by simp), if_neg (by simp), if_neg (by simp [leafK])])
 have HB := qh ((Below.refl _ w).alloc (qr _) (.cells #[.int .i64 4, .string ⟨#[]⟩, .int .i64 0, .int .i64 0, .int .i64 0, .string ⟨#[]⟩, .bool false, .string ⟨#[]⟩, .bool false, .slice A n c] 40))
 go_enter Tryz.func79, Tryz.ntmps79
 go_wp2
 go_loopg [73] n (fun g iv wr => ∃ (j : Nat), Hid (j + g = n) ∧ iv = .int .i64 j ∧ Hid (ckKids ks = ckKids (ks.drop j)) ∧ Below w.heap.size w wr)
 case atStart => exact ⟨0, qh (Nat.zero_add _), rfl, qh rfl, HB.out⟩
 case round =>
  obtain ⟨j, Hj, rfl, Hcl, hb⟩ := hrel
  have HBr := qh hb; clear hb
  have hbx := (HBr.out.cell (p := ⟨bx, 0, none⟩) hbl).trans HX0.out
  unfold selfC at hbx
  have hbr : bx < wr.heap.size := ql hbl HBr.out.size
  by_cases hj : j < n
  ·obtain ⟨b, o, x, y, rfl, hb, hy, hxy, hcell⟩ := (HK.out.under HBr.out HS.out).at_ hj
   have Hdr := qh (drop_step hy)
   have hmem := List.mem_of_getElem? hy
   obtain ⟨yk, ya, yf, yn, yks⟩ := y
   obtain ⟨A', n', c', rfl, -⟩ := hxy.open_
   have g0 := hcell 0 (by omega); have g1 := hcell 1 (by omega); have g2 := hcell 2 (by omega); have g3 := hcell 3 (by omega); have g4 := hcell 4 (by omega)
   have g5 := hcell 5 (by omega); have g6 := hcell 6 (by omega); have g7 := hcell 7 (by omega); have g8 := hcell 8 (by omega); have g9 := hcell 9 (by omega)
   clear hcell
   unfold ndRow at g0 g1 g2 g3 g4 g5 g6 g7 g8 g9
   simp only [List.getElem?_cons_zero, List.getElem?_cons_succ, Nat.add_zero] at g0 g1 g2 g3 g4 g5 g6 g7 g8 g9
   clear hy
   have hxy2 := (hxy.under (Below.refl _ wr |>.alloc (qr _) (.cells #[.int .i64 yk, .string ⟨ya.nm.toArray⟩, .int .i64 ya.op, .int .i64 ya.ver, .int .i64 ya.slot, .string ⟨ya.fl.toArray⟩, .bool ya.on, .string ⟨yf.toArray⟩, .bool yn, .slice A' n' c'] 40)) fun q hq => ql (HS.out q hq) HBr.out.size)
   clear hxy
   have hcall := HI.out _ hmem S _ bx _ hxy2 (fun q hq => by have := HS.out q hq; have := HBr.out.size; simp; omega) (((Below.refl _ wr |>.alloc (qr _) _).cell (p := ⟨bx, 0, none⟩) hbr).trans ((HBr.out.cell (p := ⟨bx, 0, none⟩) hbl).trans HX0.out))
   unfold ndRow at hcall
   have HX : Hid (ckKids (ks.drop j) = if ckNd (.mk yk ya yf yn yks) = 0 then ckKids (ks.drop (j + 1)) else ckNd (.mk yk ya yf yn yks)) := qh (by rw [Hdr.out]; simp only [ckKids])
   generalize hq : ckNd (.mk yk ya yf yn yks) = q at hcall HX
   have HBn := qh (HBr.out.alloc HBr.out.size (.cells #[.int .i64 yk, .string ⟨ya.nm.toArray⟩, .int .i64 ya.op, .int .i64 ya.ver, .int .i64 ya.slot, .string ⟨ya.fl.toArray⟩, .bool ya.on, .string ⟨yf.toArray⟩, .bool yn, .slice A' n' c'] 40))
   clear hq hxy2
   have Hcall := qh hcall; clear hcall
   by_cases h0 : q = 0
   ·subst h0
    go_wp2_with (first | (go_at_call 79; refine Hcall.out.mono ?_; rintro e w' ⟨rfl, hb'⟩; refine Hid.out ?_))
    refine qh ?_
    have HB' := qh (HBn.out.trans (hb'.mono HBn.out.size)); clear hb'
    go_wp2_with fail
    go_roundg (gk - 1)
    case measure => have := Hj.out; omega
    case rel => exact ⟨j + 1, qh (by have := Hj.out; omega), by go_num, qh (by rw [Hcl.out, HX.out]; simp), HB'.out⟩
   ·have h1 : (q != 0) = true := by simpa using h0
    have H0 := qh h0; clear h0
    go_wp2_with (first | (go_at_call 79; refine Hcall.out.mono ?_; rintro e w' ⟨rfl, hb'⟩; refine Hid.out ?_))
    refine qh ?_
    have HB' := qh (HBn.out.trans (hb'.mono HBn.out.size)); clear hb'
    go_wp2_with fail
    go_ret
    exact ⟨ret_int (by rw [HC.out, Hcl.out, HX.out, if_neg H0.out]), HB'.out⟩
  ·go_wp2_with fail
   go_ret
   refine ⟨ret_int ?_, HBr.out⟩
   rw [HC.out, Hcl.out, List.drop_of_length_le (by have := HK.out.len; omega)]; rfl
set_option maxRecDepth 100000 in
set_option maxHeartbeats 3200000 in
theorem rwalk_kids5 (f : Qm.W) (no : Bool) (h3 : f.length ≤ maxLen) (hn : isName f = true) (ks : List Nd) (S : Nat → Prop) (A : Option Addr) (n c bx : Nat) (w : World) (ih : RWalks ks) (hnc : n ≤ c) (hc : c ≤ maxLen) (hK : RKids w S A n ks) (hS : ∀ k, S k → k < w.heap.size) (hbx : w.cell? ⟨bx, 0, none⟩ = some (selfC bx)) :
  Calls Tryz.prog 79 #[.agg (ndRow 5 ⟨[], 0, 0, 0, [], false⟩ f no A n c).toArray, .pointer (some ⟨bx, 0, none⟩)] w fun e w' => e = .returned (.int .i64 (ckNd (.mk 5 ⟨[], 0, 0, 0, [], false⟩ f no ks))) ∧ Below w.heap.size w w' := by
 unfold ndRow
 have HI := qh ih; clear ih
 have HX0 := qh hbx
 have hbl : bx < w.heap.size := World.block_lt_of_cell? _ _ hbx
 have henter : ∀ (args : Array Value) (W : World), (callFunc 79 args).run Tryz.prog W = .ok (.enter 79 args) W := fun args W => by kernel_rfl
 clear hbx
 have HS := qh hS; clear hS
 have HK := qh hK; clear hK
 unfold maxLen at hc
 have hnm := fun wx => rname_any ⟨f.toArray⟩ wx (by rw [bsz]; exact h3)
 rw [show (⟨f.toArray⟩ : ByteArray).data.toList = f from by simp, hn] at hnm
 have Hnm := qh hnm; clear hnm
 have HC : Hid (ckNd (.mk 5 ⟨[], 0, 0, 0, [], false⟩ f no ks) = ckKids ks) := qh (by
  simp only [ckNd]; rw [if_neg (by omega), if_neg (by simp [leafK]), if_neg (by simp [At.zero]), if_neg (by simp), if_neg (by simp [hn]), if_neg (by simp [leafK])])
 have HB := qh ((Below.refl _ w).alloc (qr _) (.cells #[.int .i64 5, .string ⟨#[]⟩, .int .i64 0, .int .i64 0, .int .i64 0, .string ⟨#[]⟩, .bool false, .string ⟨f.toArray⟩, .bool no, .slice A n c] 40))
 have HW := qh (Whole.new w _ 40 [.int .i64 5, .string ⟨#[]⟩, .int .i64 0, .int .i64 0, .int .i64 0, .string ⟨#[]⟩, .bool false, .string ⟨f.toArray⟩, .bool no, .slice A n c] rfl)
 clear h3 hn
 go_enter Tryz.func79, Tryz.ntmps79
 go_wp2_with (first | (go_at_call 50; refine (Hnm.out _).mono ?_; rintro e w1 ⟨rfl, hb1⟩; refine Hid.out ?_))
 refine qh ?_
 replace HB := qh (HB.out.trans (hb1.mono HB.out.size))
 have q9 := (HW.out.below hb1 HW.out.lt).cell 9
 simp only [qgz, qgs] at q9
 clear hb1 HW Hnm
 go_wp2
 go_loopg [73] n (fun g iv wr => ∃ (j : Nat), Hid (j + g = n) ∧ iv = .int .i64 j ∧ Hid (ckKids ks = ckKids (ks.drop j)) ∧ Below w.heap.size w wr)
 case atStart => exact ⟨0, qh (Nat.zero_add _), rfl, qh rfl, HB.out⟩
 case round =>
  obtain ⟨j, Hj, rfl, Hcl, hb⟩ := hrel
  have HBr := qh hb; clear hb
  have hbx := (HBr.out.cell (p := ⟨bx, 0, none⟩) hbl).trans HX0.out
  unfold selfC at hbx
  have hbr : bx < wr.heap.size := ql hbl HBr.out.size
  by_cases hj : j < n
  ·obtain ⟨b, o, x, y, rfl, hb, hy, hxy, hcell⟩ := (HK.out.under HBr.out HS.out).at_ hj
   have Hdr := qh (drop_step hy)
   have hmem := List.mem_of_getElem? hy
   obtain ⟨yk, ya, yf, yn, yks⟩ := y
   obtain ⟨A', n', c', rfl, -⟩ := hxy.open_
   have g0 := hcell 0 (by omega); have g1 := hcell 1 (by omega); have g2 := hcell 2 (by omega); have g3 := hcell 3 (by omega); have g4 := hcell 4 (by omega)
   have g5 := hcell 5 (by omega); have g6 := hcell 6 (by omega); have g7 := hcell 7 (by omega); have g8 := hcell 8 (by omega); have g9 := hcell 9 (by omega)
   clear hcell
   unfold ndRow at g0 g1 g2 g3 g4 g5 g6 g7 g8 g9
   simp only [List.getElem?_cons_zero, List.getElem?_cons_succ, Nat.add_zero] at g0 g1 g2 g3 g4 g5 g6 g7 g8 g9
   clear hy
   have hxy2 := (hxy.under (Below.refl _ wr |>.alloc (qr _) (.cells #[.int .i64 yk, .string ⟨ya.nm.toArray⟩, .int .i64 ya.op, .int .i64 ya.ver, .int .i64 ya.slot, .string ⟨ya.fl.toArray⟩, .bool ya.on, .string ⟨yf.toArray⟩, .bool yn, .slice A' n' c'] 40)) fun q hq => ql (HS.out q hq) HBr.out.size)
   clear hxy
   have hcall := HI.out _ hmem S _ bx _ hxy2 (fun q hq => by have := HS.out q hq; have := HBr.out.size; simp; omega) (((Below.refl _ wr |>.alloc (qr _) _).cell (p := ⟨bx, 0, none⟩) hbr).trans ((HBr.out.cell (p := ⟨bx, 0, none⟩) hbl).trans HX0.out))
   unfold ndRow at hcall
   have HX : Hid (ckKids (ks.drop j) = if ckNd (.mk yk ya yf yn yks) = 0 then ckKids (ks.drop (j + 1)) else ckNd (.mk yk ya yf yn yks)) := qh (by rw [Hdr.out]; simp only [ckKids])
   generalize hq : ckNd (.mk yk ya yf yn yks) = q at hcall HX
   have HBn := qh (HBr.out.alloc HBr.out.size (.cells #[.int .i64 yk, .string ⟨ya.nm.toArray⟩, .int .i64 ya.op, .int .i64 ya.ver, .int .i64 ya.slot, .string ⟨ya.fl.toArray⟩, .bool ya.on, .string ⟨yf.toArray⟩, .bool yn, .slice A' n' c'] 40))
   clear hq hxy2
   have Hcall := qh hcall; clear hcall
   by_cases h0 : q = 0
   ·subst h0
    go_wp2_with (first | (go_at_call 79; refine Hcall.out.mono ?_; rintro e w' ⟨rfl, hb'⟩; refine Hid.out ?_))
    refine qh ?_
    have HB' := qh (HBn.out.trans (hb'.mono HBn.out.size)); clear hb'
    go_wp2_with fail
    go_roundg (gk - 1)
    case measure => have := Hj.out; omega
    case rel => exact ⟨j + 1, qh (by have := Hj.out; omega), by go_num, qh (by rw [Hcl.out, HX.out]; simp), HB'.out⟩
   ·have h1 : (q != 0) = true := by simpa using h0
    have H0 := qh h0; clear h0
    go_wp2_with (first | (go_at_call 79; refine Hcall.out.mono ?_; rintro e w' ⟨rfl, hb'⟩; refine Hid.out ?_))
    refine qh ?_
    have HB' := qh (HBn.out.trans (hb'.mono HBn.out.size)); clear hb'
    go_wp2_with fail
    go_ret
    exact ⟨ret_int (by rw [HC.out, Hcl.out, HX.out, if_neg H0.out]), HB'.out⟩
  ·go_wp2_with fail
   go_ret
   refine ⟨ret_int ?_, HBr.out⟩
   rw [HC.out, Hcl.out, List.drop_of_length_le (by have := HK.out.len; omega)]; rfl
theorem rwalk_any : ∀ (y : Nd) (S : Nat → Prop) (x : List Value) (bx : Nat) (w : World), RNd w S x y → (∀ k, S k → k < w.heap.size) → w.cell? ⟨bx, 0, none⟩ = some (selfC bx) →
  Calls Tryz.prog 79 #[.agg x.toArray, .pointer (some ⟨bx, 0, none⟩)] w fun e w' => e = .returned (.int .i64 (ckNd y)) ∧ Below w.heap.size w w' := by
 refine Nd.ind fun k a f no ks ih => ?_
 intro S x bx w hR hS hbx
 obtain ⟨A, n, c, rfl, hnc, hc, h1, h2, h3, hK⟩ := hR.open_
 obtain ⟨nm, op, ver, slot, fl, on⟩ := a
 by_cases hk : k < 1 ∨ 5 < k
 ·exact rwalk_out nm fl f op ver slot k on no A n c ks w bx hk
 by_cases h12 : k = 1 ∨ k = 2
 ·rcases h12 with rfl | rfl
  ·exact rwalk_leaf1 nm fl f op ver slot on no A n c ks w bx hnc hc h1 h2 hK.len
  ·exact rwalk_leaf2 nm fl f op ver slot on no A n c ks w bx hnc hc h1 h2 hK.len
 by_cases ha : nm = [] ∧ op = 0 ∧ ver = 0 ∧ slot = 0 ∧ fl = [] ∧ on = false
 ·obtain ⟨rfl, rfl, rfl, rfl, rfl, rfl⟩ := ha
  rcases (show k = 3 ∨ k = 4 ∨ k = 5 by omega) with rfl | rfl | rfl
  ·by_cases hf : f = [] ∧ no = false
   ·obtain ⟨rfl, rfl⟩ := hf
    exact rwalk_kids3 ks S A n c bx w ih hnc hc hK hS hbx
   ·exact rwalk_flag3 f no A n c ks w bx hf
  ·by_cases hf : f = [] ∧ no = false
   ·obtain ⟨rfl, rfl⟩ := hf
    exact rwalk_kids4 ks S A n c bx w ih hnc hc hK hS hbx
   ·exact rwalk_flag4 f no A n c ks w bx hf
  ·cases hn : isName f
   ·exact rwalk_name f no A n c ks w bx h3 hn
   ·exact rwalk_kids5 f no h3 hn ks S A n c bx w ih hnc hc hK hS hbx
 ·exact rwalk_bad nm fl f op ver slot k on no A n c ks w bx (by omega) (by omega) ha
end
/- quartermasterref.CheckNeed, walked. -/
section
open Go.RowKit Qm

set_option maxRecDepth 100000 in
set_option maxHeartbeats 1600000 in
theorem rcheckNeed_any (y : Nd) (S : Nat → Prop) (x : List Value) (w : World) (hR : RNd w S x y) (hS : ∀ k, S k → k < w.heap.size) :
  Calls Tryz.prog 51 #[.agg x.toArray] w fun e w' => e = .returned (.int .i64 (ckNeed y)) ∧ Below w.heap.size w w' := by
 have hm := szd_many y
 have hle := szd_le y 4 (by omega)
 have HC : Hid (ckNeed y = if 20 < (szd y 4).1 ∨ 4 < (szd y 4).2 then 2 else ckNd y) := qh (by unfold ckNeed; simp only [hm])
 have hz := fun wx hw h => sized_any y S x 4 wx hw h (by omega)
 clear hm
 have hb0 : Below w.heap.size w (w.alloc (.cells x.toArray 40)) := (Below.refl _ w).alloc (qr _) _
 have HB := qh hb0
 have HW := qh (Whole.new w _ 40 x rfl)
 have Hwk := qh (fun bx wx hw h hc => rwalk_any y S x bx wx hw h hc)
 have HR := qh hR; have HS := qh hS
 generalize szd y 4 = q at HC hz hle
 generalize ckNeed y = R at HC ⊢
 generalize ckNd y = v at HC Hwk
 obtain ⟨m, d⟩ := q
 simp only at HC hz hle
 obtain ⟨m1, m2, d1, d2⟩ := hle
 obtain ⟨k, a, f, no, ks⟩ := y
 obtain ⟨A, n, c, rfl, -⟩ := hR.open_
 clear hR hS hb0
 unfold ndRow at HB HW HR hz Hwk ⊢
 have hz4 : ((4 : Nat) : Int) = 4 := rfl
 simp only [hz4] at hz
 have Hz := qh (hz _ (HR.out.under HB.out HS.out) fun k hk => ql (HS.out k hk) HB.out.size)
 clear hz
 have henter : ∀ (args : Array Value) (W : World), (callFunc 79 args).run Tryz.prog W = .ok (.enter 79 args) W := fun args W => by kernel_rfl
 by_cases hmm : 20 < m
 ·have HC2 := qh (HC.out.trans (if_pos (.inl hmm)))
  go_enter Tryz.func51, Tryz.ntmps51
  go_wp2_with (first | (go_at_call 78; refine Hz.out.mono ?_; rintro e w1 ⟨rfl, hb1⟩; refine Hid.out ?_))
  refine qh ?_
  have HB1 := qh (HB.out.trans (hb1.mono HB.out.size))
  clear hb1
  go_wp2
  go_ret
  exact ⟨ret_int HC2.out.symm, HB1.out⟩
 have hmm' : decide (20 < m) = false := by simpa using hmm
 by_cases hdd : 4 < d
 ·have HC2 := qh (HC.out.trans (if_pos (.inr hdd)))
  go_enter Tryz.func51, Tryz.ntmps51
  go_wp2_with (first | (go_at_call 78; refine Hz.out.mono ?_; rintro e w1 ⟨rfl, hb1⟩; refine Hid.out ?_))
  refine qh ?_
  have HB1 := qh (HB.out.trans (hb1.mono HB.out.size))
  clear hb1
  go_wp2
  go_ret
  exact ⟨ret_int HC2.out.symm, HB1.out⟩
 have hdd' : decide (4 < d) = false := by simpa using hdd
 have HC2 := qh (HC.out.trans (if_neg (by omega)))
 go_enter Tryz.func51, Tryz.ntmps51
 go_wp2_with (first | (go_at_call 78; refine Hz.out.mono ?_; rintro e w1 ⟨rfl, hb1⟩; refine Hid.out ?_))
 refine qh ?_
 have HB1 := qh (HB.out.trans (hb1.mono HB.out.size))
 have HW1 := qh (HW.out.below hb1 HW.out.lt); clear hb1
 have g0 := HW1.out.cell 0; have g1 := HW1.out.cell 1; have g2 := HW1.out.cell 2; have g3 := HW1.out.cell 3; have g4 := HW1.out.cell 4
 have g5 := HW1.out.cell 5; have g6 := HW1.out.cell 6; have g7 := HW1.out.cell 7; have g8 := HW1.out.cell 8; have g9 := HW1.out.cell 9
 simp only [qgz, qgs] at g0 g1 g2 g3 g4 g5 g6 g7 g8 g9
 have hlt := HW1.out.lt
 have hbl : Below w1.heap.size w1 (w1.alloc (.cells #[selfC w1.heap.size] 96)) := (Below.refl _ _).alloc (qr _) _
 have HB2 := qh (HB1.out.trans (hbl.mono HB1.out.size))
 have Hwk2 := qh (Hwk.out w1.heap.size _ (HR.out.under HB2.out HS.out) (fun k hk => ql (HS.out k hk) HB2.out.size) ((Whole.new w1 _ 96 [selfC w1.heap.size] rfl).cell 0))
 clear hbl Hwk
 unfold selfC at Hwk2 HB2
 go_wp2_with (first | (go_at_call 79; refine Hwk2.out.mono ?_; rintro e w3 ⟨rfl, hb3⟩; refine Hid.out ?_))
 refine qh ?_
 have HB3 := qh (HB2.out.trans (hb3.mono HB2.out.size))
 clear hb3
 go_wp2
 go_ret
 exact ⟨ret_int HC2.out.symm, HB3.out⟩
end
/- The other telling of what fits, walked. -/
section
open Go.RowKit Qm

set_option maxHeartbeats 3200000 in
theorem rfits_any (s f : ByteArray) (op ver slot v sl : Int) (on : Bool) (w : World) :
  Calls Tryz.prog 83 #[atv s op ver slot f on, .int .i64 v, .int .i64 sl] w fun e w' => e = .returned (.bool (fitsP (atOf s op ver slot f on) v sl)) ∧ Below w.heap.size w w' := by
 have BN := qh (Boxed.new w s op ver slot f on (t := 37))
 unfold atv
 by_cases z : slot = 0
 ·subst z
  by_cases a1 : op = 1
  ·subst a1
   go_enter Tryz.func83, Tryz.ntmps83
   go_wp2
   go_ret
   exact ⟨ret_bool (by rw [Bool.eq_iff_iff]; simp [fitsP, atOf, *] <;> exact decide_eq_true_iff.symm), (Below.refl _ _).alloc (qr _) _⟩
  ·have b1 : (op == 1) = false := by simpa using a1
   by_cases a2 : op = 2
   ·subst a2
    go_enter Tryz.func83, Tryz.ntmps83
    go_wp2
    go_ret
    exact ⟨ret_bool (by rw [Bool.eq_iff_iff]; simp [fitsP, atOf, *] <;> exact decide_eq_true_iff.symm), (Below.refl _ _).alloc (qr _) _⟩
   ·have b2 : (op == 2) = false := by simpa using a2
    by_cases a3 : op = 3
    ·subst a3
     go_enter Tryz.func83, Tryz.ntmps83
     go_wp2
     go_ret
     exact ⟨ret_bool (by rw [Bool.eq_iff_iff]; simp [fitsP, atOf, *] <;> exact decide_eq_true_iff.symm), (Below.refl _ _).alloc (qr _) _⟩
    ·have b3 : (op == 3) = false := by simpa using a3
     go_enter Tryz.func83, Tryz.ntmps83
     go_wp2
     go_ret
     exact ⟨ret_bool (by rw [Bool.eq_iff_iff]; simp [fitsP, atOf, *] <;> exact decide_eq_true_iff.symm), (Below.refl _ _).alloc (qr _) _⟩
 ·have z1 : (slot == 0) = false := by simpa using z
  by_cases y : slot = sl
  ·have y1 : (slot == sl) = true := by simpa using y
   by_cases a1 : op = 1
   ·subst a1
    go_enter Tryz.func83, Tryz.ntmps83
    go_wp2
    go_ret
    exact ⟨ret_bool (by rw [Bool.eq_iff_iff]; simp [fitsP, atOf, *] <;> exact decide_eq_true_iff.symm), (Below.refl _ _).alloc (qr _) _⟩
   ·have b1 : (op == 1) = false := by simpa using a1
    by_cases a2 : op = 2
    ·subst a2
     go_enter Tryz.func83, Tryz.ntmps83
     go_wp2
     go_ret
     exact ⟨ret_bool (by rw [Bool.eq_iff_iff]; simp [fitsP, atOf, *] <;> exact decide_eq_true_iff.symm), (Below.refl _ _).alloc (qr _) _⟩
    ·have b2 : (op == 2) = false := by simpa using a2
     by_cases a3 : op = 3
     ·subst a3
      go_enter Tryz.func83, Tryz.ntmps83
      go_wp2
      go_ret
      exact ⟨ret_bool (by rw [Bool.eq_iff_iff]; simp [fitsP, atOf, *] <;> exact decide_eq_true_iff.symm), (Below.refl _ _).alloc (qr _) _⟩
     ·have b3 : (op == 3) = false := by simpa using a3
      go_enter Tryz.func83, Tryz.ntmps83
      go_wp2
      go_ret
      exact ⟨ret_bool (by rw [Bool.eq_iff_iff]; simp [fitsP, atOf, *] <;> exact decide_eq_true_iff.symm), (Below.refl _ _).alloc (qr _) _⟩
  ·have y1 : (slot == sl) = false := by simpa using y
   by_cases a1 : op = 1
   ·subst a1
    go_enter Tryz.func83, Tryz.ntmps83
    go_wp2
    go_ret
    exact ⟨ret_bool (by rw [Bool.eq_iff_iff]; simp [fitsP, atOf, *] <;> exact decide_eq_true_iff.symm), (Below.refl _ _).alloc (qr _) _⟩
   ·have b1 : (op == 1) = false := by simpa using a1
    by_cases a2 : op = 2
    ·subst a2
     go_enter Tryz.func83, Tryz.ntmps83
     go_wp2
     go_ret
     exact ⟨ret_bool (by rw [Bool.eq_iff_iff]; simp [fitsP, atOf, *] <;> exact decide_eq_true_iff.symm), (Below.refl _ _).alloc (qr _) _⟩
    ·have b2 : (op == 2) = false := by simpa using a2
     by_cases a3 : op = 3
     ·subst a3
      go_enter Tryz.func83, Tryz.ntmps83
      go_wp2
      go_ret
      exact ⟨ret_bool (by rw [Bool.eq_iff_iff]; simp [fitsP, atOf, *] <;> exact decide_eq_true_iff.symm), (Below.refl _ _).alloc (qr _) _⟩
     ·have b3 : (op == 3) = false := by simpa using a3
      go_enter Tryz.func83, Tryz.ntmps83
      go_wp2
      go_ret
      exact ⟨ret_bool (by rw [Bool.eq_iff_iff]; simp [fitsP, atOf, *] <;> exact decide_eq_true_iff.symm), (Below.refl _ _).alloc (qr _) _⟩
end
/- The other telling of an atom's text, walked. -/
section
open Go.RowKit Qm Go.ChangeMaps

end
/- The other telling of a number, walked. -/
section
open Go.RowKit Qm

end
/- The other telling of what a text says: quartermasterref.ReadAtom, walked. -/
section
open Go.RowKit Qm

section
variable {w wx : World} {op ver slot : Int} {f : ByteArray} {on : Bool}
end
end
/- quartermasterref.ReadNeed: the state of its loop. (Of the shelf: Tryz.strings_TrimSuffix Tryz.strings_HasPrefix Tryz.strings_HasSuffix) -/
section
open Go.RowKit Qm

structure Rw (w : World) (ws : List Qm.W) (wx : World) : Prop where
 res : Whole wx w.heap.size 40 [.int .i64 0, .string ⟨#[]⟩, .int .i64 0, .int .i64 0, .int .i64 0, .string ⟨#[]⟩, .bool false, .string ⟨#[]⟩, .bool false, .slice none 0 0]
 words : Whole wx (w.heap.size + 1 + 1 + 1) 9 (strs ws)
 bel : Below w.heap.size w wx
 sz : w.heap.size + 1 + 1 + 1 + 1 ≤ wx.heap.size
section
variable {w wx wy : World} {ws : List Qm.W}
end
structure Oaf (BO b8 m nb : Nat) (v : Value) (row : List Value) (w8 : World) : Prop where
 cell : ∀ i, i < 10 → w8.cell? ⟨b8, m * 10 + i, none⟩ = ([.int .i64 0, .string ⟨#[]⟩, .int .i64 0, .int .i64 0, .int .i64 0, .string ⟨#[]⟩, .bool false, .string ⟨#[]⟩, .bool false, .slice none 0 0] : List Value)[i]? ∧ w8.frozen? ⟨b8, m * 10 + i, none⟩ = false
 lt : b8 < w8.heap.size
 n : Whole w8 nb 40 row
 o : Whole w8 BO 38 [v]
 ne : b8 ≠ BO
end
/- quartermasterref.ReadNeed: the round of its loop. (Of the shelf: Tryz.strings_TrimSuffix Tryz.strings_HasPrefix Tryz.strings_HasSuffix) -/
section
open Go.RowKit Qm

def loopIn : Code → Option Code
 | .loop b => some b
 | .seq a b => match loopIn a with | some x => some x | none => loopIn b
 | .block _ c => loopIn c
 | .cond _ a b => match loopIn a with | some x => some x | none => loopIn b
 | .scope c => loopIn c
 | _ => none
def roundOf (f : Func) : Code := match f.body with | some c => (match loopIn c with | some b => b | none => .skip) | none => .skip
end
/- A map from strings to bools all of whose entries hold: a set of words. -/
section
open Go.RowKit Qm

def StrSet (P : Program) (w : World) (b : Nat) (K : Qm.W → Bool) (m : Nat) : Prop :=
 ∃ D : DataW Unit, w.ownsMap P 9 (plainElem P 4) b m D ∧ Maps.size D = m ∧ ∀ x : Qm.W, x.length ≤ maxLen → Maps.has D (.string x) = K x ∧ D.atKey (.string x) (.lit (.bool false)) = .lit (.bool (K x))

theorem skey_ {P : Program} {k : TypeId} (hk : P.underlying k = some .string) {x : Qm.W} (hx : x.length ≤ maxLen) : keyOf P k (.string ⟨x.toArray⟩) = some (.string x) := by
 rw [WideMaps.keyOf_string_mk hk (by simpa [ByteArray.size] using hx)]
section
variable {P : Program} {w w' : World} {b m : Nat} {K : Qm.W → Bool}
theorem StrSet.made (P : Program) (w : World) : StrSet P (w.alloc (.map #[] 0)) w.heap.size (fun _ => false) 0 :=
 ⟨.map [], World.ownsMap_made w P 9 _, rfl, fun x _ => ⟨rfl, rfl⟩⟩
theorem StrSet.kept {row : Option Nat} (h : StrSet P w b K m) (hg : w.grownBy w' row) (hne : some b ≠ row) : StrSet P w' b K m := by
 obtain ⟨D, h1, h2⟩ := h
 exact ⟨D, h1.kept hg hne, h2⟩
theorem StrSet.lt (h : StrSet P w b K m) : b < w.heap.size := by obtain ⟨D, h1, _⟩ := h; exact h1.lt
theorem StrSet.put (h : StrSet P w b K m) (hk : P.underlying 9 = some .string) (he : P.underlying 4 = some .bool) {t : TypeId} (ht : P.underlying t = some (.map 9 4)) {x : Qm.W} (hx : x.length ≤ maxLen) (hm : m < maxLen) :
  ∃ w', (Instr.mapUpdate t (.map (some b)) (.string ⟨x.toArray⟩) (.bool true)).run P w = .ok () w' ∧ StrSet P w' b (fun y => y == x || K y) (if K x then m else m + 1) ∧ w.grownBy w' (some b) ∧ w'.heap.size = w.heap.size := by
 obtain ⟨D, h1, h2, h3⟩ := h
 have Kd := Maps.string_keyed (P := P) hk
 have hkey := skey_ (P := P) hk hx
 have hkl : WideAt.IsKeyLit (.string x) := Kd.key hkey
 obtain ⟨w', hrun, h4, h5⟩ := h1.store Kd ht hm hkey (plainElem_bool he true)
 have htd := h1.tidy Kd
 have hsz : Maps.size (D.put (.string x) (.lit (.bool true))) = if K x then m else m + 1 := by
  rw [Maps.size_put htd, (h3 x hx).1, h2]
 refine ⟨w', hrun, ⟨_, ?_, hsz, fun y hy => ?_⟩, h5.grown, ?_⟩
 ·have e : Maps.size (D.put (.string x) (.lit (.bool true))) ≤ if K x then m else m + 1 := by rw [hsz]; exact qr _
  obtain ⟨es, clock, hb, F, hs, hD⟩ := h4
  refine ⟨es, clock, hb, F, ?_, hD⟩
  rw [hD] at e
  simpa [Maps.size, length_sorted] using e
 ·by_cases hyx : y = x
  ·subst hyx
   rw [Maps.has_put_same htd.isMap hkl, Maps.atKey_put_same htd.isMap hkl]
   simp
  ·have hne : (Lit.string y) ≠ .string x := by intro e; injection e with e; exact hyx e
   rw [Maps.has_put_other hne, Maps.atKey_put_other hne]
   have : (y == x) = false := by simpa using hyx
   show _ = (y == x || K y) ∧ _ = DataW.lit (.bool (y == x || K y))
   rw [this, Bool.false_or]
   exact h3 y hy
 ·obtain ⟨es, clock, es', clock', _, rfl⟩ := h5
  simp [ChangeMaps.setBlock]
end
end
end Go.Proofs.YtpipgffbhpnmkaaGreatDoor
