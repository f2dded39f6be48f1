/- Parts of the proof: walks and plain laws, side by side. -/
import Derived.Test.YtpipgffbhpnmkaaGreatDoorM3
import Derived.Test.YtpipgffbhpnmkaaGreatDoorM11
import Derived.Test.YtpipgffbhpnmkaaGreatDoorM9
import Derived.Test.YtpipgffbhpnmkaaGreatDoorM8
import Derived.Test.YtpipgffbhpnmkaaGreatDoorM7
set_option linter.unusedVariables false
set_option linter.unusedSimpArgs false
set_option linter.unusedSectionVars false
/- atom.Fits, walked. -/
namespace Go.Proofs.YtpipgffbhpnmkaaGreatDoor
open Go.RowKit Qm

set_option maxHeartbeats 3200000 in
theorem fits_any (s f : ByteArray) (op ver slot v sl : Int) (on : Bool) (w : World) :
  Calls Tryz.prog 67 #[atv s op ver slot f on, .int .i64 v, .int .i64 sl] w fun e w' => e = .returned (.bool (fitsP (atOf s op ver slot f on) v sl)) ∧ Below w.heap.size w w' := by
 have BN := qh (Boxed.new w s op ver slot f on (t := 37))
 unfold atv
 by_cases z : slot = 0
 ·subst z
  by_cases a1 : op = 1
  ·subst a1
   go_enter Tryz.func67, Tryz.ntmps67
   go_wp2
   go_ret
   exact ⟨ret_bool (by rw [Bool.eq_iff_iff]; simp [fitsP, atOf, *] <;> exact decide_eq_true_iff.symm), (Below.refl _ _).alloc (qr _) _⟩
  ·have b1 : (op == 1) = false := by simpa using a1
   by_cases a2 : op = 2
   ·subst a2
    go_enter Tryz.func67, Tryz.ntmps67
    go_wp2
    go_ret
    exact ⟨ret_bool (by rw [Bool.eq_iff_iff]; simp [fitsP, atOf, *] <;> exact decide_eq_true_iff.symm), (Below.refl _ _).alloc (qr _) _⟩
   ·have b2 : (op == 2) = false := by simpa using a2
    by_cases a3 : op = 3
    ·subst a3
     go_enter Tryz.func67, Tryz.ntmps67
     go_wp2
     go_ret
     exact ⟨ret_bool (by rw [Bool.eq_iff_iff]; simp [fitsP, atOf, *] <;> exact decide_eq_true_iff.symm), (Below.refl _ _).alloc (qr _) _⟩
    ·have b3 : (op == 3) = false := by simpa using a3
     go_enter Tryz.func67, Tryz.ntmps67
     go_wp2
     go_ret
     exact ⟨ret_bool (by rw [Bool.eq_iff_iff]; simp [fitsP, atOf, *] <;> exact decide_eq_true_iff.symm), (Below.refl _ _).alloc (qr _) _⟩
 ·have z1 : (slot != 0) = true := by simpa using z
  by_cases y : slot = sl
  ·have y1 : (slot != sl) = false := by simpa using y
   by_cases a1 : op = 1
   ·subst a1
    go_enter Tryz.func67, Tryz.ntmps67
    go_wp2
    go_ret
    exact ⟨ret_bool (by rw [Bool.eq_iff_iff]; simp [fitsP, atOf, *] <;> exact decide_eq_true_iff.symm), (Below.refl _ _).alloc (qr _) _⟩
   ·have b1 : (op == 1) = false := by simpa using a1
    by_cases a2 : op = 2
    ·subst a2
     go_enter Tryz.func67, Tryz.ntmps67
     go_wp2
     go_ret
     exact ⟨ret_bool (by rw [Bool.eq_iff_iff]; simp [fitsP, atOf, *] <;> exact decide_eq_true_iff.symm), (Below.refl _ _).alloc (qr _) _⟩
    ·have b2 : (op == 2) = false := by simpa using a2
     by_cases a3 : op = 3
     ·subst a3
      go_enter Tryz.func67, Tryz.ntmps67
      go_wp2
      go_ret
      exact ⟨ret_bool (by rw [Bool.eq_iff_iff]; simp [fitsP, atOf, *] <;> exact decide_eq_true_iff.symm), (Below.refl _ _).alloc (qr _) _⟩
     ·have b3 : (op == 3) = false := by simpa using a3
      go_enter Tryz.func67, Tryz.ntmps67
      go_wp2
      go_ret
      exact ⟨ret_bool (by rw [Bool.eq_iff_iff]; simp [fitsP, atOf, *] <;> exact decide_eq_true_iff.symm), (Below.refl _ _).alloc (qr _) _⟩
  ·have y1 : (slot != sl) = true := by simpa using y
   go_enter Tryz.func67, Tryz.ntmps67
   go_wp2
   go_ret
   exact ⟨ret_bool (by unfold fitsP; rw [if_pos ⟨z, y⟩]), (Below.refl _ _).alloc (qr _) _⟩

end Go.Proofs.YtpipgffbhpnmkaaGreatDoor

/- tree.Means, walked. -/
namespace Go.Proofs.YtpipgffbhpnmkaaGreatDoor
open Go.RowKit Qm

theorem ckTree_len {ps : List Pk} (h : ckTree ps = 0) : ps.length ≤ 8 := by
 unfold ckTree at h
 split at h
 ·cases h
 ·omega
structure Mx (w : World) (A : Option Addr) (n c : Nat) (av : List Value) (wr : World) : Prop where
 below : Below w.heap.size w wr
 t : Whole wr w.heap.size 24 [.slice A n c]
 a : Whole wr (w.heap.size + 1) 37 av
end Go.Proofs.YtpipgffbhpnmkaaGreatDoor

namespace Qm
open Go

/-! The library's Cut and SplitN are cutAt and cut4. -/

theorem cut_one (c : UInt8) (l : W) : Lib.cut l [c] = match cutAt (· == c) l with | none => (l, [], false) | some (a, _, d) => (a, d, true) := by
 have hi := index_cut c l
 unfold Lib.cut
 cases h : cutAt (· == c) l with
 | none => rw [h] at hi; rw [hi]; rfl
 | some t =>
  obtain ⟨a, b, d⟩ := t
  obtain ⟨e, hb, ha⟩ := of_cutAt_some h
  rw [h] at hi
  simp only [] at hi
  rw [hi, if_pos (by omega)]
  have h1 : l.take ((a.length : Int).toNat) = a := by rw [e]; simp
  have h2 : l.drop ((a.length : Int).toNat + [c].length) = d := by rw [e]; simp [List.drop_append]
  rw [h1, h2]
theorem splitK_step (c : UInt8) (k : Nat) (l : W) : Lib.splitK [c] 0 (k + 1) l = match cutAt (· == c) l with | none => [l] | some (a, _, d) => a :: Lib.splitK [c] 0 k d := by
 have hi := index_cut c l
 rw [Lib.splitK]
 cases h : cutAt (· == c) l with
 | none => rw [h] at hi; rw [hi]; rfl
 | some t =>
  obtain ⟨a, b, d⟩ := t
  obtain ⟨e, hb, ha⟩ := of_cutAt_some h
  rw [h] at hi
  simp only [] at hi
  have h0 : ((a.length : Int) == -1) = false := by simp
  have h1 : l.take ((a.length : Int).toNat + 0) = a := by rw [e]; simp
  have h2 : l.drop ((a.length : Int).toNat + [c].length) = d := by rw [e]; simp [List.drop_append]
  rw [hi, h0, h1, h2]; rfl
theorem splitK_len (c : UInt8) : ∀ (k : Nat) (l : W), (Lib.splitK [c] 0 k l).length ≤ k + 1
 | 0, l => by simp [Lib.splitK]
 | k + 1, l => by
  rw [splitK_step]
  cases cutAt (· == c) l with
  | none => simp
  | some t =>
   obtain ⟨a, b, d⟩ := t
   have := splitK_len c k d
   simp only [List.length_cons]; omega
theorem splitN_some {l a b c d e : W} (h : cut4 l = some (a, b, c, d, e)) : Lib.splitK [32] 0 (min 5 (l.length + 1) - 1) l = [a, b, c, d, e] := by
 have hl : 4 ≤ l.length := by rw [cut4_back h]; simp; omega
 rw [show min 5 (l.length + 1) - 1 = 3 + 1 by omega]
 unfold cut4 at h
 split at h
 ·cases h
 ·rename_i a' x1 l1 h1
  split at h
  ·cases h
  ·rename_i b' x2 l2 h2
   split at h
   ·cases h
   ·rename_i c' x3 l3 h3
    split at h
    ·cases h
    ·rename_i d' x4 l4 h4
     simp only [Option.some.injEq, Prod.mk.injEq] at h
     obtain ⟨rfl, rfl, rfl, rfl, rfl⟩ := h
     rw [splitK_step, h1]
     simp only []
     rw [splitK_step, h2]
     simp only []
     rw [splitK_step, h3]
     simp only []
     rw [splitK_step, h4]
     rfl
theorem splitN_none {l : W} (h : cut4 l = none) : (Lib.splitK [32] 0 (min 5 (l.length + 1) - 1) l).length ≠ 5 := by
 by_cases hl : l.length < 4
 ·have := splitK_len 32 (min 5 (l.length + 1) - 1) l
  omega
 ·rw [show min 5 (l.length + 1) - 1 = 3 + 1 by omega, splitK_step]
  unfold cut4 at h
  cases h1 : cutAt (· == 32) l with
  | none => simp
  | some t1 =>
   obtain ⟨a, x1, l1⟩ := t1
   rw [h1] at h
   simp only [] at h ⊢
   rw [splitK_step]
   cases h2 : cutAt (· == 32) l1 with
   | none => simp
   | some t2 =>
    obtain ⟨b, x2, l2⟩ := t2
    rw [h2] at h
    simp only [] at h ⊢
    rw [splitK_step]
    cases h3 : cutAt (· == 32) l2 with
    | none => simp
    | some t3 =>
     obtain ⟨c, x3, l3⟩ := t3
     rw [h3] at h
     simp only [] at h ⊢
     rw [splitK_step]
     cases h4 : cutAt (· == 32) l3 with
     | none => simp
     | some t4 =>
      obtain ⟨d, x4, l4⟩ := t4
      rw [h4] at h
      cases h
end Qm

/- strings.Cut at a line's end, strings.SplitN into five. -/
namespace Go.Proofs.YtpipgffbhpnmkaaGreatDoor
open Go.RowKit Qm

theorem cut_some {l a d : Qm.W} {x : UInt8} (h : cutAt (· == 10) l = some (a, x, d)) (w : World) (hs : l.length < 4294967281) (hM : MaxW w) :
  Calls Tryz.prog 87 #[.string ⟨l.toArray⟩, .string ⟨#[10]⟩] w fun e w' => e = .returned (.tuple #[.string ⟨a.toArray⟩, .string ⟨d.toArray⟩, .bool true]) ∧ Below w.heap.size w w' := by
 obtain ⟨m, hm⟩ := hM
 have hc := cut_one 10 l
 rw [h] at hc
 refine (Tryz.strings_Cut ⟨l.toArray⟩ ⟨#[10]⟩ m w (by rw [bsz]; exact hs) hm).mono ?_
 rintro e w' ⟨he, n, rfl⟩
 have hc' : Lib.cut (⟨l.toArray⟩ : ByteArray).data.toList (⟨#[10]⟩ : ByteArray).data.toList = (a, d, true) := hc
 rw [hc'] at he
 exact ⟨he, below_drewN (Below.refl _ _) n⟩
theorem cut_none {l : Qm.W} (h : cutAt (· == 10) l = none) (w : World) (hs : l.length < 4294967281) (hM : MaxW w) :
  Calls Tryz.prog 87 #[.string ⟨l.toArray⟩, .string ⟨#[10]⟩] w fun e w' => e = .returned (.tuple #[.string ⟨l.toArray⟩, .string ⟨#[]⟩, .bool false]) ∧ Below w.heap.size w w' := by
 obtain ⟨m, hm⟩ := hM
 have hc := cut_one 10 l
 rw [h] at hc
 refine (Tryz.strings_Cut ⟨l.toArray⟩ ⟨#[10]⟩ m w (by rw [bsz]; exact hs) hm).mono ?_
 rintro e w' ⟨he, n, rfl⟩
 have hc' : Lib.cut (⟨l.toArray⟩ : ByteArray).data.toList (⟨#[10]⟩ : ByteArray).data.toList = (l, [], false) := hc
 rw [hc'] at he
 exact ⟨he, below_drewN (Below.refl _ _) n⟩

theorem splitN_bytes (l : Qm.W) (k : Nat) : (Lib.splitB ⟨#[32]⟩ 0 k ⟨l.toArray⟩).map (·.data.toList) = Lib.splitK [32] 0 k l := Lib.splitB_data ⟨#[32]⟩ 0 k ⟨l.toArray⟩
theorem splitN_five {l a b c d f : Qm.W} (h : cut4 l = some (a, b, c, d, f)) (w : World) (hs : l.length < 4294967281) (hM : MaxW w) :
  Calls Tryz.prog 88 #[.string ⟨l.toArray⟩, .string ⟨#[32]⟩, .int .i64 5] w fun e w' => e = .returned (.slice (some ⟨w.heap.size, 0, none⟩) 5 5) ∧ w' = w.alloc (.cells (strs [a, b, c, d, f]).toArray 9) := by
 obtain ⟨m, hm⟩ := hM
 have hp := splitN_some h
 have hl : 4 ≤ l.length := by rw [cut4_back h]; simp; omega
 have hb := splitN_bytes l (min 5 (l.length + 1) - 1)
 rw [hp] at hb
 refine (Tryz.strings_SplitN ⟨l.toArray⟩ ⟨#[32]⟩ 5 m w (by rw [bsz]; exact hs) hm (by decide) (by decide) (by decide)).mono ?_
 rw [bsz]
 rintro e w' ⟨he, hw⟩
 have hn : min 5 (l.length + 1) = 5 := by omega
 have hlen : (Lib.splitB ⟨#[32]⟩ 0 (min 5 (l.length + 1) - 1) ⟨l.toArray⟩).length = 5 := by rw [← List.length_map (f := (·.data.toList)), hb]; rfl
 rw [hlen, hn] at he
 refine ⟨he, ?_⟩
 rw [hw]
 unfold Lib.cellsOf
 rw [hlen, strs_of hb, hn]
 simp
theorem splitN_not {l : Qm.W} (h : cut4 l = none) (w : World) (hs : l.length < 4294967281) (hM : MaxW w) :
  Calls Tryz.prog 88 #[.string ⟨l.toArray⟩, .string ⟨#[32]⟩, .int .i64 5] w fun e w' => (∃ m cap : Nat, e = .returned (.slice (some ⟨w.heap.size, 0, none⟩) m cap) ∧ m ≠ 5 ∧ m ≤ 5) ∧ Below w.heap.size w w' := by
 obtain ⟨m, hm⟩ := hM
 have hp := splitN_none h
 have hb := splitN_bytes l (min 5 (l.length + 1) - 1)
 have hk := splitK_len 32 (min 5 (l.length + 1) - 1) l
 refine (Tryz.strings_SplitN ⟨l.toArray⟩ ⟨#[32]⟩ 5 m w (by rw [bsz]; exact hs) hm (by decide) (by decide) (by decide)).mono ?_
 rw [bsz]
 rintro e w' ⟨he, rfl⟩
 have hlen : (Lib.splitB ⟨#[32]⟩ 0 (min 5 (l.length + 1) - 1) ⟨l.toArray⟩).length = (Lib.splitK [32] 0 (min 5 (l.length + 1) - 1) l).length := by rw [← List.length_map (f := (·.data.toList)), hb]
 exact ⟨⟨_, _, he, by rw [hlen]; exact hp, by rw [hlen]; omega⟩, (Below.refl _ _).alloc (qr _) _⟩
end Go.Proofs.YtpipgffbhpnmkaaGreatDoor

/- What tree.Parse gathers: the box of the tree, from the next block on the packages. -/
namespace Go.Proofs.YtpipgffbhpnmkaaGreatDoor
open Go.RowKit Qm

theorem RPk.far {D : Nat → Prop} {w w' : World} {S : Nat → Prop} {x : List Value} {p : Pk} (h : RPk w S x p) (hf : Far D w w') (hS : ∀ k, S k → k < w.heap.size ∧ ¬ D k) : RPk w' S x p :=
 h.keep fun _ hp => hf.cell (hS _ hp).1 (hS _ hp).2
structure Td (w : World) (A : Option Addr) (c : Nat) (cs : List (List Value)) (ps : List Pk) (wx : World) : Prop where
 below : Below w.heap.size w wx
 t : Whole wx w.heap.size 24 [.slice A ps.length c]
 len : cs.length = ps.length
 own : wx.ownsRow (w.heap.size + 1) 42 14 (.slice A ps.length c) ps.length cs.flatten
 pk : ∀ (j : Nat) (x : List Value) (y : Pk), cs[j]? = some x → ps[j]? = some y → RPk wx (fun i => w.heap.size + 1 ≤ i ∧ i < wx.heap.size ∧ (Value.slice A ps.length c).ownBlock ≠ some i) x y
section
variable {w wx wy : World} {A : Option Addr} {c : Nat} {cs : List (List Value)} {ps : List Pk}
theorem Td.size (h : Td w A c cs ps wx) : w.heap.size + 1 ≤ wx.heap.size := h.t.lt
theorem Td.new (w : World) : Td w none 0 [] [] (w.alloc (.cells #[.slice none 0 0] 24)) :=
 ⟨(Below.refl _ w).alloc (qr _) _, Whole.new w _ _ [.slice none 0 0] rfl, rfl, World.ownsRow_nil _ _ _ _, fun j x y h _ => by simp at h⟩
theorem Td.move (h : Td w A c cs ps wx) (hb : Below wx.heap.size wx wy) : Td w A c cs ps wy where
 below := h.below.trans (hb.mono h.below.size)
 t := h.t.below hb h.t.lt
 len := h.len
 own := (Far.of_below (fun _ => False) hb).own h.own fun _ _ h => h
 pk := fun j x y h1 h2 => ((h.pk j x y h1 h2).far (Far.of_below (fun _ => False) hb) fun i hi => ⟨hi.2.1, fun h => h⟩).more fun i hi => ⟨hi.1, ql hi.2.1 hb.size, hi.2.2⟩
theorem Td.push (h : Td w A c cs ps wx) {x : List Value} {y : Pk} {A' : Option Addr} {c' : Nat}
  (hx : RPk wx (fun i => w.heap.size + 1 ≤ i ∧ i < wx.heap.size ∧ (Value.slice A ps.length c).ownBlock ≠ some i) x y)
  (hown : wy.ownsRow (w.heap.size + 1) 42 14 (.slice A' (ps.length + 1) c') (ps.length + 1) (cs.flatten ++ x)) (hg : wx.grownBy wy (Value.slice A ps.length c).ownBlock)
  (hv : (Value.slice A' (ps.length + 1) c').ownBlock = (Value.slice A ps.length c).ownBlock ∨ (Value.slice A' (ps.length + 1) c').ownBlock = some wx.heap.size) :
  Td w A' c' (cs ++ [x]) (ps ++ [y]) (wy.setCell ⟨w.heap.size, 0, none⟩ (.slice A' (ps.length + 1) c')) := by
 have hD : ∀ i, some i = (Value.slice A ps.length c).ownBlock → w.heap.size + 1 ≤ i := fun i hi => (h.own.lt i hi.symm).1
 have f1 : Far (fun i => w.heap.size + 1 ≤ i ∧ some i = (Value.slice A ps.length c).ownBlock) wx wy := Far.of_grown hg fun i hi => ⟨hD i hi, hi⟩
 have f2 : Far (fun i => i = w.heap.size) wy (wy.setCell ⟨w.heap.size, 0, none⟩ (.slice A' (ps.length + 1) c')) := Far.set_ (D := fun i => i = w.heap.size) rfl 0 _
 have hlen : (ps ++ [y]).length = ps.length + 1 := by simp
 have hsz := f1.size
 have hsz2 := h.size
 have kk : ∀ (j : Nat) (x : List Value) (y : Pk), cs[j]? = some x → ps[j]? = some y → RPk wy (fun i => w.heap.size + 1 ≤ i ∧ i < wx.heap.size ∧ (Value.slice A ps.length c).ownBlock ≠ some i) x y := fun j x y h1 h2 => (h.pk j x y h1 h2).far f1 fun i hi => ⟨hi.2.1, fun e => hi.2.2 e.2.symm⟩
 have kx := hx.far f1 fun i hi => ⟨hi.2.1, fun e => hi.2.2 e.2.symm⟩
 have fin : ∀ {x2 : List Value} {y2 : Pk}, RPk wy (fun i => w.heap.size + 1 ≤ i ∧ i < wx.heap.size ∧ (Value.slice A ps.length c).ownBlock ≠ some i) x2 y2 →
   RPk (wy.setCell ⟨w.heap.size, 0, none⟩ (.slice A' (ps.length + 1) c')) (fun i => w.heap.size + 1 ≤ i ∧ i < (wy.setCell ⟨w.heap.size, 0, none⟩ (.slice A' (ps.length + 1) c')).heap.size ∧ (Value.slice A' (ps ++ [y]).length c').ownBlock ≠ some i) x2 y2 := fun hh => by
  refine (hh.far f2 fun i hi => ⟨by omega, by omega⟩).more fun i hi => ⟨hi.1, by rw [set_len]; omega, ?_⟩
  rw [hlen]
  rcases hv with e | e
  ·rw [e]; exact hi.2.2
  ·rw [e]; intro e'; injection e' with e'; omega
 exact {
  below := ⟨f2.base.os.trans (f1.base.os.trans h.below.os), f2.base.tape.trans (f1.base.tape.trans h.below.tape), f2.base.output.trans (f1.base.output.trans h.below.output), Nat.le_trans h.below.size (Nat.le_trans f1.size f2.size),
   fun i hi => (f2.block i (by omega) (by omega)).trans ((f1.block i (by omega) (fun e => by omega)).trans (h.below.block i hi))⟩
  t := by rw [hlen]; exact (f1.whole h.t (fun e => by omega)).set_ 0 _
  len := by simp [h.len]
  own := by
   rw [hlen, flat_snoc]
   exact f2.own hown fun g hg => by have := (hown.lt g hg).1; omega
  pk := fun j x' y' h1 h2 => by
   have hl := h.len
   by_cases hj : j < cs.length
   ·rw [List.getElem?_append_left hj] at h1
    rw [List.getElem?_append_left (by omega)] at h2
    have := kk j x' y' h1 h2
    exact fin this
   ·have hj' : j = cs.length := by have := (List.getElem?_eq_some_iff.1 h1).1; simp at this; omega
    subst hj'
    rw [List.getElem?_append_right (qr _), Nat.sub_self] at h1
    rw [hl, List.getElem?_append_right (qr _), Nat.sub_self] at h2
    simp only [List.getElem?_cons_zero, Option.some.injEq] at h1 h2
    subst h1 h2
    exact fin kx }
theorem Td.cap (h : Td w A c cs ps wx) : ps.length ≤ c ∧ c ≤ maxLen := by
 obtain ⟨A', c', he, h1, h2, hr⟩ := own_formK h.own
 injection he with e1 _ e2
 subst e1 e2
 exact ⟨h1, h2⟩
theorem Td.tree (h : Td w A c cs ps wx) : RTree wx (fun i => w.heap.size + 1 ≤ i ∧ i < wx.heap.size) A ps.length ps := by
 obtain ⟨A', c', he, h1, h2, hr⟩ := own_formK h.own
 injection he with e1 _ e2
 subst e1 e2
 have hrd : ∀ (j : Nat) (x : List Value) (y : Pk), cs[j]? = some x → ps[j]? = some y → RPk wx (fun i => w.heap.size + 1 ≤ i ∧ i < wx.heap.size) x y := fun j x y h1 h2 => (h.pk j x y h1 h2).more fun i hi => by omega
 refine ⟨cs, rfl, h.len, hr.more fun i hi => by have := h.own.lt i hi; omega, fun x hx => ?_, hrd⟩
 obtain ⟨j, hj, rfl⟩ := List.mem_iff_getElem.1 hx
 exact (hrd j _ (ps[j]'(by rw [← h.len]; exact hj)) (List.getElem?_eq_getElem hj) (List.getElem?_eq_getElem _)).len
end
end Go.Proofs.YtpipgffbhpnmkaaGreatDoor

namespace Qm
open Go

/-! The reader of trees, line by line. -/

def prepT (ps : List Pk) : Except (Nat × Int) (List Pk) → Except (Nat × Int) (List Pk)
 | .error e => .error e
 | .ok qs => .ok (ps ++ qs)
theorem prepT_nil (r : Except (Nat × Int) (List Pk)) : prepT [] r = r := by cases r <;> rfl
theorem prepT_snoc (ps : List Pk) (p : Pk) (r : Except (Nat × Int) (List Pk)) : prepT ps (match r with | .error e => .error e | .ok qs => .ok (p :: qs)) = prepT (ps ++ [p]) r := by
 cases r <;> simp [prepT]
theorem lines_nil {f i : Nat} : parseLines f i [] = .ok [] := by
 cases f with
 | zero => rfl
 | succ f => unfold parseLines; rw [if_pos rfl]
theorem lines_cut {f i : Nat} {s : W} (h : s ≠ []) (hc : cutAt (· == 10) s = none) : parseLines (f + 1) i s = .error (i, 1) := by
 unfold parseLines
 rw [if_neg h, hc]
theorem lines_bad {f i : Nat} {s l rest : W} {x : UInt8} {e : Int} (h : s ≠ []) (hc : cutAt (· == 10) s = some (l, x, rest)) (hp : parseLine l = .error e) : parseLines (f + 1) i s = .error (i, e) := by
 unfold parseLines
 rw [if_neg h, hc]
 simp only []
 rw [hp]
theorem lines_good {f i : Nat} {s l rest : W} {x : UInt8} {p : Pk} (h : s ≠ []) (hc : cutAt (· == 10) s = some (l, x, rest)) (hp : parseLine l = .ok p) (ps : List Pk) :
  prepT ps (parseLines (f + 1) i s) = prepT (ps ++ [p]) (parseLines f (i + 1) rest) := by
 rw [← prepT_snoc, parseLines, if_neg h, hc]
 simp only []
 rw [hp]
 cases parseLines f (i + 1) rest <;> rfl
theorem parse_many {s : W} (h : 20000 < s.length) : parseTree s = ([], 0, 2) := by unfold parseTree; rw [if_pos h]
theorem parse_err {s : W} (h : ¬ 20000 < s.length) {i : Nat} {e : Int} (hl : parseLines (s.length + 1) 0 s = .error (i, e)) : parseTree s = ([], i, e) := by unfold parseTree; rw [if_neg h, hl]
theorem parse_ok {s : W} (h : ¬ 20000 < s.length) {ps : List Pk} (hl : parseLines (s.length + 1) 0 s = .ok ps) : parseTree s = if ckTree ps = 0 then (ps, 0, 0) else ([], 0, ckTree ps) := by unfold parseTree; rw [if_neg h, hl]
theorem line_cut {l : W} (h : cut4 l = none) : parseLine l = .error 1 := by unfold parseLine; rw [h]
theorem line_num {l a b c d e : W} (h : cut4 l = some (a, b, c, d, e)) (hn : number b = none ∨ number c = none) : parseLine l = .error 1 := by
 unfold parseLine
 rw [h]
 simp only []
 rcases hn with hn | hn
 ·rw [hn]
 ·rw [hn]; cases number b <;> rfl
theorem line_need {l a b c d e : W} (h : cut4 l = some (a, b, c, d, e)) {v k : Int} (hv : number b = some v) (hk : number c = some k) (hn : (parseNd e).2 ≠ 0) : parseLine l = .error (parseNd e).2 := by
 unfold parseLine
 rw [h]
 simp only []
 rw [hv, hk]
 simp only []
 by_cases h1 : (parseNd e).2 = 1
 ·rw [if_pos h1, h1]
 ·rw [if_neg h1, if_pos hn]
theorem line_good {l a b c d e : W} (h : cut4 l = some (a, b, c, d, e)) {v k : Int} (hv : number b = some v) (hk : number c = some k) (hn : (parseNd e).2 = 0) : parseLine l = .ok ⟨a, v, k, fsOf d, (parseNd e).1⟩ := by
 unfold parseLine
 rw [h]
 simp only []
 rw [hv, hk]
 simp only []
 rw [if_neg (by omega), if_neg (by omega)]
end Qm

/- tree.number, walked. -/
namespace Go.Proofs.YtpipgffbhpnmkaaGreatDoor
open Go.RowKit Qm
set_option maxHeartbeats 3200000 in
theorem tnumber_any (s : ByteArray) (w : World) (hs : s.size ≤ 140737488355328) (hL : LaidV w) :
  Calls Tryz.prog 89 #[.string s] w fun e w' => ∃ n, e = .returned (.tuple #[.int .i64 n, .bool (number s.data.toList).isSome]) ∧ (∀ v, number s.data.toList = some v → n = v) ∧ Below w.heap.size w w' := by
 obtain ⟨⟨tp, p, h1⟩, ⟨tp2, p2, h2⟩, h3⟩ := hL
 rcases h : Lib.atoiAll s.data.toList with v | _ | _
 ·skip
  have hat := Tryz.strconv_Atoi_ok s (by omega) v h w
  obtain ⟨hv0, hv1⟩ := Lib.atoiAll_bounds h
  go_enter Tryz.func89, Tryz.ntmps89
  go_wp2_with (first | (go_at_call 115; refine hat.mono ?_; rintro e w1 ⟨rfl, hw1⟩; refine Hid.out ?_))
  have hb1 : Hid (Below w.heap.size w w1) := qh (by
   rcases hw1 with rfl | ⟨t, rfl⟩
   ·exact Below.refl _ _
   ·exact Lib.bytesWorld_below _ _ _)
  clear hw1
  have hit := Tryz.strconv_Itoa v (by omega) (by omega) w1 (var_below h3 hb1.out)
  have Hit := qh hit
  clear hit
  have hcmp := bs_eq (Lib.itoa v) s
  have HV := qh (show number s.data.toList = if Lib.itoa v = s.data.toList then some v else none by unfold number; rw [h])
  clear h
  generalize Lib.itoa v = T at hcmp HV Hit
  by_cases e1 : T = s.data.toList
  ·rw [decide_eq_true e1] at hcmp
   have E1 := qh e1; clear e1
   refine qh ?_
   go_wp2_with (first | (go_at_call 116; refine Hit.out.mono ?_; rintro e w2 ⟨rfl, k, os, hw2⟩))
   go_ret2
   refine ⟨v, ?_, ?_, hb1.out.trans (by subst hw2; exact (Lib.below_grow _ _ (qr _) _ _).mono hb1.out.size)⟩
   ·rw [HV.out, if_pos E1.out]; rfl
   ·rw [HV.out, if_pos E1.out]; intro u hu; injection hu
  ·rw [decide_eq_false e1] at hcmp
   have E1 := qh e1; clear e1
   refine qh ?_
   go_wp2_with (first | (go_at_call 116; refine Hit.out.mono ?_; rintro e w2 ⟨rfl, k, os, hw2⟩))
   go_ret2
   refine ⟨v, ?_, ?_, hb1.out.trans (by subst hw2; exact (Lib.below_grow _ _ (qr _) _ _).mono hb1.out.size)⟩
   ·rw [HV.out, if_neg E1.out]; rfl
   ·rw [HV.out, if_neg E1.out]; intro u hu; cases hu
 ·have hat := Any.strconv_Atoi_syntax_var Tryz.laysC172 s (by omega) h tp p w h1
  go_enter Tryz.func89, Tryz.ntmps89
  go_wp2_with (first | (go_at_call 115; refine hat.mono ?_; rintro e w1 ⟨N, rfl, -, -, hb⟩))
  go_ret2
  have hn : number s.data.toList = none := by unfold number; rw [h]
  exact ⟨_, by rw [hn]; rfl, (by rw [hn]; intro v hv; cases hv), hb⟩
 ·have hat := Tryz.strconv_Atoi_range_var s (by omega) h tp2 p2 w h2
  go_enter Tryz.func89, Tryz.ntmps89
  go_wp2_with (first | (go_at_call 115; refine hat.mono ?_; rintro e w1 ⟨N, rfl, -, -, hb⟩))
  go_ret2
  have hn : number s.data.toList = none := by unfold number; rw [h]
  exact ⟨_, by rw [hn]; rfl, (by rw [hn]; intro v hv; cases hv), hb⟩
end Go.Proofs.YtpipgffbhpnmkaaGreatDoor
