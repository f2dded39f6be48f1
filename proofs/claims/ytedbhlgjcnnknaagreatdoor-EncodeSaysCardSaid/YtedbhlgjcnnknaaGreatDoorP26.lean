/- Parts of the proof: walks and plain laws, side by side. -/
import Derived.Test.YtedbhlgjcnnknaaGreatDoorP7
import Derived.Test.YtedbhlgjcnnknaaGreatDoorP25
import Derived.Shelf.Strings.SlTrimAscii
import Derived.Test.YtedbhlgjcnnknaaGreatDoorP5
import Derived.Laws.EntriesVeiled
import Derived.Test.YtedbhlgjcnnknaaGreatDoorP1
import Derived.Test.YtedbhlgjcnnknaaGreatDoorP2
import Derived.StringKeys
import Derived.Maps.RangeWalk
import Derived.Maps.OwnSet
set_option linter.unusedVariables false
set_option linter.unusedSimpArgs false
set_option linter.unusedSectionVars false
set_option maxRecDepth 100000
set_option maxHeartbeats 12800000
namespace Go.Proofs.YtedbhlgjcnnknaaGreatDoor
open Go.RowKit Qm
theorem bs_one {s : ByteArray} {c : UInt8} {r : List UInt8} (h : s.data.toList = c :: r) : s.extract 0 1 = ⟨#[c]⟩ := by
 have e : (s.extract 0 1).data.toList = [c] := by rw [Lib.extract_data, h]; simp
 generalize s.extract 0 1 = t at e
 obtain ⟨⟨l⟩⟩ := t
 simp at e
 subst e
 rfl
theorem rname_any (s : ByteArray) (w : World) (hs : s.size ≤ maxLen) :
  Calls Tryz.prog 89 #[.string s] w fun e w' => e = .returned (.bool (isName s.data.toList)) ∧ Below w.heap.size w w' := by
 unfold maxLen at hs
 have HSZ := qh (Lib.size_eq s)
 by_cases h0 : s.size = 0
 ·have e0 : decide ((0 : Int) < (s.size : Int)) = false := qdf (by omega)
  go_enter Tryz.func89, Tryz.ntmps89
  go_wp2
  go_ret
  refine ⟨ret_bool ?_, Below.refl _ _⟩
  unfold isName
  rw [qdf (by have := HSZ.out; omega)]; rfl
 ·have e0 : decide ((0 : Int) < (s.size : Int)) = true := by simp; omega
  by_cases h8 : 8 < s.size
  ·have e8 : decide ((s.size : Int) ≤ 8) = false := by simp; omega
   go_enter Tryz.func89, Tryz.ntmps89
   go_wp2
   go_ret
   refine ⟨ret_bool ?_, Below.refl _ _⟩
   unfold isName
   rw [qdf (by have := HSZ.out; omega)]; rfl
  ·have e8 : decide ((s.size : Int) ≤ 8) = true := by simp; omega
   obtain ⟨c, r, hcr⟩ : ∃ c r, s.data.toList = c :: r := by
    cases e : s.data.toList with
    | nil => have h := HSZ.out; rw [e, List.length_nil] at h; omega
    | cons c r => exact ⟨c, r, rfl⟩
   have htold := isName_told (c := c) (r := r) (by have := HSZ.out; rw [hcr] at this; omega)
   rw [← hcr] at htold
   have HT := qh htold; clear htold
   have hcon := fun wx => Tryz.strings_Contains_one ⟨letters.toArray⟩ c wx
   rw [show (⟨letters.toArray⟩ : ByteArray).data.toList = letters from by simp, letters_low, ← bs_one hcr] at hcon
   have h1 : (1 : Int) ≤ (s.size : Int) := by omega
   cases hlow : lowB c
   ·rw [hlow] at hcon HT
    have HC := qh hcon; clear hcon
    go_enter Tryz.func89, Tryz.ntmps89
    go_wp2_with (first | (go_at_call 116; refine (HC.out _).mono ?_; rintro e w1 ⟨rfl, rfl⟩; refine Hid.out ?_))
    refine qh ?_
    go_wp2
    go_ret
    exact ⟨ret_bool (by rw [HT.out]; rfl), Below.refl _ _⟩
   ·rw [hlow, Bool.true_and] at HT
    rw [hlow] at hcon
    have HC := qh hcon; clear hcon
    have htrim : ∀ wx, Calls Tryz.prog 117 #[.string s, .string ⟨alnum.toArray⟩] wx fun e w' => e = .returned (.string ⟨(Lib.trimS s.data.toList (⟨alnum.toArray⟩ : ByteArray).data.toList).toArray⟩) ∧ ∃ q, w' = ((wx.alloc (.cells (Lib.setCells (⟨alnum.toArray⟩ : ByteArray).data.toList) 190)).alloc (.cells (Lib.setCells (⟨alnum.toArray⟩ : ByteArray).data.toList) 190)).drewN q := fun wx => Any.strings_Trim_set Tryz.lays160 (zero_of_info (P := Tryz.prog) (t := 190) (v := .agg (Array.replicate 256 (.bool false))) (n := 256) (by kernel_rfl)).1 (by kernel_rfl) s ⟨alnum.toArray⟩ wx (by decide) (by omega) (by omega) (by decide) (fun j b h => by
     have hm := List.mem_of_getElem? h
     revert hm
     rw [show (⟨alnum.toArray⟩ : ByteArray).data.toList = alnum from by simp]
     intro hm
     exact (show ∀ b ∈ alnum, b.toNat < 128 by decide) b hm)
    rw [show (⟨alnum.toArray⟩ : ByteArray).data.toList = alnum from by simp] at htrim
    generalize Lib.trimS s.data.toList alnum = T at htrim HT
    have HTr := qh htrim; clear htrim
    have hT : (⟨T.toArray⟩ : ByteArray).toList.isEmpty = T.isEmpty := by rw [Lib.toList_data]
    go_enter Tryz.func89, Tryz.ntmps89
    go_wp2_with (first
     | (go_at_call 116; refine (HC.out _).mono ?_; rintro e w1 ⟨rfl, rfl⟩; refine Hid.out ?_)
     | (go_at_call 117; refine (HTr.out _).mono ?_; rintro e w1 ⟨rfl, n, rfl⟩; refine Hid.out ?_))
    refine qh ?_
    go_wp2_with (first
     | (go_at_call 117; refine (HTr.out _).mono ?_; rintro e w1 ⟨rfl, n, rfl⟩; refine Hid.out ?_))
    refine qh ?_
    go_wp2
    go_ret
    exact ⟨ret_bool (by rw [HT.out]), below_drewN (((Below.refl _ _).alloc (qr _) _).alloc (by simp) _) n⟩
end Go.Proofs.YtedbhlgjcnnknaaGreatDoor

namespace Go.Proofs.YtedbhlgjcnnknaaGreatDoor
open Go.RowKit Qm
theorem rcheck_any (s f : ByteArray) (op ver slot : Int) (on : Bool) (w : World) (hs : s.size ≤ maxLen) (hf : f.size ≤ maxLen) :
  Calls Tryz.prog 93 #[atv s op ver slot f on] w fun e w' => e = .returned (.int .i64 (ckAtom (atOf s op ver slot f on))) ∧ Below w.heap.size w w' := by
 unfold atv
 have ba : Below w.heap.size w (w.alloc (.cells #[.string s, .int .i64 op, .int .i64 ver, .int .i64 slot, .string f, .bool on] 75)) := (Below.refl _ w).alloc (qr _) _
 have Ba := qh ba; clear ba
 cases hn : isName s.data.toList
 ·skip
  go_enter Tryz.func93, Tryz.ntmps93
  go_wp2_with (first
   | (go_at_call 89; refine (rname_any _ _ hs).mono ?_; rintro e w1 ⟨rfl, hb1⟩; have c0 := box_cell hb1 (i := 0) rfl; have c1 := box_cell hb1 (i := 1) rfl; have c2 := box_cell hb1 (i := 2) rfl; have c3 := box_cell hb1 (i := 3) rfl; have c4 := box_cell hb1 (i := 4) rfl; have c5 := box_cell hb1 (i := 5) rfl; refine Hid.out ?_))
  refine qh ?_
  have HB := qh (Ba.out.trans (hb1.mono (by simp)))
  clear hb1
  go_wp2
  go_ret
  exact ⟨ret_int (ck1 (a := atOf s op ver slot f on) (.inl hn)).symm, HB.out⟩
 ·by_cases h0 : f.data.toList = []
  ·obtain ⟨e1, e2⟩ := empty_spell h0
   go_enter Tryz.func93, Tryz.ntmps93
   go_wp2_with (first
    | (go_at_call 89; refine (rname_any _ _ hs).mono ?_; rintro e w1 ⟨rfl, hb1⟩; have c0 := box_cell hb1 (i := 0) rfl; have c1 := box_cell hb1 (i := 1) rfl; have c2 := box_cell hb1 (i := 2) rfl; have c3 := box_cell hb1 (i := 3) rfl; have c4 := box_cell hb1 (i := 4) rfl; have c5 := box_cell hb1 (i := 5) rfl; refine Hid.out ?_))
   refine qh ?_
   have HB := qh (Ba.out.trans (hb1.mono (by simp)))
   clear hb1
   have H0 := qh h0
   have HG := qh (show ¬ (isName (atOf s op ver slot f on).nm = false ∨ (atOf s op ver slot f on).fl ≠ [] ∧ isName (atOf s op ver slot f on).fl = false) by simp [atOf, hn, h0])
   clear h0
   by_cases o1 : op < 0
   ·
    go_wp2
    go_ret
    exact ⟨ret_int (ck3 (a := atOf s _ _ slot f on) HG.out (by show _ ∨ _; simp only [atOf]; first | omega | exact .inr (.inl ⟨trivial, ‹_›⟩))).symm, HB.out⟩
   have o1' : decide (op < 0) = false := by simpa using o1
   by_cases o2 : 3 < op
   ·
    go_wp2
    go_ret
    exact ⟨ret_int (ck3 (a := atOf s _ _ slot f on) HG.out (by show _ ∨ _; simp only [atOf]; first | omega | exact .inr (.inl ⟨trivial, ‹_›⟩))).symm, HB.out⟩
   have o2' : decide (3 < op) = false := by simpa using o2
   by_cases s1 : slot < 0
   ·
    go_wp2
    go_ret
    exact ⟨ret_int (ck3 (a := atOf s _ _ slot f on) HG.out (by show _ ∨ _; simp only [atOf]; first | omega | exact .inr (.inl ⟨trivial, ‹_›⟩))).symm, HB.out⟩
   have s1' : decide (slot < 0) = false := by simpa using s1
   by_cases s2 : 9 < slot
   ·
    go_wp2
    go_ret
    exact ⟨ret_int (ck3 (a := atOf s _ _ slot f on) HG.out (by show _ ∨ _; simp only [atOf]; first | omega | exact .inr (.inl ⟨trivial, ‹_›⟩))).symm, HB.out⟩
   have s2' : decide (9 < slot) = false := by simpa using s2
   by_cases z : op = 0
   ·
    subst z
    by_cases v : ver = 0
    ·
     subst v
     cases on
     ·
      go_wp2
      go_ret
      exact ⟨ret_int (by rw [ck4 (a := atOf s _ _ slot f false) HG.out (by simp only [atOf]; omega)]; simp [atOf]), HB.out⟩
     ·
      go_wp2
      go_ret
      exact ⟨ret_int (by rw [ck4 (a := atOf s _ _ slot f true) HG.out (by simp only [atOf]; omega)]; simp [atOf, H0.out]), HB.out⟩
    ·
     have v1 : (ver == 0) = false := by simpa using v
     have v2 : (ver != 0) = true := by simpa using v
     go_wp2
     go_ret
     exact ⟨ret_int (ck3 (a := atOf s _ _ slot f on) HG.out (by show _ ∨ _; simp only [atOf]; first | omega | exact .inr (.inl ⟨trivial, ‹_›⟩))).symm, HB.out⟩
   ·
    have z1 : (op == 0) = false := by simpa using z
    have z2 : (op != 0) = true := by simpa using z
    by_cases v1 : ver < 1
    ·
     go_wp2
     go_ret
     exact ⟨ret_int (ck3 (a := atOf s _ _ slot f on) HG.out (by show _ ∨ _; simp only [atOf]; first | omega | exact .inr (.inl ⟨trivial, ‹_›⟩))).symm, HB.out⟩
    have v1' : decide (ver < 1) = false := by simpa using v1
    by_cases v2 : 99 < ver
    ·
     go_wp2
     go_ret
     exact ⟨ret_int (ck3 (a := atOf s _ _ slot f on) HG.out (by show _ ∨ _; simp only [atOf]; first | omega | exact .inr (.inl ⟨trivial, ‹_›⟩))).symm, HB.out⟩
    have v2' : decide (99 < ver) = false := by simpa using v2
    cases on
    ·
     go_wp2
     go_ret
     exact ⟨ret_int (by rw [ck4 (a := atOf s _ _ slot f false) HG.out (by simp only [atOf]; omega)]; simp [atOf]), HB.out⟩
    ·
     go_wp2
     go_ret
     exact ⟨ret_int (by rw [ck4 (a := atOf s _ _ slot f true) HG.out (by simp only [atOf]; omega)]; simp [atOf, H0.out]), HB.out⟩
  ·obtain ⟨e1, e2⟩ := full_spell h0
   cases hn2 : isName f.data.toList
   ·skip
    go_enter Tryz.func93, Tryz.ntmps93
    go_wp2_with (first
     | (go_at_call 89; refine (rname_any _ _ hs).mono ?_; rintro e w1 ⟨rfl, hb1⟩; have c0 := box_cell hb1 (i := 0) rfl; have c1 := box_cell hb1 (i := 1) rfl; have c2 := box_cell hb1 (i := 2) rfl; have c3 := box_cell hb1 (i := 3) rfl; have c4 := box_cell hb1 (i := 4) rfl; have c5 := box_cell hb1 (i := 5) rfl; refine Hid.out ?_))
    refine qh ?_
    go_wp2_with (first
     | (go_at_call 89; refine (rname_any _ _ hf).mono ?_; rintro e w2 ⟨rfl, hb2⟩; replace c0 := (hb2.cell (World.block_lt_of_cell? _ _ c0)).trans c0; replace c1 := (hb2.cell (World.block_lt_of_cell? _ _ c1)).trans c1; replace c2 := (hb2.cell (World.block_lt_of_cell? _ _ c2)).trans c2; replace c3 := (hb2.cell (World.block_lt_of_cell? _ _ c3)).trans c3; replace c4 := (hb2.cell (World.block_lt_of_cell? _ _ c4)).trans c4; replace c5 := (hb2.cell (World.block_lt_of_cell? _ _ c5)).trans c5; refine Hid.out ?_))
    refine qh ?_
    have HB := qh (Ba.out.trans ((hb1.mono (by simp)).trans (hb2.mono (qlt (by simp) hb1.size))))
    clear hb1 hb2
    go_wp2
    go_ret
    exact ⟨ret_int (ck1 (a := atOf s op ver slot f on) (.inr ⟨h0, hn2⟩)).symm, HB.out⟩
   ·skip
    go_enter Tryz.func93, Tryz.ntmps93
    go_wp2_with (first
     | (go_at_call 89; refine (rname_any _ _ hs).mono ?_; rintro e w1 ⟨rfl, hb1⟩; have c0 := box_cell hb1 (i := 0) rfl; have c1 := box_cell hb1 (i := 1) rfl; have c2 := box_cell hb1 (i := 2) rfl; have c3 := box_cell hb1 (i := 3) rfl; have c4 := box_cell hb1 (i := 4) rfl; have c5 := box_cell hb1 (i := 5) rfl; refine Hid.out ?_))
    refine qh ?_
    go_wp2_with (first
     | (go_at_call 89; refine (rname_any _ _ hf).mono ?_; rintro e w2 ⟨rfl, hb2⟩; replace c0 := (hb2.cell (World.block_lt_of_cell? _ _ c0)).trans c0; replace c1 := (hb2.cell (World.block_lt_of_cell? _ _ c1)).trans c1; replace c2 := (hb2.cell (World.block_lt_of_cell? _ _ c2)).trans c2; replace c3 := (hb2.cell (World.block_lt_of_cell? _ _ c3)).trans c3; replace c4 := (hb2.cell (World.block_lt_of_cell? _ _ c4)).trans c4; replace c5 := (hb2.cell (World.block_lt_of_cell? _ _ c5)).trans c5; refine Hid.out ?_))
    refine qh ?_
    have HB := qh (Ba.out.trans ((hb1.mono (by simp)).trans (hb2.mono (qlt (by simp) hb1.size))))
    clear hb1 hb2
    have H0 := qh h0
    have HG := qh (show ¬ (isName (atOf s op ver slot f on).nm = false ∨ (atOf s op ver slot f on).fl ≠ [] ∧ isName (atOf s op ver slot f on).fl = false) by simp [atOf, hn, hn2])
    clear h0
    by_cases o1 : op < 0
    ·
     go_wp2
     go_ret
     exact ⟨ret_int (ck3 (a := atOf s _ _ slot f on) HG.out (by show _ ∨ _; simp only [atOf]; first | omega | exact .inr (.inl ⟨trivial, ‹_›⟩))).symm, HB.out⟩
    have o1' : decide (op < 0) = false := by simpa using o1
    by_cases o2 : 3 < op
    ·
     go_wp2
     go_ret
     exact ⟨ret_int (ck3 (a := atOf s _ _ slot f on) HG.out (by show _ ∨ _; simp only [atOf]; first | omega | exact .inr (.inl ⟨trivial, ‹_›⟩))).symm, HB.out⟩
    have o2' : decide (3 < op) = false := by simpa using o2
    by_cases s1 : slot < 0
    ·
     go_wp2
     go_ret
     exact ⟨ret_int (ck3 (a := atOf s _ _ slot f on) HG.out (by show _ ∨ _; simp only [atOf]; first | omega | exact .inr (.inl ⟨trivial, ‹_›⟩))).symm, HB.out⟩
    have s1' : decide (slot < 0) = false := by simpa using s1
    by_cases s2 : 9 < slot
    ·
     go_wp2
     go_ret
     exact ⟨ret_int (ck3 (a := atOf s _ _ slot f on) HG.out (by show _ ∨ _; simp only [atOf]; first | omega | exact .inr (.inl ⟨trivial, ‹_›⟩))).symm, HB.out⟩
    have s2' : decide (9 < slot) = false := by simpa using s2
    by_cases z : op = 0
    ·
     subst z
     by_cases v : ver = 0
     ·
      subst v
      cases on
      ·
       go_wp2
       go_ret
       exact ⟨ret_int (by rw [ck4 (a := atOf s _ _ slot f _) HG.out (by simp only [atOf]; omega)]; simp [atOf, H0.out]), HB.out⟩
      ·
       go_wp2
       go_ret
       exact ⟨ret_int (by rw [ck4 (a := atOf s _ _ slot f _) HG.out (by simp only [atOf]; omega)]; simp [atOf, H0.out]), HB.out⟩
     ·
      have v1 : (ver == 0) = false := by simpa using v
      have v2 : (ver != 0) = true := by simpa using v
      go_wp2
      go_ret
      exact ⟨ret_int (ck3 (a := atOf s _ _ slot f on) HG.out (by show _ ∨ _; simp only [atOf]; first | omega | exact .inr (.inl ⟨trivial, ‹_›⟩))).symm, HB.out⟩
    ·
     have z1 : (op == 0) = false := by simpa using z
     have z2 : (op != 0) = true := by simpa using z
     by_cases v1 : ver < 1
     ·
      go_wp2
      go_ret
      exact ⟨ret_int (ck3 (a := atOf s _ _ slot f on) HG.out (by show _ ∨ _; simp only [atOf]; first | omega | exact .inr (.inl ⟨trivial, ‹_›⟩))).symm, HB.out⟩
     have v1' : decide (ver < 1) = false := by simpa using v1
     by_cases v2 : 99 < ver
     ·
      go_wp2
      go_ret
      exact ⟨ret_int (ck3 (a := atOf s _ _ slot f on) HG.out (by show _ ∨ _; simp only [atOf]; first | omega | exact .inr (.inl ⟨trivial, ‹_›⟩))).symm, HB.out⟩
     have v2' : decide (99 < ver) = false := by simpa using v2
     cases on
     ·
      go_wp2
      go_ret
      exact ⟨ret_int (by rw [ck4 (a := atOf s _ _ slot f _) HG.out (by simp only [atOf]; omega)]; simp [atOf, H0.out]), HB.out⟩
     ·
      go_wp2
      go_ret
      exact ⟨ret_int (by rw [ck4 (a := atOf s _ _ slot f _) HG.out (by simp only [atOf]; omega)]; simp [atOf, H0.out]), HB.out⟩
end Go.Proofs.YtedbhlgjcnnknaaGreatDoor

namespace Go.Proofs.YtedbhlgjcnnknaaGreatDoor
open Go.RowKit Qm
def selfC (bx : Nat) : Value := .func (.func 119) #[] #[.pointer (some ⟨bx, 0, none⟩)]
theorem rwalk_bad (nm fl f : Qm.W) (op ver slot k : Int) (on no : Bool) (A : Option Addr) (n c : Nat) (ks : List Nd) (w : World) (bx : Nat) (k1 : 3 ≤ k) (k2 : k ≤ 5) (ha : ¬ (nm = [] ∧ op = 0 ∧ ver = 0 ∧ slot = 0 ∧ fl = [] ∧ on = false)) :
  Calls Tryz.prog 119 #[.agg (ndRow k ⟨nm, op, ver, slot, fl, on⟩ f no A n c).toArray, .pointer (some ⟨bx, 0, none⟩)] w fun e w' => e = .returned (.int .i64 (ckNd (.mk k ⟨nm, op, ver, slot, fl, on⟩ f no ks))) ∧ Below w.heap.size w w' := by
 unfold ndRow
 have HC : Hid (ckNd (.mk k ⟨nm, op, ver, slot, fl, on⟩ f no ks) = 4) := qh (by
  have hl : leafK k = false := by simp [leafK]; omega
  simp only [ckNd]; rw [if_neg (by omega), if_neg (by simp [hl]), if_pos ⟨hl, by simpa [At.zero] using ha⟩])
 have e1 : (k == 1) = false := by simp; omega
 have e2 : (k == 2) = false := by simp; omega
 have e3 : decide (k < 1) = false := by simp; omega
 have e4 : decide (5 < k) = false := by simp; omega
 have HB := qh ((Below.refl _ w).alloc (qr _) (.cells #[.int .i64 k, .string ⟨nm.toArray⟩, .int .i64 op, .int .i64 ver, .int .i64 slot, .string ⟨fl.toArray⟩, .bool on, .string ⟨f.toArray⟩, .bool no, .slice A n c] 99))
 by_cases c1 : nm = []
 ·subst c1
  by_cases c2 : op = 0
  ·subst c2
   by_cases c3 : ver = 0
   ·subst c3
    by_cases c4 : slot = 0
    ·subst c4
     by_cases c5 : fl = []
     ·subst c5
      cases on
      ·exact absurd ⟨rfl, rfl, rfl, rfl, rfl, rfl⟩ ha
      ·clear ha
       go_enter Tryz.func119, Tryz.ntmps119
       go_wp2
       go_ret
       exact ⟨ret_int HC.out.symm, HB.out⟩
     ·clear ha
      go_enter Tryz.func119, Tryz.ntmps119
      go_wp2
      go_ret
      exact ⟨ret_int HC.out.symm, HB.out⟩
    ·clear ha
     go_enter Tryz.func119, Tryz.ntmps119
     go_wp2
     go_ret
     exact ⟨ret_int HC.out.symm, HB.out⟩
   ·clear ha
    go_enter Tryz.func119, Tryz.ntmps119
    go_wp2
    go_ret
    exact ⟨ret_int HC.out.symm, HB.out⟩
  ·clear ha
   go_enter Tryz.func119, Tryz.ntmps119
   go_wp2
   go_ret
   exact ⟨ret_int HC.out.symm, HB.out⟩
 ·clear ha
  go_enter Tryz.func119, Tryz.ntmps119
  go_wp2
  go_ret
  exact ⟨ret_int HC.out.symm, HB.out⟩
theorem rwalk_out (nm fl f : Qm.W) (op ver slot k : Int) (on no : Bool) (A : Option Addr) (n c : Nat) (ks : List Nd) (w : World) (bx : Nat) (hk : k < 1 ∨ 5 < k) :
  Calls Tryz.prog 119 #[.agg (ndRow k ⟨nm, op, ver, slot, fl, on⟩ f no A n c).toArray, .pointer (some ⟨bx, 0, none⟩)] w fun e w' => e = .returned (.int .i64 (ckNd (.mk k ⟨nm, op, ver, slot, fl, on⟩ f no ks))) ∧ Below w.heap.size w w' := by
 unfold ndRow
 have HC : Hid (ckNd (.mk k ⟨nm, op, ver, slot, fl, on⟩ f no ks) = 4) := qh (by simp only [ckNd]; rw [if_pos hk])
 have HB := qh ((Below.refl _ w).alloc (qr _) (.cells #[.int .i64 k, .string ⟨nm.toArray⟩, .int .i64 op, .int .i64 ver, .int .i64 slot, .string ⟨fl.toArray⟩, .bool on, .string ⟨f.toArray⟩, .bool no, .slice A n c] 99))
 have e1 : (k == 1) = false := by simp; omega
 have e2 : (k == 2) = false := by simp; omega
 rcases hk with hk | hk
 ·
  go_enter Tryz.func119, Tryz.ntmps119
  go_wp2
  go_ret
  exact ⟨ret_int HC.out.symm, HB.out⟩
 ·have e3 : decide (k < 1) = false := by simp; omega
  go_enter Tryz.func119, Tryz.ntmps119
  go_wp2
  go_ret
  exact ⟨ret_int HC.out.symm, HB.out⟩
theorem rwalk_leaf1 (nm fl f : Qm.W) (op ver slot : Int) (on no : Bool) (A : Option Addr) (n c : Nat) (ks : List Nd) (w : World) (bx : Nat) (hc : n ≤ c) (hc2 : c ≤ maxLen) (h1 : nm.length ≤ maxLen) (h2 : fl.length ≤ maxLen) (hlen : ks.length = n) :
  Calls Tryz.prog 119 #[.agg (ndRow 1 ⟨nm, op, ver, slot, fl, on⟩ f no A n c).toArray, .pointer (some ⟨bx, 0, none⟩)] w fun e w' => e = .returned (.int .i64 (ckNd (.mk 1 ⟨nm, op, ver, slot, fl, on⟩ f no ks))) ∧ Below w.heap.size w w' := by
 unfold ndRow
 unfold maxLen at hc2
 have HB := qh ((Below.refl _ w).alloc (qr _) (.cells #[.int .i64 1, .string ⟨nm.toArray⟩, .int .i64 op, .int .i64 ver, .int .i64 slot, .string ⟨fl.toArray⟩, .bool on, .string ⟨f.toArray⟩, .bool no, .slice A n c] 99))
 by_cases hn : 0 < n
 ·have HC : Hid (ckNd (.mk 1 ⟨nm, op, ver, slot, fl, on⟩ f no ks) = 4) := qh (by
   simp only [ckNd]; rw [if_neg (by omega), if_pos ⟨rfl, by omega⟩])
  have hn' : ((n : Int) != 0) = true := by simp; omega
  go_enter Tryz.func119, Tryz.ntmps119
  go_wp2
  go_ret
  exact ⟨ret_int HC.out.symm, HB.out⟩
 ·obtain rfl : n = 0 := by omega
  clear hn
  by_cases hf : f = [] ∧ no = false
  ·obtain ⟨rfl, rfl⟩ := hf
   have HC : Hid (ckNd (.mk 1 ⟨nm, op, ver, slot, fl, on⟩ [] false ks) = ckAtom ⟨nm, op, ver, slot, fl, on⟩) := qh (by
    simp only [ckNd]; rw [if_neg (by omega), if_neg (by simp [hlen]), if_neg (by simp [leafK]), if_neg (by simp), if_neg (by simp), if_pos (by rfl)])
   have hck := fun wx => rcheck_any ⟨nm.toArray⟩ ⟨fl.toArray⟩ op ver slot on wx (by rw [bsz]; exact h1) (by rw [bsz]; exact h2)
   rw [show atOf ⟨nm.toArray⟩ op ver slot ⟨fl.toArray⟩ on = ⟨nm, op, ver, slot, fl, on⟩ from by simp [atOf]] at hck
   unfold atv at hck
   have Hck := qh hck; clear hck
   generalize ckAtom _ = q at Hck HC
   clear h1 h2
   go_enter Tryz.func119, Tryz.ntmps119
   go_wp2_with (first | (go_at_call 93; refine (Hck.out _).mono ?_; rintro e w1 ⟨rfl, hb1⟩; refine Hid.out ?_))
   refine qh ?_
   have HB1 := qh (HB.out.trans (hb1.mono HB.out.size)); clear hb1
   go_wp2
   go_ret
   exact ⟨ret_int HC.out.symm, HB1.out⟩
  ·have HC : Hid (ckNd (.mk 1 ⟨nm, op, ver, slot, fl, on⟩ f no ks) = 4) := qh (by
    simp only [ckNd]; rw [if_neg (by omega), if_neg (by simp [hlen]), if_neg (by simp [leafK]), if_pos ⟨by omega, by cases no <;> simp_all⟩])
   cases no
   ·have hf0 : ¬ f = [] := fun e => hf ⟨e, rfl⟩
    have hf1 : (!List.isEmpty f) = true := by cases f with | nil => exact absurd rfl hf0 | cons => rfl
    clear hf
    go_enter Tryz.func119, Tryz.ntmps119
    go_wp2
    go_ret
    exact ⟨ret_int HC.out.symm, HB.out⟩
   ·clear hf
    go_enter Tryz.func119, Tryz.ntmps119
    go_wp2
    go_ret
    exact ⟨ret_int HC.out.symm, HB.out⟩
theorem rwalk_leaf2 (nm fl f : Qm.W) (op ver slot : Int) (on no : Bool) (A : Option Addr) (n c : Nat) (ks : List Nd) (w : World) (bx : Nat) (hc : n ≤ c) (hc2 : c ≤ maxLen) (h1 : nm.length ≤ maxLen) (h2 : fl.length ≤ maxLen) (hlen : ks.length = n) :
  Calls Tryz.prog 119 #[.agg (ndRow 2 ⟨nm, op, ver, slot, fl, on⟩ f no A n c).toArray, .pointer (some ⟨bx, 0, none⟩)] w fun e w' => e = .returned (.int .i64 (ckNd (.mk 2 ⟨nm, op, ver, slot, fl, on⟩ f no ks))) ∧ Below w.heap.size w w' := by
 unfold ndRow
 unfold maxLen at hc2
 have HB := qh ((Below.refl _ w).alloc (qr _) (.cells #[.int .i64 2, .string ⟨nm.toArray⟩, .int .i64 op, .int .i64 ver, .int .i64 slot, .string ⟨fl.toArray⟩, .bool on, .string ⟨f.toArray⟩, .bool no, .slice A n c] 99))
 by_cases hn : 0 < n
 ·have HC : Hid (ckNd (.mk 2 ⟨nm, op, ver, slot, fl, on⟩ f no ks) = 4) := qh (by
   simp only [ckNd]; rw [if_neg (by omega), if_pos ⟨rfl, by omega⟩])
  have hn' : ((n : Int) != 0) = true := by simp; omega
  go_enter Tryz.func119, Tryz.ntmps119
  go_wp2
  go_ret
  exact ⟨ret_int HC.out.symm, HB.out⟩
 ·obtain rfl : n = 0 := by omega
  clear hn
  by_cases hf : f = [] ∧ no = false
  ·obtain ⟨rfl, rfl⟩ := hf
   have HC : Hid (ckNd (.mk 2 ⟨nm, op, ver, slot, fl, on⟩ [] false ks) = ckAtom ⟨nm, op, ver, slot, fl, on⟩) := qh (by
    simp only [ckNd]; rw [if_neg (by omega), if_neg (by simp [hlen]), if_neg (by simp [leafK]), if_neg (by simp), if_neg (by simp), if_pos (by rfl)])
   have hck := fun wx => rcheck_any ⟨nm.toArray⟩ ⟨fl.toArray⟩ op ver slot on wx (by rw [bsz]; exact h1) (by rw [bsz]; exact h2)
   rw [show atOf ⟨nm.toArray⟩ op ver slot ⟨fl.toArray⟩ on = ⟨nm, op, ver, slot, fl, on⟩ from by simp [atOf]] at hck
   unfold atv at hck
   have Hck := qh hck; clear hck
   generalize ckAtom _ = q at Hck HC
   clear h1 h2
   go_enter Tryz.func119, Tryz.ntmps119
   go_wp2_with (first | (go_at_call 93; refine (Hck.out _).mono ?_; rintro e w1 ⟨rfl, hb1⟩; refine Hid.out ?_))
   refine qh ?_
   have HB1 := qh (HB.out.trans (hb1.mono HB.out.size)); clear hb1
   go_wp2
   go_ret
   exact ⟨ret_int HC.out.symm, HB1.out⟩
  ·have HC : Hid (ckNd (.mk 2 ⟨nm, op, ver, slot, fl, on⟩ f no ks) = 4) := qh (by
    simp only [ckNd]; rw [if_neg (by omega), if_neg (by simp [hlen]), if_neg (by simp [leafK]), if_pos ⟨by omega, by cases no <;> simp_all⟩])
   cases no
   ·have hf0 : ¬ f = [] := fun e => hf ⟨e, rfl⟩
    have hf1 : (!List.isEmpty f) = true := by cases f with | nil => exact absurd rfl hf0 | cons => rfl
    clear hf
    go_enter Tryz.func119, Tryz.ntmps119
    go_wp2
    go_ret
    exact ⟨ret_int HC.out.symm, HB.out⟩
   ·clear hf
    go_enter Tryz.func119, Tryz.ntmps119
    go_wp2
    go_ret
    exact ⟨ret_int HC.out.symm, HB.out⟩
theorem rwalk_flag3 (f : Qm.W) (no : Bool) (A : Option Addr) (n c : Nat) (ks : List Nd) (w : World) (bx : Nat) (hf : ¬ (f = [] ∧ no = false)) :
  Calls Tryz.prog 119 #[.agg (ndRow 3 ⟨[], 0, 0, 0, [], false⟩ f no A n c).toArray, .pointer (some ⟨bx, 0, none⟩)] w fun e w' => e = .returned (.int .i64 (ckNd (.mk 3 ⟨[], 0, 0, 0, [], false⟩ f no ks))) ∧ Below w.heap.size w w' := by
 unfold ndRow
 have HC : Hid (ckNd (.mk 3 ⟨[], 0, 0, 0, [], false⟩ f no ks) = 4) := qh (by
  simp only [ckNd]; rw [if_neg (by omega), if_neg (by simp [leafK]), if_neg (by simp [At.zero]), if_pos ⟨by omega, by cases no <;> simp_all⟩])
 have HB := qh ((Below.refl _ w).alloc (qr _) (.cells #[.int .i64 3, .string ⟨#[]⟩, .int .i64 0, .int .i64 0, .int .i64 0, .string ⟨#[]⟩, .bool false, .string ⟨f.toArray⟩, .bool no, .slice A n c] 99))
 cases no
 ·have hf0 : ¬ f = [] := fun e => hf ⟨e, rfl⟩
  have hf1 : (!List.isEmpty f) = true := by cases f with | nil => exact absurd rfl hf0 | cons => rfl
  clear hf
  go_enter Tryz.func119, Tryz.ntmps119
  go_wp2
  go_ret
  exact ⟨ret_int HC.out.symm, HB.out⟩
 ·clear hf
  go_enter Tryz.func119, Tryz.ntmps119
  go_wp2
  go_ret
  exact ⟨ret_int HC.out.symm, HB.out⟩
theorem rwalk_flag4 (f : Qm.W) (no : Bool) (A : Option Addr) (n c : Nat) (ks : List Nd) (w : World) (bx : Nat) (hf : ¬ (f = [] ∧ no = false)) :
  Calls Tryz.prog 119 #[.agg (ndRow 4 ⟨[], 0, 0, 0, [], false⟩ f no A n c).toArray, .pointer (some ⟨bx, 0, none⟩)] w fun e w' => e = .returned (.int .i64 (ckNd (.mk 4 ⟨[], 0, 0, 0, [], false⟩ f no ks))) ∧ Below w.heap.size w w' := by
 unfold ndRow
 have HC : Hid (ckNd (.mk 4 ⟨[], 0, 0, 0, [], false⟩ f no ks) = 4) := qh (by
  simp only [ckNd]; rw [if_neg (by omega), if_neg (by simp [leafK]), if_neg (by simp [At.zero]), if_pos ⟨by omega, by cases no <;> simp_all⟩])
 have HB := qh ((Below.refl _ w).alloc (qr _) (.cells #[.int .i64 4, .string ⟨#[]⟩, .int .i64 0, .int .i64 0, .int .i64 0, .string ⟨#[]⟩, .bool false, .string ⟨f.toArray⟩, .bool no, .slice A n c] 99))
 cases no
 ·have hf0 : ¬ f = [] := fun e => hf ⟨e, rfl⟩
  have hf1 : (!List.isEmpty f) = true := by cases f with | nil => exact absurd rfl hf0 | cons => rfl
  clear hf
  go_enter Tryz.func119, Tryz.ntmps119
  go_wp2
  go_ret
  exact ⟨ret_int HC.out.symm, HB.out⟩
 ·clear hf
  go_enter Tryz.func119, Tryz.ntmps119
  go_wp2
  go_ret
  exact ⟨ret_int HC.out.symm, HB.out⟩
theorem rwalk_name (f : Qm.W) (no : Bool) (A : Option Addr) (n c : Nat) (ks : List Nd) (w : World) (bx : Nat) (h3 : f.length ≤ maxLen) (hn : isName f = false) :
  Calls Tryz.prog 119 #[.agg (ndRow 5 ⟨[], 0, 0, 0, [], false⟩ f no A n c).toArray, .pointer (some ⟨bx, 0, none⟩)] w fun e w' => e = .returned (.int .i64 (ckNd (.mk 5 ⟨[], 0, 0, 0, [], false⟩ f no ks))) ∧ Below w.heap.size w w' := by
 unfold ndRow
 have hnm := fun wx => rname_any ⟨f.toArray⟩ wx (by rw [bsz]; exact h3)
 rw [show (⟨f.toArray⟩ : ByteArray).data.toList = f from by simp, hn] at hnm
 have Hnm := qh hnm; clear hnm
 have HC : Hid (ckNd (.mk 5 ⟨[], 0, 0, 0, [], false⟩ f no ks) = 1) := qh (by
  simp only [ckNd]; rw [if_neg (by omega), if_neg (by simp [leafK]), if_neg (by simp [At.zero]), if_neg (by simp), if_pos ⟨by trivial, hn⟩])
 have HB := qh ((Below.refl _ w).alloc (qr _) (.cells #[.int .i64 5, .string ⟨#[]⟩, .int .i64 0, .int .i64 0, .int .i64 0, .string ⟨#[]⟩, .bool false, .string ⟨f.toArray⟩, .bool no, .slice A n c] 99))
 clear h3 hn
 go_enter Tryz.func119, Tryz.ntmps119
 go_wp2_with (first | (go_at_call 89; refine (Hnm.out _).mono ?_; rintro e w1 ⟨rfl, hb1⟩; refine Hid.out ?_))
 refine qh ?_
 have HB1 := qh (HB.out.trans (hb1.mono HB.out.size)); clear hb1
 go_wp2
 go_ret
 exact ⟨ret_int HC.out.symm, HB1.out⟩
end Go.Proofs.YtedbhlgjcnnknaaGreatDoor

namespace Go.Proofs.YtedbhlgjcnnknaaGreatDoor
open Go.RowKit Qm
def RWalks (ks : List Nd) : Prop := ∀ x ∈ ks, ∀ (S : Nat → Prop) (cx : List Value) (bx : Nat) (w : World), RNd w S cx x → (∀ k, S k → k < w.heap.size) → w.cell? ⟨bx, 0, none⟩ = some (selfC bx) →
  Calls Tryz.prog 119 #[.agg cx.toArray, .pointer (some ⟨bx, 0, none⟩)] w fun e w' => e = .returned (.int .i64 (ckNd x)) ∧ Below w.heap.size w w'
theorem rwalk_kids3 (ks : List Nd) (S : Nat → Prop) (A : Option Addr) (n c bx : Nat) (w : World) (ih : RWalks ks) (hnc : n ≤ c) (hc : c ≤ maxLen) (hK : RKids w S A n ks) (hS : ∀ k, S k → k < w.heap.size) (hbx : w.cell? ⟨bx, 0, none⟩ = some (selfC bx)) :
  Calls Tryz.prog 119 #[.agg (ndRow 3 ⟨[], 0, 0, 0, [], false⟩ [] false A n c).toArray, .pointer (some ⟨bx, 0, none⟩)] w fun e w' => e = .returned (.int .i64 (ckNd (.mk 3 ⟨[], 0, 0, 0, [], false⟩ [] false ks))) ∧ Below w.heap.size w w' := by
 unfold ndRow
 have HI := qh ih; clear ih
 have HX0 := qh hbx
 have hbl : bx < w.heap.size := World.block_lt_of_cell? _ _ hbx
 have henter : ∀ (args : Array Value) (W : World), (callFunc 119 args).run Tryz.prog W = .ok (.enter 119 args) W := fun args W => by kernel_rfl
 clear hbx
 have HS := qh hS; clear hS
 have HK := qh hK; clear hK
 unfold maxLen at hc
 have HC : Hid (ckNd (.mk 3 ⟨[], 0, 0, 0, [], false⟩ [] false ks) = ckKids ks) := qh (by
  simp only [ckNd]; rw [if_neg (by omega), if_neg (by simp [leafK]), if_neg (by simp [At.zero]), if_neg (by simp), if_neg (by simp), if_neg (by simp [leafK])])
 have HB := qh ((Below.refl _ w).alloc (qr _) (.cells #[.int .i64 3, .string ⟨#[]⟩, .int .i64 0, .int .i64 0, .int .i64 0, .string ⟨#[]⟩, .bool false, .string ⟨#[]⟩, .bool false, .slice A n c] 99))
 go_enter Tryz.func119, Tryz.ntmps119
 go_wp2
 go_loopg [73] n (fun g iv wr => ∃ (j : Nat), Hid (j + g = n) ∧ iv = .int .i64 j ∧ Hid (ckKids ks = ckKids (ks.drop j)) ∧ Below w.heap.size w wr)
 case atStart => exact ⟨0, qh (Nat.zero_add _), rfl, qh rfl, HB.out⟩
 case round =>
  obtain ⟨j, Hj, rfl, Hcl, hb⟩ := hrel
  have HBr := qh hb; clear hb
  have hbx := (HBr.out.cell (p := ⟨bx, 0, none⟩) hbl).trans HX0.out
  unfold selfC at hbx
  have hbr : bx < wr.heap.size := ql hbl HBr.out.size
  by_cases hj : j < n
  ·obtain ⟨b, o, x, y, rfl, hb, hy, hxy, hcell⟩ := (HK.out.under HBr.out HS.out).at_ hj
   have Hdr := qh (drop_step hy)
   have hmem := List.mem_of_getElem? hy
   obtain ⟨yk, ya, yf, yn, yks⟩ := y
   obtain ⟨A', n', c', rfl, -⟩ := hxy.open_
   have g0 := hcell 0 (by omega); have g1 := hcell 1 (by omega); have g2 := hcell 2 (by omega); have g3 := hcell 3 (by omega); have g4 := hcell 4 (by omega)
   have g5 := hcell 5 (by omega); have g6 := hcell 6 (by omega); have g7 := hcell 7 (by omega); have g8 := hcell 8 (by omega); have g9 := hcell 9 (by omega)
   clear hcell
   unfold ndRow at g0 g1 g2 g3 g4 g5 g6 g7 g8 g9
   simp only [qgz, qgs, Nat.add_zero] at g0 g1 g2 g3 g4 g5 g6 g7 g8 g9
   clear hy
   have hxy2 := (hxy.under (Below.refl _ wr |>.alloc (qr _) (.cells #[.int .i64 yk, .string ⟨ya.nm.toArray⟩, .int .i64 ya.op, .int .i64 ya.ver, .int .i64 ya.slot, .string ⟨ya.fl.toArray⟩, .bool ya.on, .string ⟨yf.toArray⟩, .bool yn, .slice A' n' c'] 99)) fun q hq => ql (HS.out q hq) HBr.out.size)
   clear hxy
   have hcall := HI.out _ hmem S _ bx _ hxy2 (fun q hq => by have := HS.out q hq; have := HBr.out.size; simp; omega) (((Below.refl _ wr |>.alloc (qr _) _).cell (p := ⟨bx, 0, none⟩) hbr).trans ((HBr.out.cell (p := ⟨bx, 0, none⟩) hbl).trans HX0.out))
   unfold ndRow at hcall
   have HX : Hid (ckKids (ks.drop j) = if ckNd (.mk yk ya yf yn yks) = 0 then ckKids (ks.drop (j + 1)) else ckNd (.mk yk ya yf yn yks)) := qh (by rw [Hdr.out]; simp only [ckKids])
   generalize hq : ckNd (.mk yk ya yf yn yks) = q at hcall HX
   have HBn := qh (HBr.out.alloc HBr.out.size (.cells #[.int .i64 yk, .string ⟨ya.nm.toArray⟩, .int .i64 ya.op, .int .i64 ya.ver, .int .i64 ya.slot, .string ⟨ya.fl.toArray⟩, .bool ya.on, .string ⟨yf.toArray⟩, .bool yn, .slice A' n' c'] 99))
   clear hq hxy2
   have Hcall := qh hcall; clear hcall
   by_cases h0 : q = 0
   ·subst h0
    go_wp2_with (first | (go_at_call 119; refine Hcall.out.mono ?_; rintro e w' ⟨rfl, hb'⟩; refine Hid.out ?_))
    refine qh ?_
    have HB' := qh (HBn.out.trans (hb'.mono HBn.out.size)); clear hb'
    go_wp2_with fail
    go_roundg (gk - 1)
    case measure => have := Hj.out; omega
    case rel => exact ⟨j + 1, qh (by have := Hj.out; omega), by go_num, qh (by rw [Hcl.out, HX.out]; simp), HB'.out⟩
   ·have h1 : (q != 0) = true := by simpa using h0
    have H0 := qh h0; clear h0
    go_wp2_with (first | (go_at_call 119; refine Hcall.out.mono ?_; rintro e w' ⟨rfl, hb'⟩; refine Hid.out ?_))
    refine qh ?_
    have HB' := qh (HBn.out.trans (hb'.mono HBn.out.size)); clear hb'
    go_wp2_with fail
    go_ret
    exact ⟨ret_int (by rw [HC.out, Hcl.out, HX.out, if_neg H0.out]), HB'.out⟩
  ·go_wp2_with fail
   go_ret
   refine ⟨ret_int ?_, HBr.out⟩
   rw [HC.out, Hcl.out, List.drop_of_length_le (by have := HK.out.len; omega)]; rfl
theorem rwalk_kids4 (ks : List Nd) (S : Nat → Prop) (A : Option Addr) (n c bx : Nat) (w : World) (ih : RWalks ks) (hnc : n ≤ c) (hc : c ≤ maxLen) (hK : RKids w S A n ks) (hS : ∀ k, S k → k < w.heap.size) (hbx : w.cell? ⟨bx, 0, none⟩ = some (selfC bx)) :
  Calls Tryz.prog 119 #[.agg (ndRow 4 ⟨[], 0, 0, 0, [], false⟩ [] false A n c).toArray, .pointer (some ⟨bx, 0, none⟩)] w fun e w' => e = .returned (.int .i64 (ckNd (.mk 4 ⟨[], 0, 0, 0, [], false⟩ [] false ks))) ∧ Below w.heap.size w w' := by
 unfold ndRow
 have HI := qh ih; clear ih
 have HX0 := qh hbx
 have hbl : bx < w.heap.size := World.block_lt_of_cell? _ _ hbx
 have henter : ∀ (args : Array Value) (W : World), (callFunc 119 args).run Tryz.prog W = .ok (.enter 119 args) W := fun args W => by kernel_rfl
 clear hbx
 have HS := qh hS; clear hS
 have HK := qh hK; clear hK
 unfold maxLen at hc
 have HC : Hid (ckNd (.mk 4 ⟨[], 0, 0, 0, [], false⟩ [] false ks) = ckKids ks) := qh (by
  simp only [ckNd]; rw [if_neg (by omega), if_neg (by simp [leafK]), if_neg (by simp [At.zero]), if_neg (by simp), if_neg (by simp), if_neg (by simp [leafK])])
 have HB := qh ((Below.refl _ w).alloc (qr _) (.cells #[.int .i64 4, .string ⟨#[]⟩, .int .i64 0, .int .i64 0, .int .i64 0, .string ⟨#[]⟩, .bool false, .string ⟨#[]⟩, .bool false, .slice A n c] 99))
 go_enter Tryz.func119, Tryz.ntmps119
 go_wp2
 go_loopg [73] n (fun g iv wr => ∃ (j : Nat), Hid (j + g = n) ∧ iv = .int .i64 j ∧ Hid (ckKids ks = ckKids (ks.drop j)) ∧ Below w.heap.size w wr)
 case atStart => exact ⟨0, qh (Nat.zero_add _), rfl, qh rfl, HB.out⟩
 case round =>
  obtain ⟨j, Hj, rfl, Hcl, hb⟩ := hrel
  have HBr := qh hb; clear hb
  have hbx := (HBr.out.cell (p := ⟨bx, 0, none⟩) hbl).trans HX0.out
  unfold selfC at hbx
  have hbr : bx < wr.heap.size := ql hbl HBr.out.size
  by_cases hj : j < n
  ·obtain ⟨b, o, x, y, rfl, hb, hy, hxy, hcell⟩ := (HK.out.under HBr.out HS.out).at_ hj
   have Hdr := qh (drop_step hy)
   have hmem := List.mem_of_getElem? hy
   obtain ⟨yk, ya, yf, yn, yks⟩ := y
   obtain ⟨A', n', c', rfl, -⟩ := hxy.open_
   have g0 := hcell 0 (by omega); have g1 := hcell 1 (by omega); have g2 := hcell 2 (by omega); have g3 := hcell 3 (by omega); have g4 := hcell 4 (by omega)
   have g5 := hcell 5 (by omega); have g6 := hcell 6 (by omega); have g7 := hcell 7 (by omega); have g8 := hcell 8 (by omega); have g9 := hcell 9 (by omega)
   clear hcell
   unfold ndRow at g0 g1 g2 g3 g4 g5 g6 g7 g8 g9
   simp only [qgz, qgs, Nat.add_zero] at g0 g1 g2 g3 g4 g5 g6 g7 g8 g9
   clear hy
   have hxy2 := (hxy.under (Below.refl _ wr |>.alloc (qr _) (.cells #[.int .i64 yk, .string ⟨ya.nm.toArray⟩, .int .i64 ya.op, .int .i64 ya.ver, .int .i64 ya.slot, .string ⟨ya.fl.toArray⟩, .bool ya.on, .string ⟨yf.toArray⟩, .bool yn, .slice A' n' c'] 99)) fun q hq => ql (HS.out q hq) HBr.out.size)
   clear hxy
   have hcall := HI.out _ hmem S _ bx _ hxy2 (fun q hq => by have := HS.out q hq; have := HBr.out.size; simp; omega) (((Below.refl _ wr |>.alloc (qr _) _).cell (p := ⟨bx, 0, none⟩) hbr).trans ((HBr.out.cell (p := ⟨bx, 0, none⟩) hbl).trans HX0.out))
   unfold ndRow at hcall
   have HX : Hid (ckKids (ks.drop j) = if ckNd (.mk yk ya yf yn yks) = 0 then ckKids (ks.drop (j + 1)) else ckNd (.mk yk ya yf yn yks)) := qh (by rw [Hdr.out]; simp only [ckKids])
   generalize hq : ckNd (.mk yk ya yf yn yks) = q at hcall HX
   have HBn := qh (HBr.out.alloc HBr.out.size (.cells #[.int .i64 yk, .string ⟨ya.nm.toArray⟩, .int .i64 ya.op, .int .i64 ya.ver, .int .i64 ya.slot, .string ⟨ya.fl.toArray⟩, .bool ya.on, .string ⟨yf.toArray⟩, .bool yn, .slice A' n' c'] 99))
   clear hq hxy2
   have Hcall := qh hcall; clear hcall
   by_cases h0 : q = 0
   ·subst h0
    go_wp2_with (first | (go_at_call 119; refine Hcall.out.mono ?_; rintro e w' ⟨rfl, hb'⟩; refine Hid.out ?_))
    refine qh ?_
    have HB' := qh (HBn.out.trans (hb'.mono HBn.out.size)); clear hb'
    go_wp2_with fail
    go_roundg (gk - 1)
    case measure => have := Hj.out; omega
    case rel => exact ⟨j + 1, qh (by have := Hj.out; omega), by go_num, qh (by rw [Hcl.out, HX.out]; simp), HB'.out⟩
   ·have h1 : (q != 0) = true := by simpa using h0
    have H0 := qh h0; clear h0
    go_wp2_with (first | (go_at_call 119; refine Hcall.out.mono ?_; rintro e w' ⟨rfl, hb'⟩; refine Hid.out ?_))
    refine qh ?_
    have HB' := qh (HBn.out.trans (hb'.mono HBn.out.size)); clear hb'
    go_wp2_with fail
    go_ret
    exact ⟨ret_int (by rw [HC.out, Hcl.out, HX.out, if_neg H0.out]), HB'.out⟩
  ·go_wp2_with fail
   go_ret
   refine ⟨ret_int ?_, HBr.out⟩
   rw [HC.out, Hcl.out, List.drop_of_length_le (by have := HK.out.len; omega)]; rfl
theorem rwalk_kids5 (f : Qm.W) (no : Bool) (h3 : f.length ≤ maxLen) (hn : isName f = true) (ks : List Nd) (S : Nat → Prop) (A : Option Addr) (n c bx : Nat) (w : World) (ih : RWalks ks) (hnc : n ≤ c) (hc : c ≤ maxLen) (hK : RKids w S A n ks) (hS : ∀ k, S k → k < w.heap.size) (hbx : w.cell? ⟨bx, 0, none⟩ = some (selfC bx)) :
  Calls Tryz.prog 119 #[.agg (ndRow 5 ⟨[], 0, 0, 0, [], false⟩ f no A n c).toArray, .pointer (some ⟨bx, 0, none⟩)] w fun e w' => e = .returned (.int .i64 (ckNd (.mk 5 ⟨[], 0, 0, 0, [], false⟩ f no ks))) ∧ Below w.heap.size w w' := by
 unfold ndRow
 have HI := qh ih; clear ih
 have HX0 := qh hbx
 have hbl : bx < w.heap.size := World.block_lt_of_cell? _ _ hbx
 have henter : ∀ (args : Array Value) (W : World), (callFunc 119 args).run Tryz.prog W = .ok (.enter 119 args) W := fun args W => by kernel_rfl
 clear hbx
 have HS := qh hS; clear hS
 have HK := qh hK; clear hK
 unfold maxLen at hc
 have hnm := fun wx => rname_any ⟨f.toArray⟩ wx (by rw [bsz]; exact h3)
 rw [show (⟨f.toArray⟩ : ByteArray).data.toList = f from by simp, hn] at hnm
 have Hnm := qh hnm; clear hnm
 have HC : Hid (ckNd (.mk 5 ⟨[], 0, 0, 0, [], false⟩ f no ks) = ckKids ks) := qh (by
  simp only [ckNd]; rw [if_neg (by omega), if_neg (by simp [leafK]), if_neg (by simp [At.zero]), if_neg (by simp), if_neg (by simp [hn]), if_neg (by simp [leafK])])
 have HB := qh ((Below.refl _ w).alloc (qr _) (.cells #[.int .i64 5, .string ⟨#[]⟩, .int .i64 0, .int .i64 0, .int .i64 0, .string ⟨#[]⟩, .bool false, .string ⟨f.toArray⟩, .bool no, .slice A n c] 99))
 have HW := qh (Whole.new w _ 99 [.int .i64 5, .string ⟨#[]⟩, .int .i64 0, .int .i64 0, .int .i64 0, .string ⟨#[]⟩, .bool false, .string ⟨f.toArray⟩, .bool no, .slice A n c] rfl)
 clear h3 hn
 go_enter Tryz.func119, Tryz.ntmps119
 go_wp2_with (first | (go_at_call 89; refine (Hnm.out _).mono ?_; rintro e w1 ⟨rfl, hb1⟩; refine Hid.out ?_))
 refine qh ?_
 replace HB := qh (HB.out.trans (hb1.mono HB.out.size))
 have q9 := (HW.out.below hb1 HW.out.lt).cell 9
 simp only [qgz, qgs] at q9
 clear hb1 HW Hnm
 go_wp2
 go_loopg [73] n (fun g iv wr => ∃ (j : Nat), Hid (j + g = n) ∧ iv = .int .i64 j ∧ Hid (ckKids ks = ckKids (ks.drop j)) ∧ Below w.heap.size w wr)
 case atStart => exact ⟨0, qh (Nat.zero_add _), rfl, qh rfl, HB.out⟩
 case round =>
  obtain ⟨j, Hj, rfl, Hcl, hb⟩ := hrel
  have HBr := qh hb; clear hb
  have hbx := (HBr.out.cell (p := ⟨bx, 0, none⟩) hbl).trans HX0.out
  unfold selfC at hbx
  have hbr : bx < wr.heap.size := ql hbl HBr.out.size
  by_cases hj : j < n
  ·obtain ⟨b, o, x, y, rfl, hb, hy, hxy, hcell⟩ := (HK.out.under HBr.out HS.out).at_ hj
   have Hdr := qh (drop_step hy)
   have hmem := List.mem_of_getElem? hy
   obtain ⟨yk, ya, yf, yn, yks⟩ := y
   obtain ⟨A', n', c', rfl, -⟩ := hxy.open_
   have g0 := hcell 0 (by omega); have g1 := hcell 1 (by omega); have g2 := hcell 2 (by omega); have g3 := hcell 3 (by omega); have g4 := hcell 4 (by omega)
   have g5 := hcell 5 (by omega); have g6 := hcell 6 (by omega); have g7 := hcell 7 (by omega); have g8 := hcell 8 (by omega); have g9 := hcell 9 (by omega)
   clear hcell
   unfold ndRow at g0 g1 g2 g3 g4 g5 g6 g7 g8 g9
   simp only [qgz, qgs, Nat.add_zero] at g0 g1 g2 g3 g4 g5 g6 g7 g8 g9
   clear hy
   have hxy2 := (hxy.under (Below.refl _ wr |>.alloc (qr _) (.cells #[.int .i64 yk, .string ⟨ya.nm.toArray⟩, .int .i64 ya.op, .int .i64 ya.ver, .int .i64 ya.slot, .string ⟨ya.fl.toArray⟩, .bool ya.on, .string ⟨yf.toArray⟩, .bool yn, .slice A' n' c'] 99)) fun q hq => ql (HS.out q hq) HBr.out.size)
   clear hxy
   have hcall := HI.out _ hmem S _ bx _ hxy2 (fun q hq => by have := HS.out q hq; have := HBr.out.size; simp; omega) (((Below.refl _ wr |>.alloc (qr _) _).cell (p := ⟨bx, 0, none⟩) hbr).trans ((HBr.out.cell (p := ⟨bx, 0, none⟩) hbl).trans HX0.out))
   unfold ndRow at hcall
   have HX : Hid (ckKids (ks.drop j) = if ckNd (.mk yk ya yf yn yks) = 0 then ckKids (ks.drop (j + 1)) else ckNd (.mk yk ya yf yn yks)) := qh (by rw [Hdr.out]; simp only [ckKids])
   generalize hq : ckNd (.mk yk ya yf yn yks) = q at hcall HX
   have HBn := qh (HBr.out.alloc HBr.out.size (.cells #[.int .i64 yk, .string ⟨ya.nm.toArray⟩, .int .i64 ya.op, .int .i64 ya.ver, .int .i64 ya.slot, .string ⟨ya.fl.toArray⟩, .bool ya.on, .string ⟨yf.toArray⟩, .bool yn, .slice A' n' c'] 99))
   clear hq hxy2
   have Hcall := qh hcall; clear hcall
   by_cases h0 : q = 0
   ·subst h0
    go_wp2_with (first | (go_at_call 119; refine Hcall.out.mono ?_; rintro e w' ⟨rfl, hb'⟩; refine Hid.out ?_))
    refine qh ?_
    have HB' := qh (HBn.out.trans (hb'.mono HBn.out.size)); clear hb'
    go_wp2_with fail
    go_roundg (gk - 1)
    case measure => have := Hj.out; omega
    case rel => exact ⟨j + 1, qh (by have := Hj.out; omega), by go_num, qh (by rw [Hcl.out, HX.out]; simp), HB'.out⟩
   ·have h1 : (q != 0) = true := by simpa using h0
    have H0 := qh h0; clear h0
    go_wp2_with (first | (go_at_call 119; refine Hcall.out.mono ?_; rintro e w' ⟨rfl, hb'⟩; refine Hid.out ?_))
    refine qh ?_
    have HB' := qh (HBn.out.trans (hb'.mono HBn.out.size)); clear hb'
    go_wp2_with fail
    go_ret
    exact ⟨ret_int (by rw [HC.out, Hcl.out, HX.out, if_neg H0.out]), HB'.out⟩
  ·go_wp2_with fail
   go_ret
   refine ⟨ret_int ?_, HBr.out⟩
   rw [HC.out, Hcl.out, List.drop_of_length_le (by have := HK.out.len; omega)]; rfl
theorem rwalk_any : ∀ (y : Nd) (S : Nat → Prop) (x : List Value) (bx : Nat) (w : World), RNd w S x y → (∀ k, S k → k < w.heap.size) → w.cell? ⟨bx, 0, none⟩ = some (selfC bx) →
  Calls Tryz.prog 119 #[.agg x.toArray, .pointer (some ⟨bx, 0, none⟩)] w fun e w' => e = .returned (.int .i64 (ckNd y)) ∧ Below w.heap.size w w' := by
 refine Nd.ind fun k a f no ks ih => ?_
 intro S x bx w hR hS hbx
 obtain ⟨A, n, c, rfl, hnc, hc, h1, h2, h3, hK⟩ := hR.open_
 obtain ⟨nm, op, ver, slot, fl, on⟩ := a
 by_cases hk : k < 1 ∨ 5 < k
 ·exact rwalk_out nm fl f op ver slot k on no A n c ks w bx hk
 by_cases h12 : k = 1 ∨ k = 2
 ·rcases h12 with rfl | rfl
  ·exact rwalk_leaf1 nm fl f op ver slot on no A n c ks w bx hnc hc h1 h2 hK.len
  ·exact rwalk_leaf2 nm fl f op ver slot on no A n c ks w bx hnc hc h1 h2 hK.len
 by_cases ha : nm = [] ∧ op = 0 ∧ ver = 0 ∧ slot = 0 ∧ fl = [] ∧ on = false
 ·obtain ⟨rfl, rfl, rfl, rfl, rfl, rfl⟩ := ha
  rcases (show k = 3 ∨ k = 4 ∨ k = 5 by omega) with rfl | rfl | rfl
  ·by_cases hf : f = [] ∧ no = false
   ·obtain ⟨rfl, rfl⟩ := hf
    exact rwalk_kids3 ks S A n c bx w ih hnc hc hK hS hbx
   ·exact rwalk_flag3 f no A n c ks w bx hf
  ·by_cases hf : f = [] ∧ no = false
   ·obtain ⟨rfl, rfl⟩ := hf
    exact rwalk_kids4 ks S A n c bx w ih hnc hc hK hS hbx
   ·exact rwalk_flag4 f no A n c ks w bx hf
  ·cases hn : isName f
   ·exact rwalk_name f no A n c ks w bx h3 hn
   ·exact rwalk_kids5 f no h3 hn ks S A n c bx w ih hnc hc hK hS hbx
 ·exact rwalk_bad nm fl f op ver slot k on no A n c ks w bx (by omega) (by omega) ha
end Go.Proofs.YtedbhlgjcnnknaaGreatDoor

namespace Go.Proofs.YtedbhlgjcnnknaaGreatDoor
open Go.RowKit Qm
theorem rcheckNeed_any (y : Nd) (S : Nat → Prop) (x : List Value) (w : World) (hR : RNd w S x y) (hS : ∀ k, S k → k < w.heap.size) :
  Calls Tryz.prog 90 #[.agg x.toArray] w fun e w' => e = .returned (.int .i64 (ckNeed y)) ∧ Below w.heap.size w w' := by
 have hm := szd_many y
 have hle := szd_le y 4 (by omega)
 have HC : Hid (ckNeed y = if 20 < (szd y 4).1 ∨ 4 < (szd y 4).2 then 2 else ckNd y) := qh (by unfold ckNeed; simp only [hm])
 have hz := fun wx hw h => sized_any y S x 4 wx hw h (by omega)
 clear hm
 have hb0 : Below w.heap.size w (w.alloc (.cells x.toArray 99)) := (Below.refl _ w).alloc (qr _) _
 have HB := qh hb0
 have HW := qh (Whole.new w _ 99 x rfl)
 have Hwk := qh (fun bx wx hw h hc => rwalk_any y S x bx wx hw h hc)
 have HR := qh hR; have HS := qh hS
 generalize szd y 4 = q at HC hz hle
 generalize ckNeed y = R at HC ⊢
 generalize ckNd y = v at HC Hwk
 obtain ⟨m, d⟩ := q
 simp only at HC hz hle
 obtain ⟨m1, m2, d1, d2⟩ := hle
 obtain ⟨k, a, f, no, ks⟩ := y
 obtain ⟨A, n, c, rfl, -⟩ := hR.open_
 clear hR hS hb0
 unfold ndRow at HB HW HR hz Hwk ⊢
 have hz4 : ((4 : Nat) : Int) = 4 := rfl
 simp only [hz4] at hz
 have Hz := qh (hz _ (HR.out.under HB.out HS.out) fun k hk => ql (HS.out k hk) HB.out.size)
 clear hz
 have henter : ∀ (args : Array Value) (W : World), (callFunc 119 args).run Tryz.prog W = .ok (.enter 119 args) W := fun args W => by kernel_rfl
 by_cases hmm : 20 < m
 ·have HC2 := qh (HC.out.trans (if_pos (.inl hmm)))
  go_enter Tryz.func90, Tryz.ntmps90
  go_wp2_with (first | (go_at_call 118; refine Hz.out.mono ?_; rintro e w1 ⟨rfl, hb1⟩; refine Hid.out ?_))
  refine qh ?_
  have HB1 := qh (HB.out.trans (hb1.mono HB.out.size))
  clear hb1
  go_wp2
  go_ret
  exact ⟨ret_int HC2.out.symm, HB1.out⟩
 have hmm' : decide (20 < m) = false := by simpa using hmm
 by_cases hdd : 4 < d
 ·have HC2 := qh (HC.out.trans (if_pos (.inr hdd)))
  go_enter Tryz.func90, Tryz.ntmps90
  go_wp2_with (first | (go_at_call 118; refine Hz.out.mono ?_; rintro e w1 ⟨rfl, hb1⟩; refine Hid.out ?_))
  refine qh ?_
  have HB1 := qh (HB.out.trans (hb1.mono HB.out.size))
  clear hb1
  go_wp2
  go_ret
  exact ⟨ret_int HC2.out.symm, HB1.out⟩
 have hdd' : decide (4 < d) = false := by simpa using hdd
 have HC2 := qh (HC.out.trans (if_neg (by omega)))
 go_enter Tryz.func90, Tryz.ntmps90
 go_wp2_with (first | (go_at_call 118; refine Hz.out.mono ?_; rintro e w1 ⟨rfl, hb1⟩; refine Hid.out ?_))
 refine qh ?_
 have HB1 := qh (HB.out.trans (hb1.mono HB.out.size))
 have HW1 := qh (HW.out.below hb1 HW.out.lt); clear hb1
 have g0 := HW1.out.cell 0; have g1 := HW1.out.cell 1; have g2 := HW1.out.cell 2; have g3 := HW1.out.cell 3; have g4 := HW1.out.cell 4
 have g5 := HW1.out.cell 5; have g6 := HW1.out.cell 6; have g7 := HW1.out.cell 7; have g8 := HW1.out.cell 8; have g9 := HW1.out.cell 9
 simp only [qgz, qgs] at g0 g1 g2 g3 g4 g5 g6 g7 g8 g9
 have hlt := HW1.out.lt
 have hbl : Below w1.heap.size w1 (w1.alloc (.cells #[selfC w1.heap.size] 144)) := (Below.refl _ _).alloc (qr _) _
 have HB2 := qh (HB1.out.trans (hbl.mono HB1.out.size))
 have Hwk2 := qh (Hwk.out w1.heap.size _ (HR.out.under HB2.out HS.out) (fun k hk => ql (HS.out k hk) HB2.out.size) ((Whole.new w1 _ 144 [selfC w1.heap.size] rfl).cell 0))
 clear hbl Hwk
 unfold selfC at Hwk2 HB2
 go_wp2_with (first | (go_at_call 119; refine Hwk2.out.mono ?_; rintro e w3 ⟨rfl, hb3⟩; refine Hid.out ?_))
 refine qh ?_
 have HB3 := qh (HB2.out.trans (hb3.mono HB2.out.size))
 clear hb3
 go_wp2
 go_ret
 exact ⟨ret_int HC2.out.symm, HB3.out⟩
end Go.Proofs.YtedbhlgjcnnknaaGreatDoor

namespace Go.Proofs.YtedbhlgjcnnknaaGreatDoor
open Go.RowKit Qm
def StrSet (P : Program) (w : World) (b : Nat) (K : Qm.W → Bool) (m : Nat) : Prop :=
 ∃ D : DataW Unit, w.ownsMap P 9 (plainElem P 4) b m D ∧ Maps.size D = m ∧ ∀ x : Qm.W, x.length ≤ maxLen → Maps.has D (.string x) = K x ∧ D.atKey (.string x) (.lit (.bool false)) = .lit (.bool (K x))
theorem skey_ {P : Program} {k : TypeId} (hk : P.underlying k = some .string) {x : Qm.W} (hx : x.length ≤ maxLen) : keyOf P k (.string ⟨x.toArray⟩) = some (.string x) := by
 rw [WideMaps.keyOf_string_mk hk (by simpa [ByteArray.size] using hx)]
section
variable {P : Program} {w w' : World} {b m : Nat} {K : Qm.W → Bool}
theorem StrSet.made (P : Program) (w : World) : StrSet P (w.alloc (.map #[] 0)) w.heap.size (fun _ => false) 0 :=
 ⟨.map [], World.ownsMap_made w P 9 _, rfl, fun x _ => ⟨rfl, rfl⟩⟩
theorem StrSet.kept {row : Option Nat} (h : StrSet P w b K m) (hg : w.grownBy w' row) (hne : some b ≠ row) : StrSet P w' b K m := by
 obtain ⟨D, h1, h2⟩ := h
 exact ⟨D, h1.kept hg hne, h2⟩
theorem StrSet.lt (h : StrSet P w b K m) : b < w.heap.size := by obtain ⟨D, h1, _⟩ := h; exact h1.lt
theorem StrSet.put (h : StrSet P w b K m) (hk : P.underlying 9 = some .string) (he : P.underlying 4 = some .bool) {t : TypeId} (ht : P.underlying t = some (.map 9 4)) {x : Qm.W} (hx : x.length ≤ maxLen) (hm : m < maxLen) :
  ∃ w', (Instr.mapUpdate t (.map (some b)) (.string ⟨x.toArray⟩) (.bool true)).run P w = .ok () w' ∧ StrSet P w' b (fun y => y == x || K y) (if K x then m else m + 1) ∧ w.grownBy w' (some b) ∧ w'.heap.size = w.heap.size := by
 obtain ⟨D, h1, h2, h3⟩ := h
 have Kd := Maps.string_keyed (P := P) hk
 have hkey := skey_ (P := P) hk hx
 have hkl : WideAt.IsKeyLit (.string x) := Kd.key hkey
 obtain ⟨w', hrun, h4, h5⟩ := h1.store Kd ht hm hkey (plainElem_bool he true)
 have htd := h1.tidy Kd
 have hsz : Maps.size (D.put (.string x) (.lit (.bool true))) = if K x then m else m + 1 := by
  rw [Maps.size_put htd, (h3 x hx).1, h2]
 refine ⟨w', hrun, ⟨_, ?_, hsz, fun y hy => ?_⟩, h5.grown, ?_⟩
 ·have e : Maps.size (D.put (.string x) (.lit (.bool true))) ≤ if K x then m else m + 1 := by rw [hsz]; exact qr _
  obtain ⟨es, clock, hb, F, hs, hD⟩ := h4
  refine ⟨es, clock, hb, F, ?_, hD⟩
  rw [hD] at e
  simpa [Maps.size, length_sorted] using e
 ·by_cases hyx : y = x
  ·subst hyx
   rw [Maps.has_put_same htd.isMap hkl, Maps.atKey_put_same htd.isMap hkl]
   simp
  ·have hne : (Lit.string y) ≠ .string x := by intro e; injection e with e; exact hyx e
   rw [Maps.has_put_other hne, Maps.atKey_put_other hne]
   have : (y == x) = false := by simpa using hyx
   show _ = (y == x || K y) ∧ _ = DataW.lit (.bool (y == x || K y))
   rw [this, Bool.false_or]
   exact h3 y hy
 ·obtain ⟨es, clock, es', clock', _, rfl⟩ := h5
  simp [ChangeMaps.setBlock]
end
end Go.Proofs.YtedbhlgjcnnknaaGreatDoor

namespace Qm
open Go
theorem wle_trans {a b c : W} (h1 : a ≤ b) (h2 : b ≤ c) : a ≤ c := List.le_trans h1 h2
theorem wlt_of {a b : W} (h1 : a ≤ b) (h2 : a ≠ b) : a < b :=
 Decidable.byContradiction fun h => h2 (List.le_antisymm h1 (List.not_lt.1 h))
theorem wlt_of_le_lt {a b c : W} (h1 : a ≤ b) (h2 : b < c) : a < c := Std.lt_of_le_of_lt h1 h2
theorem compactUpTo_strict (d : Array W) (hs : ∀ i j, i ≤ j → j < d.size → d[i]! ≤ d[j]!) : ∀ m, m ≤ d.size → (Lib.compactUpTo d m).Pairwise (· < ·) ∧ ∀ x ∈ Lib.compactUpTo d m, ∃ j, j < m ∧ x = d[j]! := by
 intro m
 induction m with
 | zero => intro _; simp [Lib.compactUpTo]
 | succ m ih =>
  intro hm
  obtain ⟨h1, h2⟩ := ih (by omega)
  rw [Lib.compactUpTo_succ]
  split
  ·rename_i hk
   refine ⟨List.pairwise_append.2 ⟨h1, by simp, fun x hx y hy => ?_⟩, fun x hx => ?_⟩
   ·obtain ⟨j, hj, rfl⟩ := h2 x hx
    obtain rfl : y = d[m]! := by simpa using hy
    have hne : d[m - 1]! ≠ d[m]! := by
     intro e
     unfold Lib.keeps at hk
     simp at hk
     rcases hk with hk | hk
     ·omega
     ·exact hk e.symm
    exact wlt_of_le_lt (hs j (m - 1) (by omega) (by omega)) (wlt_of (hs (m - 1) m (by omega) (by omega)) hne)
   ·rcases List.mem_append.1 hx with hx | hx
    ·obtain ⟨j, hj, e⟩ := h2 x hx; exact ⟨j, by omega, e⟩
    ·exact ⟨m, by omega, by simpa using hx⟩
  ·rw [List.append_nil]
   exact ⟨h1, fun x hx => by obtain ⟨j, hj, e⟩ := h2 x hx; exact ⟨j, by omega, e⟩⟩
theorem strict_eq : ∀ {a b : List W}, a.Pairwise (· < ·) → b.Pairwise (· < ·) → (∀ x, x ∈ a ↔ x ∈ b) → a = b
 | [], [], _, _, _ => rfl
 | [], y :: _, _, _, h => by have := (h y).2 (List.mem_cons_self ..); simp at this
 | x :: _, [], _, _, h => by have := (h x).1 (List.mem_cons_self ..); simp at this
 | x :: r, y :: t, ha, hb, h => by
  obtain ⟨a1, a2⟩ := List.pairwise_cons.1 ha
  obtain ⟨b1, b2⟩ := List.pairwise_cons.1 hb
  have e : x = y := by
   rcases List.mem_cons.1 ((h x).1 (List.mem_cons_self ..)) with e | hx
   ·exact e
   rcases List.mem_cons.1 ((h y).2 (List.mem_cons_self ..)) with e | hy
   ·exact e.symm
   exact absurd (List.lt_trans (a1 y hy) (b1 x hx)) (List.lt_irrefl _)
  subst e
  congr 1
  refine strict_eq a2 b2 fun z => ⟨fun hz => ?_, fun hz => ?_⟩
  ·rcases List.mem_cons.1 ((h z).1 (List.mem_cons_of_mem _ hz)) with e | h1
   ·subst e; exact absurd (a1 z hz) (List.lt_irrefl _)
   ·exact h1
  ·rcases List.mem_cons.1 ((h z).2 (List.mem_cons_of_mem _ hz)) with e | h1
   ·subst e; exact absurd (b1 z hz) (List.lt_irrefl _)
   ·exact h1
end Qm
