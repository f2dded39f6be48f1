/- The other telling of a name, walked. -/
import Derived.Test.YtheccogihldjgaaDoorAW6
import Derived.Test.YtheccogihldjgaaDoorAPlain3
import Derived.Shelf.Strings.SlTrimAscii
namespace Go.Proofs.YtheccogihldjgaaDoor
open Go.RowKit Qm

theorem bs_one {s : ByteArray} {c : UInt8} {r : List UInt8} (h : s.data.toList = c :: r) : s.extract 0 1 = ⟨#[c]⟩ := by
  have e : (s.extract 0 1).data.toList = [c] := by rw [Lib.extract_data, h]; simp
  generalize s.extract 0 1 = t at e
  obtain ⟨⟨l⟩⟩ := t
  simp at e
  subst e
  rfl

set_option maxHeartbeats 1600000 in
theorem rname_any (s : ByteArray) (w : World) (hs : s.size ≤ maxLen) :
    Calls Tryd.prog 14 #[.string s] w fun e w' => e = .returned (.bool (isName s.data.toList)) ∧ Below w.heap.size w w' := by
  unfold maxLen at hs
  have HSZ := Lib.hid (Lib.size_eq s)
  by_cases h0 : s.size = 0
  · have e0 : decide ((0 : Int) < (s.size : Int)) = false := decide_eq_false (by omega)
    go_enter Tryd.func14, Tryd.ntmps14
    go_wp2
    go_ret
    refine ⟨ret_bool ?_, Below.refl _ _⟩
    unfold isName
    rw [decide_eq_false (by have := HSZ.out; omega)]; rfl
  · have e0 : decide ((0 : Int) < (s.size : Int)) = true := by simp; omega
    by_cases h8 : 8 < s.size
    · have e8 : decide ((s.size : Int) ≤ 8) = false := by simp; omega
      go_enter Tryd.func14, Tryd.ntmps14
      go_wp2
      go_ret
      refine ⟨ret_bool ?_, Below.refl _ _⟩
      unfold isName
      rw [decide_eq_false (by have := HSZ.out; omega)]; rfl
    · have e8 : decide ((s.size : Int) ≤ 8) = true := by simp; omega
      obtain ⟨c, r, hcr⟩ : ∃ c r, s.data.toList = c :: r := by
        cases e : s.data.toList with
        | nil => have h := HSZ.out; rw [e, List.length_nil] at h; omega
        | cons c r => exact ⟨c, r, rfl⟩
      have htold := isName_told (c := c) (r := r) (by have := HSZ.out; rw [hcr] at this; omega)
      rw [← hcr] at htold
      have HT := Lib.hid htold; clear htold
      have hcon := fun wx => Tryd.strings_Contains_one ⟨letters.toArray⟩ c wx
      rw [show (⟨letters.toArray⟩ : ByteArray).data.toList = letters from by simp, letters_low, ← bs_one hcr] at hcon
      have h1 : (1 : Int) ≤ (s.size : Int) := by omega
      cases hlow : lowB c
      · rw [hlow] at hcon HT
        have HC := Lib.hid hcon; clear hcon
        go_enter Tryd.func14, Tryd.ntmps14
        go_wp2_with (first | (go_at_call 25; refine (HC.out _).mono ?_; rintro e w1 ⟨rfl, rfl⟩; refine Hid.out ?_))
        refine Lib.hid ?_
        go_wp2
        go_ret
        exact ⟨ret_bool (by rw [HT.out]; rfl), Below.refl _ _⟩
      · rw [hlow, Bool.true_and] at HT
        rw [hlow] at hcon
        have HC := Lib.hid hcon; clear hcon
        have htrim : ∀ wx, Calls Tryd.prog 26 #[.string s, .string ⟨alnum.toArray⟩] wx fun e w' => e = .returned (.string ⟨(Lib.trimS s.data.toList (⟨alnum.toArray⟩ : ByteArray).data.toList).toArray⟩) ∧ ∃ q, w' = ((wx.alloc (.cells (Lib.setCells (⟨alnum.toArray⟩ : ByteArray).data.toList) 56)).alloc (.cells (Lib.setCells (⟨alnum.toArray⟩ : ByteArray).data.toList) 56)).drewN q := fun wx => Any.strings_Trim_set Tryd.lays160 (zero_of_info (P := Tryd.prog) (t := 56) (v := .agg (Array.replicate 256 (.bool false))) (n := 256) (by kernel_rfl)).1 (by kernel_rfl) s ⟨alnum.toArray⟩ wx (by decide) (by omega) (by omega) (by decide) (fun j b h => by
          have hm := List.mem_of_getElem? h
          revert hm
          rw [show (⟨alnum.toArray⟩ : ByteArray).data.toList = alnum from by simp]
          intro hm
          exact (show ∀ b ∈ alnum, b.toNat < 128 by decide) b hm)
        rw [show (⟨alnum.toArray⟩ : ByteArray).data.toList = alnum from by simp] at htrim
        generalize Lib.trimS s.data.toList alnum = T at htrim HT
        have HTr := Lib.hid htrim; clear htrim
        have hT : (⟨T.toArray⟩ : ByteArray).toList.isEmpty = T.isEmpty := by rw [Lib.toList_data]
        go_enter Tryd.func14, Tryd.ntmps14
        go_wp2_with (first
          | (go_at_call 25; refine (HC.out _).mono ?_; rintro e w1 ⟨rfl, rfl⟩; refine Hid.out ?_)
          | (go_at_call 26; refine (HTr.out _).mono ?_; rintro e w1 ⟨rfl, n, rfl⟩; refine Hid.out ?_))
        refine Lib.hid ?_
        go_wp2_with (first
          | (go_at_call 26; refine (HTr.out _).mono ?_; rintro e w1 ⟨rfl, n, rfl⟩; refine Hid.out ?_))
        refine Lib.hid ?_
        go_wp2
        go_ret
        exact ⟨ret_bool (by rw [HT.out]), below_drewN (((Below.refl _ _).alloc (Nat.le_refl _) _).alloc (by simp) _) n⟩
end Go.Proofs.YtheccogihldjgaaDoor
