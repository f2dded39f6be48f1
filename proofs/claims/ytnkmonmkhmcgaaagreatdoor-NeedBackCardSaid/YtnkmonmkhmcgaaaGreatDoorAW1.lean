/- atom.Name, walked. -/
import Derived.Test.YtnkmonmkhmcgaaaGreatDoorProg
import Derived.Test.YtnkmonmkhmcgaaaGreatDoorBase
import Derived.Test.YtnkmonmkhmcgaaaGreatDoorAPlain2
import Derived.Lib.ConvBytes
import Derived.Lib.AtoiErrMem
import Derived.Lib.Strings
namespace Go.Proofs.YtnkmonmkhmcgaaaGreatDoor
open Go.RowKit Qm

theorem okFrom_drop {l : List UInt8} {k : Nat} (h : k < l.length) : okFrom k (l.drop k) = (okAt k (l.getD k 0) && okFrom (k + 1) (l.drop (k + 1))) := by
  rw [List.drop_eq_getElem_cons h, okFrom]
  simp [List.getD, h]

theorem okAt_low {k : Nat} {c : UInt8} (h1 : 97 ≤ c.toNat) (h2 : c.toNat ≤ 122) : okAt k c = true := by simp [okAt, lowB, h1, h2]
theorem okAt_dig {k : Nat} {c : UInt8} (h0 : 0 < k) (h1 : 48 ≤ c.toNat) (h2 : c.toNat ≤ 57) : okAt k c = true := by simp [okAt, digB, h0, h1, h2]
theorem okAt_not {k : Nat} {c : UInt8} (h1 : c.toNat < 97 ∨ 122 < c.toNat) (h2 : k = 0 ∨ c.toNat < 48 ∨ 57 < c.toNat) : okAt k c = false := by
  simp only [okAt, lowB, digB, Bool.or_eq_false_iff, Bool.and_eq_false_iff, decide_eq_false_iff_not]
  omega

set_option maxHeartbeats 1600000 in
theorem name_any (s : ByteArray) (w : World) (hs : s.size ≤ maxLen) :
    Calls Tryz.prog 47 #[.string s] w fun e w' => e = .returned (.bool (isName s.data.toList)) ∧ Below w.heap.size w w' := by
  unfold maxLen at hs
  have HL := Lib.hid (Lib.size_eq s).symm
  by_cases h0 : s.size = 0
  · have hz : s = ⟨#[]⟩ := by
      obtain ⟨⟨l⟩⟩ := s
      have : l.length = 0 := h0
      cases l
      · rfl
      · simp at this
    subst hz
    go_enter Tryz.func47, Tryz.ntmps47
    go_wp2
    go_ret
    exact ⟨rfl, Below.refl _ _⟩
  · have hne : s.toList.isEmpty = false := by
      have := HL.out
      rw [Lib.toList_data]
      cases e : s.data.toList
      · rw [e] at this; simp at this; omega
      · rfl
    by_cases h8 : 8 < s.size
    · have h8' : (8 : Int) < (s.size : Int) := by omega
      go_enter Tryz.func47, Tryz.ntmps47
      go_wp2
      go_ret
      refine ⟨?_, Below.refl _ _⟩
      have : isName s.data.toList = false := by
        have := HL.out
        unfold isName
        rw [decide_eq_false (by omega)]; rfl
      rw [this]; rfl
    · have h8' : decide ((8 : Int) < (s.size : Int)) = false := by simp; omega
      have hcv := Lib.run_convert_string_bytes (P := Tryz.prog) w 9 69 5 s Tryz.underlying9 Tryz.underlying69 Tryz.underlying5
      have hcell : ∀ k, k < s.size → (Lib.bytesWorld w 5 s).cell? ⟨w.heap.size, k, none⟩ = some (.int .u8 (s.data.toList.getD k 0).toNat) := fun k hk => Lib.bytesWorld_cell w 5 s k hk
      have hbw := Lib.bytesWorld_below w 5 s
      have HB := Lib.hid hbw; clear hbw
      generalize Lib.bytesWorld w 5 s = W1 at hcv hcell HB
      have HC := Lib.hid hcell; clear hcell
      go_enter Tryz.func47, Tryz.ntmps47
      go_wp2
      clear hcv
      go_loop [15] (fun i => ∃ k : Nat, k ≤ s.size ∧ i = .int .i64 k ∧ okFrom 0 s.data.toList = okFrom k (s.data.toList.drop k)) (fun i => s.size - (intOf i).toNat)
      case atStart => exact ⟨0, Nat.zero_le _, rfl, rfl⟩
      case round =>
        obtain ⟨k, hk, rfl, hok⟩ := hrel
        have Hok := Lib.hid hok; clear hok
        by_cases hlt : k < s.size
        · have hc := HC.out k hlt
          have HS := Lib.hid (okFrom_drop (l := s.data.toList) (k := k) (by have := HL.out; omega))
          generalize s.data.toList.getD k 0 = c at hc HS
          have no : okAt k c = false → isName s.data.toList = false := by
            intro h
            unfold isName
            rw [Hok.out, HS.out, h, Bool.false_and, Bool.and_false]
          have yes : okAt k c = true → okFrom 0 s.data.toList = okFrom (k + 1) (s.data.toList.drop (k + 1)) := by
            intro h
            rw [Hok.out, HS.out, h, Bool.true_and]
          have No := Lib.hid no; clear no
          have Yes := Lib.hid yes; clear yes
          by_cases a1 : c.toNat < 97
          · have b1 : (c.toNat : Int) < 97 := by omega
            by_cases k0 : k = 0
            · subst k0
              go_wp2
              go_ret
              refine ⟨?_, HB.out⟩
              rw [No.out (okAt_not (by omega) (by omega))]; rfl
            · have bk : ((k : Int) == 0) = false := by simp; omega
              by_cases a3 : c.toNat < 48
              · have b3 : (c.toNat : Int) < 48 := by omega
                go_wp2
                go_ret
                refine ⟨?_, HB.out⟩
                rw [No.out (okAt_not (by omega) (by omega))]; rfl
              · have b3 : decide ((c.toNat : Int) < 48) = false := by simp; omega
                by_cases a4 : 57 < c.toNat
                · have b4 : 57 < (c.toNat : Int) := by omega
                  go_wp2
                  go_ret
                  refine ⟨?_, HB.out⟩
                  rw [No.out (okAt_not (by omega) (by omega))]; rfl
                · have b4 : decide (57 < (c.toNat : Int)) = false := by simp; omega
                  go_wp2
                  go_round
                  case rel => exact ⟨k + 1, by omega, by go_num, Yes.out (okAt_dig (by omega) (by omega) (by omega))⟩
                  case measure => simp [intOf]; omega
          · have b1 : decide ((c.toNat : Int) < 97) = false := by simp; omega
            by_cases a2 : 122 < c.toNat
            · have b2 : 122 < (c.toNat : Int) := by omega
              by_cases k0 : k = 0
              · subst k0
                go_wp2
                go_ret
                refine ⟨?_, HB.out⟩
                rw [No.out (okAt_not (by omega) (by omega))]; rfl
              · have bk : ((k : Int) == 0) = false := by simp; omega
                have b3 : decide ((c.toNat : Int) < 48) = false := by simp; omega
                have b4 : 57 < (c.toNat : Int) := by omega
                go_wp2
                go_ret
                refine ⟨?_, HB.out⟩
                rw [No.out (okAt_not (by omega) (by omega))]; rfl
            · have b2 : decide (122 < (c.toNat : Int)) = false := by simp; omega
              go_wp2
              go_round
              case rel => exact ⟨k + 1, by omega, by go_num, Yes.out (okAt_low (by omega) (by omega))⟩
              case measure => simp [intOf]; omega
        · go_wp2
          go_ret
          refine ⟨?_, HB.out⟩
          have e : okFrom 0 s.data.toList = true := by
            rw [Hok.out, List.drop_of_length_le (by have := HL.out; omega)]; rfl
          have : isName s.data.toList = true := by
            unfold isName
            have := HL.out
            rw [e, decide_eq_true (by omega)]; rfl
          rw [this]; rfl
end Go.Proofs.YtnkmonmkhmcgaaaGreatDoor
