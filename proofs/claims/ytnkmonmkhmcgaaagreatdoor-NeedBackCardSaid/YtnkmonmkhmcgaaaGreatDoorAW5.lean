/- strings.IndexRune at a rune beyond ASCII, in a short string of ASCII: -1. -/
import Derived.Test.YtnkmonmkhmcgaaaGreatDoorAW4
import Derived.Lib.OthersKept
import Derived.Lib.DecodeN
import Derived.Laws.Runes
import Derived.WalkMore
import Derived.IntWalk
namespace Go.Proofs.YtnkmonmkhmcgaaaGreatDoor
open Go.RowKit Qm

set_option maxRecDepth 100000 in
set_option maxHeartbeats 1600000 in
theorem indexRune_bad (s : ByteArray) (r : Int) (w : World) (h128 : 128 ≤ r) (hne : r ≠ 65533) (hv : Lib.validRune r = false) :
    Calls Tryz.prog 100 #[.string s, .int .i32 r] w fun e w' => e = .returned (.int .i64 (-1)) ∧ Below w.heap.size w w' := by
  have h1 : decide (r < 128) = false := by simp; omega
  have h2 : (r == 65533) = false := by simpa using hne
  have h3 : 0 ≤ r := by omega
  have hval := Tryz.utf8_ValidRune r w
  rw [hv] at hval
  go_enter Tryz.func100, Tryz.ntmps100
  go_wp2_with (first | (go_at_call 120; refine hval.mono ?_; rintro e w1 ⟨rfl, rfl⟩))
  go_ret
  exact ⟨rfl, Below.refl _ _⟩

set_option maxRecDepth 100000 in
set_option maxHeartbeats 1600000 in
theorem indexRune_err (s : ByteArray) (w : World) (hsa : ∀ i (h : i < s.size), (s[i]'h).toNat < 128) :
    Calls Tryz.prog 100 #[.string s, .int .i32 65533] w fun e w' => e = .returned (.int .i64 (-1)) ∧ Below w.heap.size w w' := by
  have HS := Lib.hid hsa; clear hsa
  have HK := Lib.hid (World.iter_heap w s 0)
  have HB : Hid (Below w.heap.size w (w.iter s 0)) := Lib.hid ((Below.refl _ w).alloc (Nat.le_refl _) _)
  go_enter Tryz.func100, Tryz.ntmps100
  go_wp2
  go_loopw [5, 6] (fun _ _ wr => ∃ pos : Nat, pos ≤ s.size ∧ wr.heap[w.heap.size]? = some (.stringIter s pos) ∧ Below w.heap.size w wr) (fun _ _ wr => s.size - wr.iterPos w.heap.size)
  case atStart => exact ⟨0, Nat.zero_le _, HK.out, HB.out⟩
  case round =>
    obtain ⟨pos, hps, hk, hnx⟩ := hrel
    by_cases hp : pos < s.size
    · have h128 := HS.out pos hp
      have hnext : ∀ ty, (Instr.next (.pointer (some ⟨w.heap.size, 0, none⟩)) true ty).run Tryz.prog wr = _ := fun ty => Lib.run_next_ascii_at wr w.heap.size s pos ty hk hp h128
      have hk1 := Lib.iterAt_heap wr w.heap.size s pos (pos + 1) hk
      have hnx1 : Below w.heap.size w (wr.iterAt w.heap.size s (pos + 1)) := Lib.below_iterAt hnx (Nat.le_refl _) s (pos + 1)
      have hmu : wr.iterPos w.heap.size = pos := by simp [World.iterPos, hk]
      have HM := Lib.hid hmu; clear hmu hk
      have HK1 := Lib.hid hk1; clear hk1
      have HN := Lib.hid hnx1; clear hnx hnx1
      generalize wr.iterAt w.heap.size s (pos + 1) = W1 at hnext HK1 HN
      have hc : (((s[pos]'hp).toNat : Int) == 65533) = false := by simp; omega
      generalize (s[pos]'hp).toNat = c at hnext hc h128
      go_wp2
      go_roundw
      case rel => exact ⟨pos + 1, by omega, HK1.out, HN.out⟩
      case measure =>
        have hmu2 : W1.iterPos w.heap.size = pos + 1 := by simp [World.iterPos, HK1.out]
        rw [HM.out, hmu2]
        omega
    · have hnext : ∀ ty, (Instr.next (.pointer (some ⟨w.heap.size, 0, none⟩)) true ty).run Tryz.prog wr = _ := fun ty => Lib.run_next_end_at wr w.heap.size s pos ty hk hp
      have HN := Lib.hid hnx; clear hnx hk
      go_wp2
      go_ret
      exact ⟨rfl, HN.out⟩

theorem indexByte_far (t : ByteArray) (c : UInt8) (hc : 128 ≤ c.toNat) (ht : ∀ b ∈ t.data.toList, b.toNat < 128) (w : World) :
    Calls Tryz.prog 70 #[.string t, .int .u8 (c.toNat : Int)] w fun e w' => e = .returned (.int .i64 (-1)) ∧ w' = w := by
  have h := Tryz.strings_IndexByte t (c.toNat : Int) w
  have e : Lib.indexByte t.data.toList ((c.toNat : Int).toNat.toUInt8) = -1 := by
    have hc' : ((c.toNat : Int).toNat.toUInt8) = c := by simp
    rw [hc']
    generalize t.data.toList = l at ht
    induction l with
    | nil => rfl
    | cons x r ih =>
      have hx := ht x (List.mem_cons_self ..)
      have hne : (x == c) = false := by
        rw [beq_eq_false_iff_ne]
        rintro rfl
        omega
      simp [Lib.indexByte, hne, ih fun b hb => ht b (List.mem_cons_of_mem _ hb)]
  rw [e] at h
  exact h

set_option maxRecDepth 100000 in
set_option maxHeartbeats 3200000 in
theorem indexRune_far (s : ByteArray) (r : Int) (w : World) (h128 : 128 ≤ r) (hne : r ≠ 65533) (hv : Lib.validRune r = true) (hs : s.size ≤ 3) (hsa : ∀ i (h : i < s.size), (s[i]'h).toNat < 128) :
    Calls Tryz.prog 100 #[.string s, .int .i32 r] w fun e w' => e = .returned (.int .i64 (-1)) ∧ Below w.heap.size w w' := by
  have h1 : decide (r < 128) = false := by simp; omega
  have h2 : (r == 65533) = false := by simpa using hne
  have h3 : 0 ≤ r := by omega
  have hval := Tryz.utf8_ValidRune r w
  rw [hv] at hval
  obtain ⟨hE2, hE4, hEl⟩ := encode_facts r (by rw [validRune_eq]; exact hv) h128
  have hcv := run_convert_int_string (P := Tryz.prog) w 21 9 .i32 r (by kernel_rfl) Tryz.underlying9
  generalize Utf8.encode r = E at hE2 hE4 hEl hcv
  have HS := Lib.hid hsa; clear hsa
  have HEl := Lib.hid hEl; clear hEl
  clear hne hv h128
  go_enter Tryz.func100, Tryz.ntmps100
  go_wp2_with (first | (go_at_call 120; refine hval.mono ?_; rintro e w ⟨rfl, rfl⟩))
  have hl0 : (E.size : Int) - 1 = ((E.size - 1 : Nat) : Int) := by omega
  go_step3
  go_wp2
  go_loopw [9, 10] (fun i j wr => ∃ k q : Nat, i = .int .i64 k ∧ j = .int .i64 q ∧ k + 1 = q + E.size ∧ k ≤ 4 ∧ Below w.heap.size w wr) (fun i _ _ => s.size - (intOf i).toNat)
  case atStart => exact ⟨E.size - 1, 0, by rw [← hl0], rfl, by omega, by omega, Below.refl _ _⟩
  case round =>
    obtain ⟨k, q, rfl, rfl, hkq, hk4, hb⟩ := hrel
    have HB := Lib.hid hb; clear hb
    by_cases hlt : k < s.size
    · have ha := HS.out k hlt
      have hz := HEl.out (by omega)
      have hlast : E.size - 1 < E.size := by omega
      have hcmp : (((s[k]'hlt).toNat : Int) == ((E[E.size - 1]'hlast).toNat : Int)) = false := by simp; omega
      have hcmp2 : (((s[k]'hlt).toNat : Int) != ((E[E.size - 1]'hlast).toNat : Int)) = true := by simp; omega
      go_wp2
      go_step3
      go_wp2
      go_quiet (fail)
      rename_i nq
      have HB2 : Hid (Below w.heap.size w (wr.drewN nq)) := Lib.hid (below_drewN HB.out nq)
      generalize wr.drewN nq = wz at HB2 ⊢
      go_wp2_with fail
      have hib := fun (t : ByteArray) (ht : ∀ b ∈ t.data.toList, b.toNat < 128) (wx : World) => indexByte_far t (E[E.size - 1]'hlast) hz ht wx
      have hsub : ∀ b ∈ (s.extract (k + 1) s.size).data.toList, b.toNat < 128 := fun b hb => by
        have hm := mem_extract hb
        obtain ⟨i, hi, rfl⟩ := List.getElem_of_mem hm
        rw [Array.length_toList] at hi
        exact HS.out i hi
      have hcall := hib _ hsub
      have Hcall := Lib.hid hcall
      clear hib hsub hcall
      have hw1 : IntKind.i64.wrap ((k : Int) + 1) = (k : Int) + 1 := IntWalk.i64_in _ (by omega)
      have hw2 : (0 : Int) ≤ (k : Int) + 1 := by omega
      have hw3 : ((k : Int) + 1).toNat = k + 1 := by omega
      have hw4 : k + 1 ≤ s.size := by omega
      have HKQ := Lib.hid hkq; clear hkq
      go_quiet ((go_at_call 70; exact Calls.quiet_of_same (Hcall.out _)))
      go_wp2
      simp only [Exit.noGoto_ret, Exit.inBlock]
      go_wp2
      simp only [Exit.noGoto_ret, Exit.inBlock]
      go_ret
      exact ⟨rfl, below_drewN HB2.out _⟩
    · go_wp2
      simp only [Exit.noGoto_ret, Exit.inBlock]
      go_ret
      exact ⟨rfl, HB.out⟩
end Go.Proofs.YtnkmonmkhmcgaaaGreatDoor
