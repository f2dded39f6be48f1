/- Parts of the proof: walks and plain laws, side by side. -/
import Derived.Test.YthpkffeiehnamaaGreatDoorM22
import Derived.Test.YthpkffeiehnamaaGreatDoorM7
import Derived.Deep.CutBlock
import Derived.Lib.IndexBytes
import Derived.Lib.IndexMore
set_option linter.unusedVariables false
set_option linter.unusedSimpArgs false
set_option linter.unusedSectionVars false
/- The other telling of what a text says: quartermasterref.ReadAtom, walked. -/
namespace Go.Proofs.YthpkffeiehnamaaGreatDoor
open Go.RowKit Qm

set_option maxHeartbeats 1600000 in
theorem rfail_any (w : World) :
    Calls Tryz.prog 136 #[] w fun e w' => e = .returned (.tuple #[.agg #[.string ⟨#[]⟩, .int .i64 0, .int .i64 0, .int .i64 0, .string ⟨#[]⟩, .bool false], .int .i64 1]) ∧ Below w.heap.size w w' := by
  go_enter Tryz.func136, Tryz.ntmps136
  go_wp2
  refine bodyPost_ret (v := .tuple #[.agg #[_, _, _, _, _, _], .int .i64 _]) (by simp [results, Tryz.results136, go_sem]) rfl ⟨rfl, ?_⟩
  exact (Below.refl _ _).alloc (Nat.le_refl _) _

/-- A variable of the library's own that holds some integer. -/
def MaxV (w : World) : Prop := ∃ m, w.cell? ⟨0, 0, none⟩ = some (.int .i64 m)
theorem MaxV.below {w w' : World} (h : MaxV w) (hb : Below w.heap.size w w') : MaxV w' := by
  obtain ⟨m, hm⟩ := h
  exact ⟨m, (hb.cell (World.block_lt_of_cell? _ _ hm)).trans hm⟩

def cutTold (l : List UInt8) : Option (List UInt8 × UInt8 × List UInt8) → List UInt8 × List UInt8 × Bool
  | none => (l, [], false)
  | some (a, _, d) => (a, d, true)
theorem cut_told (l : List UInt8) : Lib.cut l [58] = cutTold l (cutAt (· == 58) l) := by
  unfold Lib.cut
  rw [Lib.index_one, cut_colon]
  cases h : cutAt (· == 58) l with
  | none => simp [cutLen, cutTold]
  | some t =>
    obtain ⟨a, c, d⟩ := t
    obtain ⟨h1, _, _⟩ := of_cutAt_some h
    subst h1
    simp [cutLen, cutTold]

section
variable {w wx : World} {op ver slot : Int} {f : ByteArray} {on : Bool}
theorem PS.op1 (h : PS w op ver slot f on wx) (g : Int) : PS w g ver slot f on (wx.setCell ⟨w.heap.size + 1, 1, none⟩ (.int .i64 g)) :=
  ⟨h.z.far (by show w.heap.size ≠ w.heap.size + 1; omega) _, h.a.set_ 1 _, h.b.setCell (by show w.heap.size ≤ w.heap.size + 1; omega) _⟩
theorem PS.ver1 (h : PS w op ver slot f on wx) (g : Int) : PS w op g slot f on (wx.setCell ⟨w.heap.size + 1, 2, none⟩ (.int .i64 g)) :=
  ⟨h.z.far (by show w.heap.size ≠ w.heap.size + 1; omega) _, h.a.set_ 2 _, h.b.setCell (by show w.heap.size ≤ w.heap.size + 1; omega) _⟩
end
theorem bs_mem (s : ByteArray) (k : Nat) (h : k < s.size) : s[k]'h ∈ s.data.toList := by
  exact Array.getElem_mem_toList (xs := s.data) h
theorem bs_pre (s : ByteArray) {a d : List UInt8} {c : UInt8} (he : s.data.toList = a ++ c :: d) (k : Nat) (hk : k < a.length) (h : k < s.size) : s[k]'h ∈ a := by
  have h1 : s.data.toList[k]? = some (s[k]'h) := by rw [List.getElem?_eq_getElem (by rw [← Lib.size_eq]; exact h)]; rfl
  rw [he, List.getElem?_append_left hk] at h1
  exact List.mem_of_getElem? h1
theorem sign_no {b : UInt8} (h : signB b = false) : ((b.toNat : Int) == 43) = false ∧ ((b.toNat : Int) == 45) = false := by
  simp only [signB, Bool.or_eq_false_iff, beq_eq_false_iff_ne] at h ⊢
  refine ⟨fun e => h.1 (UInt8.toNat_inj.1 (by show b.toNat = 43; omega)), fun e => h.2 (UInt8.toNat_inj.1 (by show b.toNat = 45; omega))⟩
theorem op_no {b : UInt8} (h : opB b = false) : ((b.toNat : Int) != 61) = true ∧ ((b.toNat : Int) != 60) = true ∧ ((b.toNat : Int) != 62) = true := by
  simp only [opB, Bool.or_eq_false_iff, beq_eq_false_iff_ne, bne_iff_ne] at h ⊢
  refine ⟨fun e => h.1.1 (UInt8.toNat_inj.1 (by show b.toNat = 61; omega)), fun e => h.1.2 (UInt8.toNat_inj.1 (by show b.toNat = 60; omega)), fun e => h.2 (UInt8.toNat_inj.1 (by show b.toNat = 62; omega))⟩
theorem sign_yes {c : UInt8} (h : signB c = true) : c = 43 ∨ c = 45 := by simpa [signB] using h
theorem op_yes {c : UInt8} (h : opB c = true) : c = 61 ∨ c = 60 ∨ c = 62 := by simpa [opB, or_assoc] using h

set_option maxRecDepth 100000 in
set_option maxHeartbeats 3200000 in
theorem read_any (s : ByteArray) (w : World) (hs : s.size ≤ 20000) (hL : LaidV w) (hM : MaxV w) :
    Calls Tryz.prog 101 #[.string s] w fun e w' => e = AtEnd (parseFew s.data.toList) ∧ Below w.heap.size w w' := by
  have HLV := Lib.hid hL; clear hL
  have HMV := Lib.hid hM; clear hM
  have HSZ := Lib.hid (Lib.size_eq s)
  obtain ⟨r, hr⟩ : ∃ r, r = parseFew s.data.toList := ⟨_, rfl⟩
  rw [← hr]
  unfold parseFew at hr
  have P1 := Lib.hid (PS.new w)
  obtain ⟨c, hc⟩ : ∃ c, c = cutAt signB s.data.toList := ⟨_, rfl⟩
  rw [← hc] at hr
  have HF := Lib.hid hr; clear hr
  have HC := Lib.hid hc; clear hc
  go_enter Tryz.func101, Tryz.ntmps101
  go_upto_block 0 with fail
  go_cut [0] (Cut1 w r)
  case first =>
    generalize World.alloc (World.alloc w _) _ = w1 at P1 ⊢
    rcases c with _ | ⟨a, c, d⟩
    · have HN := Lib.hid (of_cutAt_none HC.out.symm)
      go_wp2_with fail
      go_loop [19, 0] (fun i s0 => ∃ k : Nat, k ≤ s.size ∧ i = .int .i64 k ∧ s0 = .string s) (fun i s0 => s.size - (intOf i).toNat)
      case atStart => exact ⟨0, Nat.zero_le _, rfl, rfl⟩
      case round =>
        obtain ⟨k, hk, rfl, rfl⟩ := hrel
        by_cases hlt : k < s.size
        · obtain ⟨g1, g2⟩ := sign_no (HN.out _ (bs_mem s k hlt))
          go_wp2
          go_round
          case rel => exact ⟨k + 1, by omega, by go_num, rfl⟩
          case measure => simp [intOf]; omega
        · go_wp2
          go_meet
          case rel => exact ⟨s, ⟨#[]⟩, false, rfl, by omega, by decide, HF.out, P1.out⟩
    · have hl := of_cutAt_some HC.out.symm
      have HLs := Lib.hid hl; clear hl
      have hlen : a.length + 1 + d.length = s.size := by
        rw [HSZ.out, HLs.out.1]; simp; omega
      go_wp2_with fail
      go_loop [19, 0] (fun i s0 => ∃ k : Nat, k ≤ a.length ∧ i = .int .i64 k ∧ s0 = .string s) (fun i s0 => a.length - (intOf i).toNat)
      case atStart => exact ⟨0, Nat.zero_le _, rfl, rfl⟩
      case round =>
        obtain ⟨k, hk, rfl, rfl⟩ := hrel
        have hlt : k < s.size := by omega
        by_cases hka : k < a.length
        · obtain ⟨g1, g2⟩ := sign_no (HLs.out.2.2 _ (bs_pre s HLs.out.1 k hka hlt))
          go_wp2
          go_round
          case rel => exact ⟨k + 1, by omega, by go_num, rfl⟩
          case measure => simp [intOf]; omega
        · obtain rfl : k = a.length := by omega
          have hget := bs_get s HLs.out.1 hlt
          have hk2 : (a.length : Int) < (s.size : Int) := by omega
          have hw1 : IntKind.i64.wrap ((a.length : Int) + 1) = (a.length : Int) + 1 := IntWalk.i64_in _ (by omega)
          have hw2 : (0 : Int) ≤ (a.length : Int) + 1 := by omega
          have hw3 : ((a.length : Int) + 1).toNat = a.length + 1 := by omega
          have HF1 := Lib.hid (bs_drop s HLs.out.1)
          have HR1 := Lib.hid (bs_take s HLs.out.1)
          have HZ1 : Hid ((s.extract 0 a.length).size = a.length) := Lib.hid (by rw [Lib.size_eq, HR1.out])
          have HZ2 : Hid ((s.extract (a.length + 1) s.size).size = d.length) := Lib.hid (by rw [Lib.size_eq, HF1.out])
          have z0 := P1.out.z.cell 0; have z1 := P1.out.z.cell 1; have z2 := P1.out.z.cell 2; have z3 := P1.out.z.cell 3; have z4 := P1.out.z.cell 4; have z5 := P1.out.z.cell 5
          have y0 := P1.out.z.free 0; have y1 := P1.out.z.free 1; have y2 := P1.out.z.free 2; have y3 := P1.out.z.free 3; have y4 := P1.out.z.free 4; have y5 := P1.out.z.free 5
          have a0 := P1.out.a.cell 0; have a1 := P1.out.a.cell 1; have a2 := P1.out.a.cell 2; have a3 := P1.out.a.cell 3; have a4 := P1.out.a.cell 4; have a5 := P1.out.a.cell 5
          have b0 := P1.out.a.free 0; have b1 := P1.out.a.free 1; have b2 := P1.out.a.free 2; have b3 := P1.out.a.free 3; have b4 := P1.out.a.free 4; have b5 := P1.out.a.free 5
          simp only [List.getElem?_cons_zero, List.getElem?_cons_succ] at z0 z1 z2 z3 z4 z5 a0 a1 a2 a3 a4 a5
          rcases sign_yes HLs.out.2.1 with rfl | rfl
          · skip
            go_wp2
            go_region
            have P2 := Lib.hid (((P1.out.flag (s.extract (a.length + 1) s.size)).on_ true).drew)
            clear a0 a1 a2 a3 a4 a5 b0 b1 b2 b3 b4 b5 z0 z1 z2 z3 z4 z5 y0 y1 y2 y3 y4 y5
            clear P1
            generalize World.drew _ = wz at P2 ⊢
            generalize s.extract (a.length + 1) s.size = F at P2 HF1 HZ2 ⊢
            have z0 := P2.out.z.cell 0; have z1 := P2.out.z.cell 1; have z2 := P2.out.z.cell 2; have z3 := P2.out.z.cell 3; have z4 := P2.out.z.cell 4; have z5 := P2.out.z.cell 5
            have y0 := P2.out.z.free 0; have y1 := P2.out.z.free 1; have y2 := P2.out.z.free 2; have y3 := P2.out.z.free 3; have y4 := P2.out.z.free 4; have y5 := P2.out.z.free 5
            have a0 := P2.out.a.cell 0; have a1 := P2.out.a.cell 1; have a2 := P2.out.a.cell 2; have a3 := P2.out.a.cell 3; have a4 := P2.out.a.cell 4; have a5 := P2.out.a.cell 5
            have b0 := P2.out.a.free 0; have b1 := P2.out.a.free 1; have b2 := P2.out.a.free 2; have b3 := P2.out.a.free 3; have b4 := P2.out.a.free 4; have b5 := P2.out.a.free 5
            simp only [List.getElem?_cons_zero, List.getElem?_cons_succ] at z0 z1 z2 z3 z4 z5 a0 a1 a2 a3 a4 a5
            by_cases h0 : d = []
            · obtain ⟨e1, e2⟩ := empty_spell (f := F) (by rw [HF1.out]; exact h0)
              have H0 := Lib.hid h0; clear h0
              go_wp2_with fail
              go_wp2_with (first | (go_at_call 136; refine (rfail_any _).mono ?_; rintro e w5 ⟨rfl, hb5⟩; refine Hid.out ?_))
              refine Lib.hid ?_
              have P5 := Lib.hid (P2.out.below hb5)
              clear hb5
              have z0 := P5.out.z.cell 0; have z1 := P5.out.z.cell 1; have z2 := P5.out.z.cell 2; have z3 := P5.out.z.cell 3; have z4 := P5.out.z.cell 4; have z5 := P5.out.z.cell 5
              have y0 := P5.out.z.free 0; have y1 := P5.out.z.free 1; have y2 := P5.out.z.free 2; have y3 := P5.out.z.free 3; have y4 := P5.out.z.free 4; have y5 := P5.out.z.free 5
              have a0 := P5.out.a.cell 0; have a1 := P5.out.a.cell 1; have a2 := P5.out.a.cell 2; have a3 := P5.out.a.cell 3; have a4 := P5.out.a.cell 4; have a5 := P5.out.a.cell 5
              have b0 := P5.out.a.free 0; have b1 := P5.out.a.free 1; have b2 := P5.out.a.free 2; have b3 := P5.out.a.free 3; have b4 := P5.out.a.free 4; have b5 := P5.out.a.free 5
              simp only [List.getElem?_cons_zero, List.getElem?_cons_succ] at z0 z1 z2 z3 z4 z5 a0 a1 a2 a3 a4 a5
              go_wp2
              have hW := (((((P5.out.z.set_ 0 (.string ⟨#[]⟩)).set_ 1 (.int .i64 0)).set_ 2 (.int .i64 0)).set_ 3 (.int .i64 0)).set_ 4 (.string ⟨#[]⟩)).set_ 5 (.bool false)
              have hbz := (((((P5.out.b.setCell (p := ⟨w.heap.size, 0, none⟩) (Nat.le_refl _) (.string ⟨#[]⟩)).setCell (p := ⟨w.heap.size, 1, none⟩) (Nat.le_refl _) (.int .i64 0)).setCell (p := ⟨w.heap.size, 2, none⟩) (Nat.le_refl _) (.int .i64 0)).setCell (p := ⟨w.heap.size, 3, none⟩) (Nat.le_refl _) (.int .i64 0)).setCell (p := ⟨w.heap.size, 4, none⟩) (Nat.le_refl _) (.string ⟨#[]⟩)).setCell (p := ⟨w.heap.size, 5, none⟩) (Nat.le_refl _) (.bool false)
              simp only [List.set_cons_succ, List.set_cons_zero] at hW
              generalize hwz : (World.setCell (World.setCell _ _ _) _ _) = wz at hW hbz ⊢
              have e0 := hW.cell 0; have e1 := hW.cell 1; have e2 := hW.cell 2; have e3 := hW.cell 3; have e4 := hW.cell 4; have e5 := hW.cell 5
              simp only [List.getElem?_cons_zero, List.getElem?_cons_succ] at e0 e1 e2 e3 e4 e5
              refine bodyPost_ret (v := .tuple #[.agg #[_, _, _, _, _, _], .int .i64 _]) (by simp [results, Tryz.results101, go_sem, e0, e1, e2, e3, e4, e5]; exact ⟨⟨rfl, rfl, rfl, rfl, rfl, rfl⟩, rfl⟩) rfl ?_
              refine ⟨?_, hbz⟩
              rw [HF.out]; show _ = AtEnd (if d = [] then badAt else _); rw [if_pos H0.out]; rfl
            · obtain ⟨e1, e2⟩ := full_spell (f := F) (by rw [HF1.out]; exact h0)
              have H0 := Lib.hid h0; clear h0
              go_wp2
              go_meet
              case rel => exact ⟨_, F, true, rfl, by have := HZ1.out; omega, by have := HZ2.out; omega, by rw [HF.out, HF1.out, HR1.out]; show (if d = [] then badAt else _) = _; rw [if_neg H0.out]; rfl, P2.out⟩
          · skip
            go_wp2
            go_region
            have P2 := Lib.hid (((P1.out.flag (s.extract (a.length + 1) s.size)).on_ false).drew)
            clear a0 a1 a2 a3 a4 a5 b0 b1 b2 b3 b4 b5 z0 z1 z2 z3 z4 z5 y0 y1 y2 y3 y4 y5
            clear P1
            generalize World.drew _ = wz at P2 ⊢
            generalize s.extract (a.length + 1) s.size = F at P2 HF1 HZ2 ⊢
            have z0 := P2.out.z.cell 0; have z1 := P2.out.z.cell 1; have z2 := P2.out.z.cell 2; have z3 := P2.out.z.cell 3; have z4 := P2.out.z.cell 4; have z5 := P2.out.z.cell 5
            have y0 := P2.out.z.free 0; have y1 := P2.out.z.free 1; have y2 := P2.out.z.free 2; have y3 := P2.out.z.free 3; have y4 := P2.out.z.free 4; have y5 := P2.out.z.free 5
            have a0 := P2.out.a.cell 0; have a1 := P2.out.a.cell 1; have a2 := P2.out.a.cell 2; have a3 := P2.out.a.cell 3; have a4 := P2.out.a.cell 4; have a5 := P2.out.a.cell 5
            have b0 := P2.out.a.free 0; have b1 := P2.out.a.free 1; have b2 := P2.out.a.free 2; have b3 := P2.out.a.free 3; have b4 := P2.out.a.free 4; have b5 := P2.out.a.free 5
            simp only [List.getElem?_cons_zero, List.getElem?_cons_succ] at z0 z1 z2 z3 z4 z5 a0 a1 a2 a3 a4 a5
            by_cases h0 : d = []
            · obtain ⟨e1, e2⟩ := empty_spell (f := F) (by rw [HF1.out]; exact h0)
              have H0 := Lib.hid h0; clear h0
              go_wp2_with fail
              go_wp2_with (first | (go_at_call 136; refine (rfail_any _).mono ?_; rintro e w5 ⟨rfl, hb5⟩; refine Hid.out ?_))
              refine Lib.hid ?_
              have P5 := Lib.hid (P2.out.below hb5)
              clear hb5
              have z0 := P5.out.z.cell 0; have z1 := P5.out.z.cell 1; have z2 := P5.out.z.cell 2; have z3 := P5.out.z.cell 3; have z4 := P5.out.z.cell 4; have z5 := P5.out.z.cell 5
              have y0 := P5.out.z.free 0; have y1 := P5.out.z.free 1; have y2 := P5.out.z.free 2; have y3 := P5.out.z.free 3; have y4 := P5.out.z.free 4; have y5 := P5.out.z.free 5
              have a0 := P5.out.a.cell 0; have a1 := P5.out.a.cell 1; have a2 := P5.out.a.cell 2; have a3 := P5.out.a.cell 3; have a4 := P5.out.a.cell 4; have a5 := P5.out.a.cell 5
              have b0 := P5.out.a.free 0; have b1 := P5.out.a.free 1; have b2 := P5.out.a.free 2; have b3 := P5.out.a.free 3; have b4 := P5.out.a.free 4; have b5 := P5.out.a.free 5
              simp only [List.getElem?_cons_zero, List.getElem?_cons_succ] at z0 z1 z2 z3 z4 z5 a0 a1 a2 a3 a4 a5
              go_wp2
              have hW := (((((P5.out.z.set_ 0 (.string ⟨#[]⟩)).set_ 1 (.int .i64 0)).set_ 2 (.int .i64 0)).set_ 3 (.int .i64 0)).set_ 4 (.string ⟨#[]⟩)).set_ 5 (.bool false)
              have hbz := (((((P5.out.b.setCell (p := ⟨w.heap.size, 0, none⟩) (Nat.le_refl _) (.string ⟨#[]⟩)).setCell (p := ⟨w.heap.size, 1, none⟩) (Nat.le_refl _) (.int .i64 0)).setCell (p := ⟨w.heap.size, 2, none⟩) (Nat.le_refl _) (.int .i64 0)).setCell (p := ⟨w.heap.size, 3, none⟩) (Nat.le_refl _) (.int .i64 0)).setCell (p := ⟨w.heap.size, 4, none⟩) (Nat.le_refl _) (.string ⟨#[]⟩)).setCell (p := ⟨w.heap.size, 5, none⟩) (Nat.le_refl _) (.bool false)
              simp only [List.set_cons_succ, List.set_cons_zero] at hW
              generalize hwz : (World.setCell (World.setCell _ _ _) _ _) = wz at hW hbz ⊢
              have e0 := hW.cell 0; have e1 := hW.cell 1; have e2 := hW.cell 2; have e3 := hW.cell 3; have e4 := hW.cell 4; have e5 := hW.cell 5
              simp only [List.getElem?_cons_zero, List.getElem?_cons_succ] at e0 e1 e2 e3 e4 e5
              refine bodyPost_ret (v := .tuple #[.agg #[_, _, _, _, _, _], .int .i64 _]) (by simp [results, Tryz.results101, go_sem, e0, e1, e2, e3, e4, e5]; exact ⟨⟨rfl, rfl, rfl, rfl, rfl, rfl⟩, rfl⟩) rfl ?_
              refine ⟨?_, hbz⟩
              rw [HF.out]; show _ = AtEnd (if d = [] then badAt else _); rw [if_pos H0.out]; rfl
            · obtain ⟨e1, e2⟩ := full_spell (f := F) (by rw [HF1.out]; exact h0)
              have H0 := Lib.hid h0; clear h0
              go_wp2
              go_meet
              case rel => exact ⟨_, F, false, rfl, by have := HZ1.out; omega, by have := HZ2.out; omega, by rw [HF.out, HF1.out, HR1.out]; show (if d = [] then badAt else _) = _; rw [if_neg H0.out]; rfl, P2.out⟩
  case rest =>
    obtain ⟨R, F, on, rfl, hR, hF, hr, P2⟩ := hcut
    replace P2 := Lib.hid P2
    have HF2 := Lib.hid hr
    clear hr HF HC P1
    unfold parseSlot at HF2
    have HSR := Lib.hid (Lib.size_eq R)
    obtain ⟨c, hc⟩ : ∃ c, c = cutAt (· == 58) R.data.toList := ⟨_, rfl⟩
    obtain ⟨m, hm⟩ := HMV.out.below P2.out.b
    have hcu := Tryz.strings_Cut R ⟨#[58]⟩ m wc (by omega) hm
    clear hm
    rw [show (⟨#[58]⟩ : ByteArray).data.toList = [58] from rfl, cut_told, ← hc] at hcu
    rw [← hc] at HF2
    have HC := Lib.hid hc; clear hc
    have HCu := Lib.hid hcu; clear hcu
    go_upto_if 59 with (first | (go_at_call 43; refine HCu.out.mono ?_; rintro e w3 ⟨rfl, n0, rfl⟩; refine Hid.out ?_))
    refine Lib.hid ?_
    have P3 := Lib.hid (P2.out.drewN n0)
    clear P2 HCu
    generalize World.drewN _ n0 = w3 at P3 ⊢
    have z0 := P3.out.z.cell 0; have z1 := P3.out.z.cell 1; have z2 := P3.out.z.cell 2; have z3 := P3.out.z.cell 3; have z4 := P3.out.z.cell 4; have z5 := P3.out.z.cell 5
    have y0 := P3.out.z.free 0; have y1 := P3.out.z.free 1; have y2 := P3.out.z.free 2; have y3 := P3.out.z.free 3; have y4 := P3.out.z.free 4; have y5 := P3.out.z.free 5
    have a0 := P3.out.a.cell 0; have a1 := P3.out.a.cell 1; have a2 := P3.out.a.cell 2; have a3 := P3.out.a.cell 3; have a4 := P3.out.a.cell 4; have a5 := P3.out.a.cell 5
    have b0 := P3.out.a.free 0; have b1 := P3.out.a.free 1; have b2 := P3.out.a.free 2; have b3 := P3.out.a.free 3; have b4 := P3.out.a.free 4; have b5 := P3.out.a.free 5
    simp only [List.getElem?_cons_zero, List.getElem?_cons_succ] at z0 z1 z2 z3 z4 z5 a0 a1 a2 a3 a4 a5
    go_upto_if 59 with fail
    go_cut [0] (Cut2 w r)
    case first =>
      rcases c with _ | ⟨a, c, d⟩
      · simp only [cutTold, bs_self]
        go_wp2
        go_meet
        case rel => exact ⟨R, F, on, 0, rfl, hR, hF, HF2.out, P3.out⟩
      · have hl := of_cutAt_some HC.out.symm
        have HLs := Lib.hid hl; clear hl
        have hlen : a.length + 1 + d.length = R.size := by
          rw [HSR.out, HLs.out.1]; simp; omega
        have hnum := whole_any ⟨d.toArray⟩ _ (by rw [bs_size]; omega) (HLV.out.below P3.out.b)
        rw [show (⟨d.toArray⟩ : ByteArray).data.toList = d from by simp] at hnum
        have Hnum := Lib.hid hnum; clear hnum
        simp only [cutTold]
        go_wp2_with (first | (go_at_call 63; refine Hnum.out.mono ?_; rintro e w4 ⟨n, rfl, hn, hb4⟩; refine Hid.out ?_))
        refine Lib.hid ?_
        have P4 := Lib.hid (P3.out.below hb4)
        have Hn := Lib.hid hn
        clear a0 a1 a2 a3 a4 a5 b0 b1 b2 b3 b4 b5 z0 z1 z2 z3 z4 z5 y0 y1 y2 y3 y4 y5
        clear hn hb4 P3 Hnum
        have z0 := P4.out.z.cell 0; have z1 := P4.out.z.cell 1; have z2 := P4.out.z.cell 2; have z3 := P4.out.z.cell 3; have z4 := P4.out.z.cell 4; have z5 := P4.out.z.cell 5
        have y0 := P4.out.z.free 0; have y1 := P4.out.z.free 1; have y2 := P4.out.z.free 2; have y3 := P4.out.z.free 3; have y4 := P4.out.z.free 4; have y5 := P4.out.z.free 5
        have a0 := P4.out.a.cell 0; have a1 := P4.out.a.cell 1; have a2 := P4.out.a.cell 2; have a3 := P4.out.a.cell 3; have a4 := P4.out.a.cell 4; have a5 := P4.out.a.cell 5
        have b0 := P4.out.a.free 0; have b1 := P4.out.a.free 1; have b2 := P4.out.a.free 2; have b3 := P4.out.a.free 3; have b4 := P4.out.a.free 4; have b5 := P4.out.a.free 5
        simp only [List.getElem?_cons_zero, List.getElem?_cons_succ] at z0 z1 z2 z3 z4 z5 a0 a1 a2 a3 a4 a5
        obtain ⟨q, hq⟩ : ∃ q, number d = q := ⟨_, rfl⟩
        rw [hq] at Hn ⊢
        have HQ := Lib.hid hq; clear hq
        rcases q with _ | v
        · have HR2 : Hid (r = badAt) := Lib.hid (by rw [HF2.out]; simp only [HQ.out])
          simp only [Option.isSome_none]
          go_wp2_with fail
          go_wp2_with (first | (go_at_call 136; refine (rfail_any _).mono ?_; rintro e w5 ⟨rfl, hb5⟩; refine Hid.out ?_))
          refine Lib.hid ?_
          have P5 := Lib.hid (P4.out.below hb5)
          clear hb5
          have z0 := P5.out.z.cell 0; have z1 := P5.out.z.cell 1; have z2 := P5.out.z.cell 2; have z3 := P5.out.z.cell 3; have z4 := P5.out.z.cell 4; have z5 := P5.out.z.cell 5
          have y0 := P5.out.z.free 0; have y1 := P5.out.z.free 1; have y2 := P5.out.z.free 2; have y3 := P5.out.z.free 3; have y4 := P5.out.z.free 4; have y5 := P5.out.z.free 5
          have a0 := P5.out.a.cell 0; have a1 := P5.out.a.cell 1; have a2 := P5.out.a.cell 2; have a3 := P5.out.a.cell 3; have a4 := P5.out.a.cell 4; have a5 := P5.out.a.cell 5
          have b0 := P5.out.a.free 0; have b1 := P5.out.a.free 1; have b2 := P5.out.a.free 2; have b3 := P5.out.a.free 3; have b4 := P5.out.a.free 4; have b5 := P5.out.a.free 5
          simp only [List.getElem?_cons_zero, List.getElem?_cons_succ] at z0 z1 z2 z3 z4 z5 a0 a1 a2 a3 a4 a5
          go_wp2
          have hW := (((((P5.out.z.set_ 0 (.string ⟨#[]⟩)).set_ 1 (.int .i64 0)).set_ 2 (.int .i64 0)).set_ 3 (.int .i64 0)).set_ 4 (.string ⟨#[]⟩)).set_ 5 (.bool false)
          have hbz := (((((P5.out.b.setCell (p := ⟨w.heap.size, 0, none⟩) (Nat.le_refl _) (.string ⟨#[]⟩)).setCell (p := ⟨w.heap.size, 1, none⟩) (Nat.le_refl _) (.int .i64 0)).setCell (p := ⟨w.heap.size, 2, none⟩) (Nat.le_refl _) (.int .i64 0)).setCell (p := ⟨w.heap.size, 3, none⟩) (Nat.le_refl _) (.int .i64 0)).setCell (p := ⟨w.heap.size, 4, none⟩) (Nat.le_refl _) (.string ⟨#[]⟩)).setCell (p := ⟨w.heap.size, 5, none⟩) (Nat.le_refl _) (.bool false)
          simp only [List.set_cons_succ, List.set_cons_zero] at hW
          generalize hwz : (World.setCell (World.setCell _ _ _) _ _) = wz at hW hbz ⊢
          have e0 := hW.cell 0; have e1 := hW.cell 1; have e2 := hW.cell 2; have e3 := hW.cell 3; have e4 := hW.cell 4; have e5 := hW.cell 5
          simp only [List.getElem?_cons_zero, List.getElem?_cons_succ] at e0 e1 e2 e3 e4 e5
          refine bodyPost_ret (v := .tuple #[.agg #[_, _, _, _, _, _], .int .i64 _]) (by simp [results, Tryz.results101, go_sem, e0, e1, e2, e3, e4, e5]; exact ⟨⟨rfl, rfl, rfl, rfl, rfl, rfl⟩, rfl⟩) rfl ?_
          refine ⟨?_, hbz⟩
          rw [HR2.out]; rfl
        · have hv : n = v := Hn.out v rfl
          subst hv
          have HR2 : Hid (r = if n = 0 then badAt else parseOp a F.data.toList on n) := Lib.hid (by rw [HF2.out]; simp only [HQ.out])
          simp only [Option.isSome_some]
          by_cases h0 : n = 0
          · subst h0
            go_wp2_with fail
            go_wp2_with (first | (go_at_call 136; refine (rfail_any _).mono ?_; rintro e w5 ⟨rfl, hb5⟩; refine Hid.out ?_))
            refine Lib.hid ?_
            have P5 := Lib.hid (P4.out.below hb5)
            clear hb5
            have z0 := P5.out.z.cell 0; have z1 := P5.out.z.cell 1; have z2 := P5.out.z.cell 2; have z3 := P5.out.z.cell 3; have z4 := P5.out.z.cell 4; have z5 := P5.out.z.cell 5
            have y0 := P5.out.z.free 0; have y1 := P5.out.z.free 1; have y2 := P5.out.z.free 2; have y3 := P5.out.z.free 3; have y4 := P5.out.z.free 4; have y5 := P5.out.z.free 5
            have a0 := P5.out.a.cell 0; have a1 := P5.out.a.cell 1; have a2 := P5.out.a.cell 2; have a3 := P5.out.a.cell 3; have a4 := P5.out.a.cell 4; have a5 := P5.out.a.cell 5
            have b0 := P5.out.a.free 0; have b1 := P5.out.a.free 1; have b2 := P5.out.a.free 2; have b3 := P5.out.a.free 3; have b4 := P5.out.a.free 4; have b5 := P5.out.a.free 5
            simp only [List.getElem?_cons_zero, List.getElem?_cons_succ] at z0 z1 z2 z3 z4 z5 a0 a1 a2 a3 a4 a5
            go_wp2
            have hW := (((((P5.out.z.set_ 0 (.string ⟨#[]⟩)).set_ 1 (.int .i64 0)).set_ 2 (.int .i64 0)).set_ 3 (.int .i64 0)).set_ 4 (.string ⟨#[]⟩)).set_ 5 (.bool false)
            have hbz := (((((P5.out.b.setCell (p := ⟨w.heap.size, 0, none⟩) (Nat.le_refl _) (.string ⟨#[]⟩)).setCell (p := ⟨w.heap.size, 1, none⟩) (Nat.le_refl _) (.int .i64 0)).setCell (p := ⟨w.heap.size, 2, none⟩) (Nat.le_refl _) (.int .i64 0)).setCell (p := ⟨w.heap.size, 3, none⟩) (Nat.le_refl _) (.int .i64 0)).setCell (p := ⟨w.heap.size, 4, none⟩) (Nat.le_refl _) (.string ⟨#[]⟩)).setCell (p := ⟨w.heap.size, 5, none⟩) (Nat.le_refl _) (.bool false)
            simp only [List.set_cons_succ, List.set_cons_zero] at hW
            generalize hwz : (World.setCell (World.setCell _ _ _) _ _) = wz at hW hbz ⊢
            have e0 := hW.cell 0; have e1 := hW.cell 1; have e2 := hW.cell 2; have e3 := hW.cell 3; have e4 := hW.cell 4; have e5 := hW.cell 5
            simp only [List.getElem?_cons_zero, List.getElem?_cons_succ] at e0 e1 e2 e3 e4 e5
            refine bodyPost_ret (v := .tuple #[.agg #[_, _, _, _, _, _], .int .i64 _]) (by simp [results, Tryz.results101, go_sem, e0, e1, e2, e3, e4, e5]; exact ⟨⟨rfl, rfl, rfl, rfl, rfl, rfl⟩, rfl⟩) rfl ?_
            refine ⟨?_, hbz⟩
            rw [HR2.out]; rfl
          · have h1 : (n == 0) = false := by simpa using h0
            have H0 := Lib.hid h0; clear h0
            go_wp2
            go_meet
            case rel => exact ⟨_, F, on, n, rfl, by rw [bs_size]; omega, hF, by rw [HR2.out, if_neg H0.out], P4.out.slot_ n⟩
    case rest =>
      obtain ⟨R, F, on, sl, rfl, hR, hF, hr, P2⟩ := hcut
      replace P2 := Lib.hid P2
      clear a0 a1 a2 a3 a4 a5 b0 b1 b2 b3 b4 b5 z0 z1 z2 z3 z4 z5 y0 y1 y2 y3 y4 y5
      have HF2 := Lib.hid hr
      clear HC hr P3
      unfold parseOp at HF2
      have HSR := Lib.hid (Lib.size_eq R)
      obtain ⟨c, hc⟩ : ∃ c, c = cutAt opB R.data.toList := ⟨_, rfl⟩
      rw [← hc] at HF2
      have HC := Lib.hid hc; clear hc
      go_upto_block 2 with fail
      go_cut [0] (Cut3 w r)
      case first =>
        rcases c with _ | ⟨a, c, d⟩
        · have HN := Lib.hid (of_cutAt_none HC.out.symm)
          go_wp2_with fail
          go_loop [79, 0] (fun i s0 => ∃ k : Nat, k ≤ R.size ∧ i = .int .i64 k ∧ s0 = .string R) (fun i s0 => R.size - (intOf i).toNat)
          case atStart => exact ⟨0, Nat.zero_le _, rfl, rfl⟩
          case round =>
            obtain ⟨k, hk, rfl, rfl⟩ := hrel
            by_cases hlt : k < R.size
            · obtain ⟨g1, g2, g3⟩ := op_no (HN.out _ (bs_mem R k hlt))
              go_wp2
              go_round
              case rel => exact ⟨k + 1, by omega, by go_num, rfl⟩
              case measure => simp [intOf]; omega
            · go_wp2
              go_meet
              case rel => exact ⟨R, F, on, sl, 0, 0, rfl, hR, hF, HF2.out, P2.out⟩
        · have hl := of_cutAt_some HC.out.symm
          have HLs := Lib.hid hl; clear hl
          have hlen : a.length + 1 + d.length = R.size := by
            rw [HSR.out, HLs.out.1]; simp; omega
          go_wp2_with fail
          go_loop [79, 0] (fun i s0 => ∃ k : Nat, k ≤ a.length ∧ i = .int .i64 k ∧ s0 = .string R) (fun i s0 => a.length - (intOf i).toNat)
          case atStart => exact ⟨0, Nat.zero_le _, rfl, rfl⟩
          case round =>
            obtain ⟨k, hk, rfl, rfl⟩ := hrel
            have hlt : k < R.size := by omega
            by_cases hka : k < a.length
            · obtain ⟨g1, g2, g3⟩ := op_no (HLs.out.2.2 _ (bs_pre R HLs.out.1 k hka hlt))
              go_wp2
              go_round
              case rel => exact ⟨k + 1, by omega, by go_num, rfl⟩
              case measure => simp [intOf]; omega
            · obtain rfl : k = a.length := by omega
              have hget := bs_get R HLs.out.1 hlt
              have hk1 : (0 : Int) ≤ (a.length : Int) := by omega
              have hk2 : (a.length : Int) < (R.size : Int) := by omega
              have hw1 : IntKind.i64.wrap ((a.length : Int) + 1) = (a.length : Int) + 1 := IntWalk.i64_in _ (by omega)
              have hw2 : (0 : Int) ≤ (a.length : Int) + 1 := by omega
              have hw3 : ((a.length : Int) + 1).toNat = a.length + 1 := by omega
              have HE0 := Lib.hid (bs_drop R HLs.out.1)
              have HR1 := Lib.hid (bs_take R HLs.out.1)
              have HZ1 : Hid ((R.extract 0 a.length).size = a.length) := Lib.hid (by rw [Lib.size_eq, HR1.out])
              have HZE0 : Hid ((R.extract (a.length + 1) R.size).size = d.length) := Lib.hid (by rw [Lib.size_eq, HE0.out])
              have HDL : Hid (d.length ≤ 20000) := Lib.hid (by omega)
              have z0 := P2.out.z.cell 0; have z1 := P2.out.z.cell 1; have z2 := P2.out.z.cell 2; have z3 := P2.out.z.cell 3; have z4 := P2.out.z.cell 4; have z5 := P2.out.z.cell 5
              have y0 := P2.out.z.free 0; have y1 := P2.out.z.free 1; have y2 := P2.out.z.free 2; have y3 := P2.out.z.free 3; have y4 := P2.out.z.free 4; have y5 := P2.out.z.free 5
              have a0 := P2.out.a.cell 0; have a1 := P2.out.a.cell 1; have a2 := P2.out.a.cell 2; have a3 := P2.out.a.cell 3; have a4 := P2.out.a.cell 4; have a5 := P2.out.a.cell 5
              have b0 := P2.out.a.free 0; have b1 := P2.out.a.free 1; have b2 := P2.out.a.free 2; have b3 := P2.out.a.free 3; have b4 := P2.out.a.free 4; have b5 := P2.out.a.free 5
              simp only [List.getElem?_cons_zero, List.getElem?_cons_succ] at z0 z1 z2 z3 z4 z5 a0 a1 a2 a3 a4 a5
              rcases op_yes HLs.out.2.1 with rfl | rfl | rfl
              · have HQ : Hid (r = match number d with | some v => fin ⟨a, 1, v, sl, F.data.toList, on⟩ | none => badAt) := Lib.hid (by
                  rw [HF2.out]; simp only [opNum, if_true]; cases number d <;> rfl)
                go_wp2_with fail
                have P4 := Lib.hid (P2.out.op1 1)
                have HE := HE0; have HZE := HZE0
                clear a0 a1 a2 a3 a4 a5 b0 b1 b2 b3 b4 b5 z0 z1 z2 z3 z4 z5 y0 y1 y2 y3 y4 y5
                have hnum := whole_any (R.extract (a.length + 1) R.size) _ (by have h1 := HZE.out; have h2 := HDL.out; omega) (HLV.out.below P4.out.b)
                rw [HE.out] at hnum
                refine hnum.mono ?_
                rintro e w7 ⟨n, rfl, hn, hb7⟩
                have P5 := Lib.hid (P4.out.below hb7)
                have Hn := Lib.hid hn
                clear hn hb7 P4 hnum
                have z0 := P5.out.z.cell 0; have z1 := P5.out.z.cell 1; have z2 := P5.out.z.cell 2; have z3 := P5.out.z.cell 3; have z4 := P5.out.z.cell 4; have z5 := P5.out.z.cell 5
                have y0 := P5.out.z.free 0; have y1 := P5.out.z.free 1; have y2 := P5.out.z.free 2; have y3 := P5.out.z.free 3; have y4 := P5.out.z.free 4; have y5 := P5.out.z.free 5
                have a0 := P5.out.a.cell 0; have a1 := P5.out.a.cell 1; have a2 := P5.out.a.cell 2; have a3 := P5.out.a.cell 3; have a4 := P5.out.a.cell 4; have a5 := P5.out.a.cell 5
                have b0 := P5.out.a.free 0; have b1 := P5.out.a.free 1; have b2 := P5.out.a.free 2; have b3 := P5.out.a.free 3; have b4 := P5.out.a.free 4; have b5 := P5.out.a.free 5
                simp only [List.getElem?_cons_zero, List.getElem?_cons_succ] at z0 z1 z2 z3 z4 z5 a0 a1 a2 a3 a4 a5
                obtain ⟨q, hq⟩ : ∃ q, number d = q := ⟨_, rfl⟩
                rw [hq] at Hn ⊢
                have HQ2 := Lib.hid hq; clear hq
                rcases q with _ | v
                · have HR2 : Hid (r = badAt) := Lib.hid (by rw [HQ.out, HQ2.out])
                  simp only [Option.isSome_none]
                  go_wp2_with fail
                  go_wp2_with (first | (go_at_call 136; refine (rfail_any _).mono ?_; rintro e w5 ⟨rfl, hb5⟩; refine Hid.out ?_))
                  refine Lib.hid ?_
                  have P5 := Lib.hid (P5.out.below hb5)
                  clear hb5
                  have z0 := P5.out.z.cell 0; have z1 := P5.out.z.cell 1; have z2 := P5.out.z.cell 2; have z3 := P5.out.z.cell 3; have z4 := P5.out.z.cell 4; have z5 := P5.out.z.cell 5
                  have y0 := P5.out.z.free 0; have y1 := P5.out.z.free 1; have y2 := P5.out.z.free 2; have y3 := P5.out.z.free 3; have y4 := P5.out.z.free 4; have y5 := P5.out.z.free 5
                  have a0 := P5.out.a.cell 0; have a1 := P5.out.a.cell 1; have a2 := P5.out.a.cell 2; have a3 := P5.out.a.cell 3; have a4 := P5.out.a.cell 4; have a5 := P5.out.a.cell 5
                  have b0 := P5.out.a.free 0; have b1 := P5.out.a.free 1; have b2 := P5.out.a.free 2; have b3 := P5.out.a.free 3; have b4 := P5.out.a.free 4; have b5 := P5.out.a.free 5
                  simp only [List.getElem?_cons_zero, List.getElem?_cons_succ] at z0 z1 z2 z3 z4 z5 a0 a1 a2 a3 a4 a5
                  go_wp2
                  have hW := (((((P5.out.z.set_ 0 (.string ⟨#[]⟩)).set_ 1 (.int .i64 0)).set_ 2 (.int .i64 0)).set_ 3 (.int .i64 0)).set_ 4 (.string ⟨#[]⟩)).set_ 5 (.bool false)
                  have hbz := (((((P5.out.b.setCell (p := ⟨w.heap.size, 0, none⟩) (Nat.le_refl _) (.string ⟨#[]⟩)).setCell (p := ⟨w.heap.size, 1, none⟩) (Nat.le_refl _) (.int .i64 0)).setCell (p := ⟨w.heap.size, 2, none⟩) (Nat.le_refl _) (.int .i64 0)).setCell (p := ⟨w.heap.size, 3, none⟩) (Nat.le_refl _) (.int .i64 0)).setCell (p := ⟨w.heap.size, 4, none⟩) (Nat.le_refl _) (.string ⟨#[]⟩)).setCell (p := ⟨w.heap.size, 5, none⟩) (Nat.le_refl _) (.bool false)
                  simp only [List.set_cons_succ, List.set_cons_zero] at hW
                  generalize hwz : (World.setCell (World.setCell _ _ _) _ _) = wz at hW hbz ⊢
                  have e0 := hW.cell 0; have e1 := hW.cell 1; have e2 := hW.cell 2; have e3 := hW.cell 3; have e4 := hW.cell 4; have e5 := hW.cell 5
                  simp only [List.getElem?_cons_zero, List.getElem?_cons_succ] at e0 e1 e2 e3 e4 e5
                  refine bodyPost_ret (v := .tuple #[.agg #[_, _, _, _, _, _], .int .i64 _]) (by simp [results, Tryz.results101, go_sem, e0, e1, e2, e3, e4, e5]; exact ⟨⟨rfl, rfl, rfl, rfl, rfl, rfl⟩, rfl⟩) rfl ?_
                  refine ⟨?_, hbz⟩
                  rw [HR2.out]; rfl
                · have hv : n = v := Hn.out v rfl
                  subst hv
                  have HR2 : Hid (r = fin ⟨a, 1, n, sl, F.data.toList, on⟩) := Lib.hid (by rw [HQ.out, HQ2.out])
                  simp only [Option.isSome_some]
                  go_wp2
                  go_region
                  have P6 := Lib.hid (P5.out.ver1 n).drew
                  go_wp2
                  go_meet
                  case rel => exact ⟨_, F, on, sl, 1, n, rfl, by have := HZ1.out; omega, hF, by rw [HR2.out, HR1.out], P6.out⟩
              · have HQ : Hid (r = match number d with | some v => fin ⟨a, 3, v, sl, F.data.toList, on⟩ | none => badAt) := Lib.hid (by
                  rw [HF2.out]; simp only [opNum]; rw [if_neg (by decide)]; simp only [if_true]; cases number d <;> rfl)
                go_wp2_with fail
                have P4 := Lib.hid (P2.out.op1 3)
                have HE := HE0; have HZE := HZE0
                clear a0 a1 a2 a3 a4 a5 b0 b1 b2 b3 b4 b5 z0 z1 z2 z3 z4 z5 y0 y1 y2 y3 y4 y5
                have hnum := whole_any (R.extract (a.length + 1) R.size) _ (by have h1 := HZE.out; have h2 := HDL.out; omega) (HLV.out.below P4.out.b)
                rw [HE.out] at hnum
                refine hnum.mono ?_
                rintro e w7 ⟨n, rfl, hn, hb7⟩
                have P5 := Lib.hid (P4.out.below hb7)
                have Hn := Lib.hid hn
                clear hn hb7 P4 hnum
                have z0 := P5.out.z.cell 0; have z1 := P5.out.z.cell 1; have z2 := P5.out.z.cell 2; have z3 := P5.out.z.cell 3; have z4 := P5.out.z.cell 4; have z5 := P5.out.z.cell 5
                have y0 := P5.out.z.free 0; have y1 := P5.out.z.free 1; have y2 := P5.out.z.free 2; have y3 := P5.out.z.free 3; have y4 := P5.out.z.free 4; have y5 := P5.out.z.free 5
                have a0 := P5.out.a.cell 0; have a1 := P5.out.a.cell 1; have a2 := P5.out.a.cell 2; have a3 := P5.out.a.cell 3; have a4 := P5.out.a.cell 4; have a5 := P5.out.a.cell 5
                have b0 := P5.out.a.free 0; have b1 := P5.out.a.free 1; have b2 := P5.out.a.free 2; have b3 := P5.out.a.free 3; have b4 := P5.out.a.free 4; have b5 := P5.out.a.free 5
                simp only [List.getElem?_cons_zero, List.getElem?_cons_succ] at z0 z1 z2 z3 z4 z5 a0 a1 a2 a3 a4 a5
                obtain ⟨q, hq⟩ : ∃ q, number d = q := ⟨_, rfl⟩
                rw [hq] at Hn ⊢
                have HQ2 := Lib.hid hq; clear hq
                rcases q with _ | v
                · have HR2 : Hid (r = badAt) := Lib.hid (by rw [HQ.out, HQ2.out])
                  simp only [Option.isSome_none]
                  go_wp2_with fail
                  go_wp2_with (first | (go_at_call 136; refine (rfail_any _).mono ?_; rintro e w5 ⟨rfl, hb5⟩; refine Hid.out ?_))
                  refine Lib.hid ?_
                  have P5 := Lib.hid (P5.out.below hb5)
                  clear hb5
                  have z0 := P5.out.z.cell 0; have z1 := P5.out.z.cell 1; have z2 := P5.out.z.cell 2; have z3 := P5.out.z.cell 3; have z4 := P5.out.z.cell 4; have z5 := P5.out.z.cell 5
                  have y0 := P5.out.z.free 0; have y1 := P5.out.z.free 1; have y2 := P5.out.z.free 2; have y3 := P5.out.z.free 3; have y4 := P5.out.z.free 4; have y5 := P5.out.z.free 5
                  have a0 := P5.out.a.cell 0; have a1 := P5.out.a.cell 1; have a2 := P5.out.a.cell 2; have a3 := P5.out.a.cell 3; have a4 := P5.out.a.cell 4; have a5 := P5.out.a.cell 5
                  have b0 := P5.out.a.free 0; have b1 := P5.out.a.free 1; have b2 := P5.out.a.free 2; have b3 := P5.out.a.free 3; have b4 := P5.out.a.free 4; have b5 := P5.out.a.free 5
                  simp only [List.getElem?_cons_zero, List.getElem?_cons_succ] at z0 z1 z2 z3 z4 z5 a0 a1 a2 a3 a4 a5
                  go_wp2
                  have hW := (((((P5.out.z.set_ 0 (.string ⟨#[]⟩)).set_ 1 (.int .i64 0)).set_ 2 (.int .i64 0)).set_ 3 (.int .i64 0)).set_ 4 (.string ⟨#[]⟩)).set_ 5 (.bool false)
                  have hbz := (((((P5.out.b.setCell (p := ⟨w.heap.size, 0, none⟩) (Nat.le_refl _) (.string ⟨#[]⟩)).setCell (p := ⟨w.heap.size, 1, none⟩) (Nat.le_refl _) (.int .i64 0)).setCell (p := ⟨w.heap.size, 2, none⟩) (Nat.le_refl _) (.int .i64 0)).setCell (p := ⟨w.heap.size, 3, none⟩) (Nat.le_refl _) (.int .i64 0)).setCell (p := ⟨w.heap.size, 4, none⟩) (Nat.le_refl _) (.string ⟨#[]⟩)).setCell (p := ⟨w.heap.size, 5, none⟩) (Nat.le_refl _) (.bool false)
                  simp only [List.set_cons_succ, List.set_cons_zero] at hW
                  generalize hwz : (World.setCell (World.setCell _ _ _) _ _) = wz at hW hbz ⊢
                  have e0 := hW.cell 0; have e1 := hW.cell 1; have e2 := hW.cell 2; have e3 := hW.cell 3; have e4 := hW.cell 4; have e5 := hW.cell 5
                  simp only [List.getElem?_cons_zero, List.getElem?_cons_succ] at e0 e1 e2 e3 e4 e5
                  refine bodyPost_ret (v := .tuple #[.agg #[_, _, _, _, _, _], .int .i64 _]) (by simp [results, Tryz.results101, go_sem, e0, e1, e2, e3, e4, e5]; exact ⟨⟨rfl, rfl, rfl, rfl, rfl, rfl⟩, rfl⟩) rfl ?_
                  refine ⟨?_, hbz⟩
                  rw [HR2.out]; rfl
                · have hv : n = v := Hn.out v rfl
                  subst hv
                  have HR2 : Hid (r = fin ⟨a, 3, n, sl, F.data.toList, on⟩) := Lib.hid (by rw [HQ.out, HQ2.out])
                  simp only [Option.isSome_some]
                  go_wp2
                  go_region
                  have P6 := Lib.hid (P5.out.ver1 n).drew
                  go_wp2
                  go_meet
                  case rel => exact ⟨_, F, on, sl, 3, n, rfl, by have := HZ1.out; omega, hF, by rw [HR2.out, HR1.out], P6.out⟩
              · have hpf := fun wx => Tryz.strings_HasPrefix (R.extract (a.length + 1) R.size) ⟨#[61]⟩ wx
                rw [HE0.out, show (⟨#[61]⟩ : ByteArray).data.toList = [61] from rfl] at hpf
                have hd : (∃ d', d = 61 :: d') ∨ (Lib.hasPrefix d [61] = false ∧ opNum 62 d = none) := by
                  cases d with
                  | nil => exact .inr ⟨rfl, rfl⟩
                  | cons x d' =>
                    by_cases hx : x = 61
                    · exact .inl ⟨d', by rw [hx]⟩
                    · refine .inr ⟨?_, ?_⟩
                      · have : (61 == x) = false := by rw [beq_d]; simp; exact fun h => hx h.symm
                        simp [Lib.hasPrefix, List.isPrefixOf, this]
                      · unfold opNum; rw [if_neg (by decide), if_neg (by decide)]; simp only [if_neg hx]
                rcases hd with ⟨d', rfl⟩ | ⟨hd1, hd2⟩
                · rw [show Lib.hasPrefix (61 :: d') [61] = true from rfl] at hpf
                  have Hpf := Lib.hid hpf; clear hpf
                  have HDL' : Hid (d'.length ≤ 20000) := Lib.hid (by have := HDL.out; simp only [List.length_cons] at this; omega)
                  clear HDL
                  have HDL := HDL'
                  have HQ : Hid (r = match number d' with | some v => fin ⟨a, 2, v, sl, F.data.toList, on⟩ | none => badAt) := Lib.hid (by
                    rw [HF2.out]; simp only [opNum]; rw [if_neg (by decide), if_neg (by decide)]; simp only [if_true]; cases number d' <;> rfl)
                  go_wp2_with fail
                  generalize R.extract (a.length + 1) R.size = T at HE0 HZE0 Hpf ⊢
                  have HE : Hid ((T.extract 1 T.size).data.toList = d') := Lib.hid (by rw [Lib.extract_to_end, HE0.out]; rfl)
                  have HZE : Hid ((T.extract 1 T.size).size = d'.length) := Lib.hid (by rw [Lib.size_eq, HE.out])
                  have hlT : (1 : Int) ≤ (T.size : Int) := by have h := HZE0.out; rw [List.length_cons] at h; omega
                  go_wp2_with (first | (go_at_call 100; refine (Hpf.out _).mono ?_; rintro e w6 ⟨rfl, hw6⟩; subst w6))
                  go_region
                  have P4 := Lib.hid (P2.out.op1 2).drew
                  go_wp2_with fail
                  clear a0 a1 a2 a3 a4 a5 b0 b1 b2 b3 b4 b5 z0 z1 z2 z3 z4 z5 y0 y1 y2 y3 y4 y5
                  have hnum := whole_any (T.extract 1 T.size) _ (by have h1 := HZE.out; have h2 := HDL.out; omega) (HLV.out.below P4.out.b)
                  rw [HE.out] at hnum
                  refine hnum.mono ?_
                  rintro e w7 ⟨n, rfl, hn, hb7⟩
                  have P5 := Lib.hid (P4.out.below hb7)
                  have Hn := Lib.hid hn
                  clear hn hb7 P4 hnum
                  have z0 := P5.out.z.cell 0; have z1 := P5.out.z.cell 1; have z2 := P5.out.z.cell 2; have z3 := P5.out.z.cell 3; have z4 := P5.out.z.cell 4; have z5 := P5.out.z.cell 5
                  have y0 := P5.out.z.free 0; have y1 := P5.out.z.free 1; have y2 := P5.out.z.free 2; have y3 := P5.out.z.free 3; have y4 := P5.out.z.free 4; have y5 := P5.out.z.free 5
                  have a0 := P5.out.a.cell 0; have a1 := P5.out.a.cell 1; have a2 := P5.out.a.cell 2; have a3 := P5.out.a.cell 3; have a4 := P5.out.a.cell 4; have a5 := P5.out.a.cell 5
                  have b0 := P5.out.a.free 0; have b1 := P5.out.a.free 1; have b2 := P5.out.a.free 2; have b3 := P5.out.a.free 3; have b4 := P5.out.a.free 4; have b5 := P5.out.a.free 5
                  simp only [List.getElem?_cons_zero, List.getElem?_cons_succ] at z0 z1 z2 z3 z4 z5 a0 a1 a2 a3 a4 a5
                  obtain ⟨q, hq⟩ : ∃ q, number d' = q := ⟨_, rfl⟩
                  rw [hq] at Hn ⊢
                  have HQ2 := Lib.hid hq; clear hq
                  rcases q with _ | v
                  · have HR2 : Hid (r = badAt) := Lib.hid (by rw [HQ.out, HQ2.out])
                    simp only [Option.isSome_none]
                    go_wp2_with fail
                    go_wp2_with (first | (go_at_call 136; refine (rfail_any _).mono ?_; rintro e w5 ⟨rfl, hb5⟩; refine Hid.out ?_))
                    refine Lib.hid ?_
                    have P5 := Lib.hid (P5.out.below hb5)
                    clear hb5
                    have z0 := P5.out.z.cell 0; have z1 := P5.out.z.cell 1; have z2 := P5.out.z.cell 2; have z3 := P5.out.z.cell 3; have z4 := P5.out.z.cell 4; have z5 := P5.out.z.cell 5
                    have y0 := P5.out.z.free 0; have y1 := P5.out.z.free 1; have y2 := P5.out.z.free 2; have y3 := P5.out.z.free 3; have y4 := P5.out.z.free 4; have y5 := P5.out.z.free 5
                    have a0 := P5.out.a.cell 0; have a1 := P5.out.a.cell 1; have a2 := P5.out.a.cell 2; have a3 := P5.out.a.cell 3; have a4 := P5.out.a.cell 4; have a5 := P5.out.a.cell 5
                    have b0 := P5.out.a.free 0; have b1 := P5.out.a.free 1; have b2 := P5.out.a.free 2; have b3 := P5.out.a.free 3; have b4 := P5.out.a.free 4; have b5 := P5.out.a.free 5
                    simp only [List.getElem?_cons_zero, List.getElem?_cons_succ] at z0 z1 z2 z3 z4 z5 a0 a1 a2 a3 a4 a5
                    go_wp2
                    have hW := (((((P5.out.z.set_ 0 (.string ⟨#[]⟩)).set_ 1 (.int .i64 0)).set_ 2 (.int .i64 0)).set_ 3 (.int .i64 0)).set_ 4 (.string ⟨#[]⟩)).set_ 5 (.bool false)
                    have hbz := (((((P5.out.b.setCell (p := ⟨w.heap.size, 0, none⟩) (Nat.le_refl _) (.string ⟨#[]⟩)).setCell (p := ⟨w.heap.size, 1, none⟩) (Nat.le_refl _) (.int .i64 0)).setCell (p := ⟨w.heap.size, 2, none⟩) (Nat.le_refl _) (.int .i64 0)).setCell (p := ⟨w.heap.size, 3, none⟩) (Nat.le_refl _) (.int .i64 0)).setCell (p := ⟨w.heap.size, 4, none⟩) (Nat.le_refl _) (.string ⟨#[]⟩)).setCell (p := ⟨w.heap.size, 5, none⟩) (Nat.le_refl _) (.bool false)
                    simp only [List.set_cons_succ, List.set_cons_zero] at hW
                    generalize hwz : (World.setCell (World.setCell _ _ _) _ _) = wz at hW hbz ⊢
                    have e0 := hW.cell 0; have e1 := hW.cell 1; have e2 := hW.cell 2; have e3 := hW.cell 3; have e4 := hW.cell 4; have e5 := hW.cell 5
                    simp only [List.getElem?_cons_zero, List.getElem?_cons_succ] at e0 e1 e2 e3 e4 e5
                    refine bodyPost_ret (v := .tuple #[.agg #[_, _, _, _, _, _], .int .i64 _]) (by simp [results, Tryz.results101, go_sem, e0, e1, e2, e3, e4, e5]; exact ⟨⟨rfl, rfl, rfl, rfl, rfl, rfl⟩, rfl⟩) rfl ?_
                    refine ⟨?_, hbz⟩
                    rw [HR2.out]; rfl
                  · have hv : n = v := Hn.out v rfl
                    subst hv
                    have HR2 : Hid (r = fin ⟨a, 2, n, sl, F.data.toList, on⟩) := Lib.hid (by rw [HQ.out, HQ2.out])
                    simp only [Option.isSome_some]
                    go_wp2
                    go_region
                    have P6 := Lib.hid (P5.out.ver1 n).drew
                    go_wp2
                    go_meet
                    case rel => exact ⟨_, F, on, sl, 2, n, rfl, by have := HZ1.out; omega, hF, by rw [HR2.out, HR1.out], P6.out⟩
                · rw [hd1] at hpf
                  have Hpf := Lib.hid hpf; clear hpf
                  have HR2 : Hid (r = badAt) := Lib.hid (by rw [HF2.out]; simp only [hd2])
                  clear hd1 hd2
                  go_wp2_with (first | (go_at_call 100; refine (Hpf.out _).mono ?_; rintro e w6 ⟨rfl, hw6⟩; subst w6))
                  go_wp2_with (first | (go_at_call 136; refine (rfail_any _).mono ?_; rintro e w5 ⟨rfl, hb5⟩; refine Hid.out ?_))
                  refine Lib.hid ?_
                  have P5 := Lib.hid (P2.out.below hb5)
                  clear hb5
                  have z0 := P5.out.z.cell 0; have z1 := P5.out.z.cell 1; have z2 := P5.out.z.cell 2; have z3 := P5.out.z.cell 3; have z4 := P5.out.z.cell 4; have z5 := P5.out.z.cell 5
                  have y0 := P5.out.z.free 0; have y1 := P5.out.z.free 1; have y2 := P5.out.z.free 2; have y3 := P5.out.z.free 3; have y4 := P5.out.z.free 4; have y5 := P5.out.z.free 5
                  have a0 := P5.out.a.cell 0; have a1 := P5.out.a.cell 1; have a2 := P5.out.a.cell 2; have a3 := P5.out.a.cell 3; have a4 := P5.out.a.cell 4; have a5 := P5.out.a.cell 5
                  have b0 := P5.out.a.free 0; have b1 := P5.out.a.free 1; have b2 := P5.out.a.free 2; have b3 := P5.out.a.free 3; have b4 := P5.out.a.free 4; have b5 := P5.out.a.free 5
                  simp only [List.getElem?_cons_zero, List.getElem?_cons_succ] at z0 z1 z2 z3 z4 z5 a0 a1 a2 a3 a4 a5
                  go_wp2
                  have hW := (((((P5.out.z.set_ 0 (.string ⟨#[]⟩)).set_ 1 (.int .i64 0)).set_ 2 (.int .i64 0)).set_ 3 (.int .i64 0)).set_ 4 (.string ⟨#[]⟩)).set_ 5 (.bool false)
                  have hbz := (((((P5.out.b.setCell (p := ⟨w.heap.size, 0, none⟩) (Nat.le_refl _) (.string ⟨#[]⟩)).setCell (p := ⟨w.heap.size, 1, none⟩) (Nat.le_refl _) (.int .i64 0)).setCell (p := ⟨w.heap.size, 2, none⟩) (Nat.le_refl _) (.int .i64 0)).setCell (p := ⟨w.heap.size, 3, none⟩) (Nat.le_refl _) (.int .i64 0)).setCell (p := ⟨w.heap.size, 4, none⟩) (Nat.le_refl _) (.string ⟨#[]⟩)).setCell (p := ⟨w.heap.size, 5, none⟩) (Nat.le_refl _) (.bool false)
                  simp only [List.set_cons_succ, List.set_cons_zero] at hW
                  generalize hwz : (World.setCell (World.setCell _ _ _) _ _) = wz at hW hbz ⊢
                  have e0 := hW.cell 0; have e1 := hW.cell 1; have e2 := hW.cell 2; have e3 := hW.cell 3; have e4 := hW.cell 4; have e5 := hW.cell 5
                  simp only [List.getElem?_cons_zero, List.getElem?_cons_succ] at e0 e1 e2 e3 e4 e5
                  refine bodyPost_ret (v := .tuple #[.agg #[_, _, _, _, _, _], .int .i64 _]) (by simp [results, Tryz.results101, go_sem, e0, e1, e2, e3, e4, e5]; exact ⟨⟨rfl, rfl, rfl, rfl, rfl, rfl⟩, rfl⟩) rfl ?_
                  refine ⟨?_, hbz⟩
                  rw [HR2.out]; rfl
      case rest =>
        obtain ⟨R, F, on, sl, op, ver, rfl, hR, hF, hr, P4⟩ := hcut
        clear HF2 HC P2
        have P4 := Lib.hid P4
        have HR2 := Lib.hid (show r = fin (atOf R op ver sl F on) from hr); clear hr
        have z0 := P4.out.z.cell 0; have z1 := P4.out.z.cell 1; have z2 := P4.out.z.cell 2; have z3 := P4.out.z.cell 3; have z4 := P4.out.z.cell 4; have z5 := P4.out.z.cell 5
        have y0 := P4.out.z.free 0; have y1 := P4.out.z.free 1; have y2 := P4.out.z.free 2; have y3 := P4.out.z.free 3; have y4 := P4.out.z.free 4; have y5 := P4.out.z.free 5
        have a0 := P4.out.a.cell 0; have a1 := P4.out.a.cell 1; have a2 := P4.out.a.cell 2; have a3 := P4.out.a.cell 3; have a4 := P4.out.a.cell 4; have a5 := P4.out.a.cell 5
        have b0 := P4.out.a.free 0; have b1 := P4.out.a.free 1; have b2 := P4.out.a.free 2; have b3 := P4.out.a.free 3; have b4 := P4.out.a.free 4; have b5 := P4.out.a.free 5
        simp only [List.getElem?_cons_zero, List.getElem?_cons_succ] at z0 z1 z2 z3 z4 z5 a0 a1 a2 a3 a4 a5
        have hck := fun wx => rcheck_any R F op ver sl on wx (by unfold maxLen; omega) (by unfold maxLen; omega)
        unfold atv at hck
        have Hck := Lib.hid hck; clear hck
        go_wp2_with (first | (go_at_call 26; refine (Hck.out _).mono ?_; rintro e w7 ⟨rfl, hb7⟩; refine Hid.out ?_))
        refine Lib.hid ?_
        have hz7 := (P4.out.z.far (p := ⟨w.heap.size + 1, 0, none⟩) (by show w.heap.size ≠ w.heap.size + 1; omega) (.string R)).below hb7 (by have := P4.out.z.lt; simpa [World.setCell] using this)
        have ha7 := (P4.out.a.set_ 0 (.string R)).below hb7 (by have := P4.out.a.lt; simpa [World.setCell] using this)
        have hB7 := (P4.out.b.setCell (p := ⟨w.heap.size + 1, 0, none⟩) (by show w.heap.size ≤ w.heap.size + 1; omega) (.string R)).trans (hb7.mono (by have := P4.out.b.size; simpa [World.setCell] using this))
        simp only [List.set_cons_zero] at ha7
        have HZ7 := Lib.hid hz7; have HA7 := Lib.hid ha7; have HB7 := Lib.hid hB7
        clear P4 Hck hz7 ha7 hB7 hb7 a0 a1 a2 a3 a4 a5 b0 b1 b2 b3 b4 b5 z0 z1 z2 z3 z4 z5 y0 y1 y2 y3 y4 y5
        have z0 := HZ7.out.cell 0; have z1 := HZ7.out.cell 1; have z2 := HZ7.out.cell 2; have z3 := HZ7.out.cell 3; have z4 := HZ7.out.cell 4; have z5 := HZ7.out.cell 5
        have y0 := HZ7.out.free 0; have y1 := HZ7.out.free 1; have y2 := HZ7.out.free 2; have y3 := HZ7.out.free 3; have y4 := HZ7.out.free 4; have y5 := HZ7.out.free 5
        have a0 := HA7.out.cell 0; have a1 := HA7.out.cell 1; have a2 := HA7.out.cell 2; have a3 := HA7.out.cell 3; have a4 := HA7.out.cell 4; have a5 := HA7.out.cell 5
        simp only [List.getElem?_cons_zero, List.getElem?_cons_succ] at z0 z1 z2 z3 z4 z5 a0 a1 a2 a3 a4 a5
        obtain ⟨q, hq⟩ : ∃ q, ckAtom (atOf R op ver sl F on) = q := ⟨_, rfl⟩
        rw [hq]
        have HQ := Lib.hid hq; clear hq
        by_cases h0 : q = 0
        · subst h0
          have HR3 : Hid (r = (atOf R op ver sl F on, 0)) := Lib.hid (by rw [HR2.out]; unfold fin; rw [if_pos HQ.out])
          go_wp2
          have hW := (((((HZ7.out.set_ 0 (.string R)).set_ 1 (.int .i64 op)).set_ 2 (.int .i64 ver)).set_ 3 (.int .i64 sl)).set_ 4 (.string F)).set_ 5 (.bool on)
          have hbz := (((((HB7.out.setCell (p := ⟨w.heap.size, 0, none⟩) (Nat.le_refl _) (.string R)).setCell (p := ⟨w.heap.size, 1, none⟩) (Nat.le_refl _) (.int .i64 op)).setCell (p := ⟨w.heap.size, 2, none⟩) (Nat.le_refl _) (.int .i64 ver)).setCell (p := ⟨w.heap.size, 3, none⟩) (Nat.le_refl _) (.int .i64 sl)).setCell (p := ⟨w.heap.size, 4, none⟩) (Nat.le_refl _) (.string F)).setCell (p := ⟨w.heap.size, 5, none⟩) (Nat.le_refl _) (.bool on)
          simp only [List.set_cons_succ, List.set_cons_zero] at hW
          generalize hwz : (World.setCell (World.setCell _ _ _) _ _) = wz at hW hbz ⊢
          have e0 := hW.cell 0; have e1 := hW.cell 1; have e2 := hW.cell 2; have e3 := hW.cell 3; have e4 := hW.cell 4; have e5 := hW.cell 5
          simp only [List.getElem?_cons_zero, List.getElem?_cons_succ] at e0 e1 e2 e3 e4 e5
          refine bodyPost_ret (v := .tuple #[.agg #[_, _, _, _, _, _], .int .i64 _]) (by simp [results, Tryz.results101, go_sem, e0, e1, e2, e3, e4, e5]; exact ⟨⟨rfl, rfl, rfl, rfl, rfl, rfl⟩, rfl⟩) rfl ?_
          refine ⟨?_, hbz⟩
          rw [HR3.out]
          simp only [AtEnd, atOf]
        · have h1 : (q != 0) = true := by simpa using h0
          have HR3 : Hid (r = (At.zero, q)) := Lib.hid (by rw [HR2.out]; unfold fin; rw [if_neg (by rw [HQ.out]; exact h0), HQ.out])
          go_wp2
          have hW := (((((HZ7.out.set_ 0 (.string ⟨#[]⟩)).set_ 1 (.int .i64 0)).set_ 2 (.int .i64 0)).set_ 3 (.int .i64 0)).set_ 4 (.string ⟨#[]⟩)).set_ 5 (.bool false)
          have hbz := (((((HB7.out.setCell (p := ⟨w.heap.size, 0, none⟩) (Nat.le_refl _) (.string ⟨#[]⟩)).setCell (p := ⟨w.heap.size, 1, none⟩) (Nat.le_refl _) (.int .i64 0)).setCell (p := ⟨w.heap.size, 2, none⟩) (Nat.le_refl _) (.int .i64 0)).setCell (p := ⟨w.heap.size, 3, none⟩) (Nat.le_refl _) (.int .i64 0)).setCell (p := ⟨w.heap.size, 4, none⟩) (Nat.le_refl _) (.string ⟨#[]⟩)).setCell (p := ⟨w.heap.size, 5, none⟩) (Nat.le_refl _) (.bool false)
          simp only [List.set_cons_succ, List.set_cons_zero] at hW
          generalize hwz : (World.setCell (World.setCell _ _ _) _ _) = wz at hW hbz ⊢
          have e0 := hW.cell 0; have e1 := hW.cell 1; have e2 := hW.cell 2; have e3 := hW.cell 3; have e4 := hW.cell 4; have e5 := hW.cell 5
          simp only [List.getElem?_cons_zero, List.getElem?_cons_succ] at e0 e1 e2 e3 e4 e5
          refine bodyPost_ret (v := .tuple #[.agg #[_, _, _, _, _, _], .int .i64 _]) (by simp [results, Tryz.results101, go_sem, e0, e1, e2, e3, e4, e5]; exact ⟨⟨rfl, rfl, rfl, rfl, rfl, rfl⟩, rfl⟩) rfl ?_
          refine ⟨?_, hbz⟩
          rw [HR3.out]; rfl
end Go.Proofs.YthpkffeiehnamaaGreatDoor
