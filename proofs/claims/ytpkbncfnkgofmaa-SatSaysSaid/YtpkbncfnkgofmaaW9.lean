/- Walk: rup.step. -/
import Derived.Test.YtpkbncfnkgofmaaW5
namespace Go.Proofs.Ytpkbncfnkgofmaa
open Go.RowKit
def zeroObj (N : Nat) : Obj := .cells ((Qm.zeroVals N).map (Value.int .i64)).toArray 3
theorem int_info : (Try.prog.info? 3).map (fun i => (i.zero, i.size, i.bytes)) = some (some (.int .i64 0), 1, 8) := by kernel_rfl
theorem run_make_zeros (N : Nat) (hN : N ≤ 400) (w : World) : (Instr.makeSlice 72 (.int .i64 ((N : Int) + 1)) (.int .i64 ((N : Int) + 1))).run Try.prog w = .ok (.slice (some ⟨w.heap.size, 0, none⟩) (N + 1) (N + 1)) (w.alloc (zeroObj N)) := by
  obtain ⟨i, hi, hz, h1, h8⟩ := info_parts int_info
  have hr := run_make (P := Try.prog) w 72 3 i (.int .i64 0) Try.underlying72 hi hz .i64 .i64 ((N : Int) + 1) ((N : Int) + 1) (by omega) (by omega) (by rw [h8]; omega) (by omega)
  rw [hr]
  have e : ((N : Int) + 1).toNat = N + 1 := by omega
  rw [e, h1, Nat.mul_one]
  have : madeCells (Value.int .i64 0).cells (N + 1) = ((Qm.zeroVals N).map (Value.int .i64)).toArray := by
    apply Array.ext'
    have := toList_madeCells_one (Value.int .i64 0) (N + 1)
    show (madeCells #[Value.int .i64 0] (N + 1)).toList = _
    rw [this]; simp [Qm.zeroVals]
  rw [this]; rfl
theorem whole_zeros (w : World) (N b : Nat) (hb : b = w.heap.size) : Whole (w.alloc (zeroObj N)) b 3 ((Qm.zeroVals N).map (Value.int .i64)) := Whole.new w b 3 _ hb

/-- two lists of clauses, laid side by side -/
theorem rlists2 {w : World} {S : Nat → Prop} {b : Nat} {t : TypeId} {A1 A2 : Option Addr} {n1 n2 c1 c2 : Nat} {cs1 cs2 : List (List Int)} (hw : Whole w b t [.slice A1 n1 c1, .slice A2 n2 c2]) (hB : S b) (h1 : RClauses w S A1 n1 cs1) (h2 : RClauses w S A2 n2 cs2)
    (hc1 : n1 ≤ c1 ∧ c1 ≤ maxLen) (hc2 : n2 ≤ c2 ∧ c2 ≤ maxLen) : RLists w S (some ⟨b, 0, none⟩) 2 [cs1, cs2] := by
  refine ⟨[(A1, n1, c1), (A2, n2, c2)], hw.row hB rfl, rfl, fun j h c hh hc => ?_⟩
  match j with
  | 0 => simp at hh hc; subst hh hc; exact ⟨h1, hc1⟩
  | 1 => simp at hh hc; subst hh hc; exact ⟨h2, hc2⟩
  | j + 2 => simp at hh
theorem rlists1 {w : World} {S : Nat → Prop} {b : Nat} {t : TypeId} {A1 : Option Addr} {n1 c1 : Nat} {cs1 : List (List Int)} (hw : Whole w b t [.slice A1 n1 c1]) (hB : S b) (h1 : RClauses w S A1 n1 cs1)
    (hc1 : n1 ≤ c1 ∧ c1 ≤ maxLen) : RLists w S (some ⟨b, 0, none⟩) 1 [cs1] := by
  refine ⟨[(A1, n1, c1)], hw.row hB rfl, rfl, fun j h c hh hc => ?_⟩
  match j with
  | 0 => simp at hh hc; subst hh hc; exact ⟨h1, hc1⟩
  | j + 1 => simp at hh

def StepRel (N : Nat) (w : World) (f : Obj) (wr : World) (ls : List Int) (k : Nat) (vc : List Int) : Prop :=
  Whole wr (w.heap.size + 1) 3 (vc.map (Value.int .i64)) ∧ Qm.Fine N vc ∧ ((w.alloc f).alloc (zeroObj N)).grownBy wr (some (w.heap.size + 1)) ∧ wr.heap.size = w.heap.size + 2 ∧ (ls.take k).foldl Qm.assume1 (some (Qm.zeroVals N)) = some vc
theorem StepRel.start (N : Nat) (w : World) (f : Obj) (ls : List Int) : StepRel N w f ((w.alloc f).alloc (zeroObj N)) ls 0 (Qm.zeroVals N) :=
  ⟨whole_zeros _ N _ (by simp), Qm.zeroVals_fine N, World.grownBy.refl _ _, by simp, rfl⟩
theorem StepRel.below {N : Nat} {w wr : World} {f : Obj} {ls : List Int} {k : Nat} {vc : List Int} (h : StepRel N w f wr ls k vc) : Below w.heap.size w wr :=
  (((Below.refl _ _).alloc (Nat.le_refl _) _).alloc (by simp) _).trans (below_of_grown h.2.2.1 (by simp; omega) (fun k e => by injection e with e; omega))
theorem StepRel.cell {N : Nat} {w wr : World} {x y : Value} {t : TypeId} {ls : List Int} {k : Nat} {vc : List Int} (h : StepRel N w (.cells #[x, y] t) wr ls k vc) :
    wr.cell? ⟨w.heap.size, 0, none⟩ = some x ∧ wr.cell? ⟨w.heap.size, 1, none⟩ = some y := by
  have hb := h.2.2.1.block w.heap.size (by simp; omega) (by intro e; injection e with e; omega)
  rw [heap_alloc2_old] at hb
  exact ⟨by rw [cell_of_row _ _ _ _ _ _ hb]; rfl, by rw [cell_of_row _ _ _ _ _ _ hb]; rfl⟩

set_option maxHeartbeats 2000000 in
theorem step_any (N : Nat) (A A' A'' : Option Addr) (n cap n' cap' n'' cap'' : Nat) (cs ah : List (List Int)) (c : List Int) (w : World) (S : Nat → Prop) (hN : N ≤ 400) (hS : ∀ k, S k → k < w.heap.size)
    (hr : RClauses w S A n cs) (hr' : RClauses w S A' n' ah) (hr'' : RInts w S A'' n'' c) (hn : n ≤ cap ∧ cap ≤ maxLen) (hn' : n' ≤ cap' ∧ cap' ≤ maxLen) (hn'' : n'' ≤ maxLen)
    (hl : Lits N [cs, ah]) (hl' : Qm.IsCl N c) :
    Calls Try.prog 45 #[.agg #[.int .i64 (N : Int), .slice A n cap], .slice A' n' cap', .slice A'' n'' cap''] w fun e w' => e = .returned (.bool (Qm.rupStep N (cs ++ ah) c)) ∧ Below w.heap.size w w' := by
  unfold maxLen at hn''
  have Hr := Lib.hid hr; have Hr' := Lib.hid hr'; have Hr'' := Lib.hid hr''; have Hl := Lib.hid hl; have Hl' := Lib.hid hl'
  have Hn := Lib.hid hn; have Hn' := Lib.hid hn'
  clear hr hr' hr'' hl hl' hn hn'
  have Hlen := Lib.hid Hr''.out.len
  have hmk := fun w => run_make_zeros N hN w
  go_enter Try.func45, Try.ntmps45
  go_wp2_with fail
  clear hmk
  go_loopg [16] n'' (fun g i wr => ∃ (k : Nat) (vc : List Int), Hid (k + g = n'') ∧ i = .int .i64 k ∧ StepRel N w (.cells #[.int .i64 (N : Int), .slice A n cap] 29) wr (c.map Neg.neg) k vc)
  case atStart => exact ⟨0, Qm.zeroVals N, Nat.zero_add _, rfl, StepRel.start N w _ _⟩
  case round =>
    obtain ⟨k, vc, Hk, rfl, H1⟩ := hrel
    have hf0 := H1.cell.1
    have hf1 := H1.cell.2
    by_cases hk : k < n''
    · obtain ⟨b, o, rfl, hb, hcell⟩ := (Hr''.out.below H1.below hS).at_ hk
      have hlc : k < c.length := by rw [Hlen.out]; exact hk
      generalize hx : c.getD k 0 = x at hcell
      have hlx : Qm.IsLit N x := by have := Hl'.out _ (getD_mem (d := 0) hlc); rwa [hx] at this
      have hxb : -400 ≤ x ∧ x ≤ 400 := by have := hlx.2; omega
      have hd : -((N + 1 : Nat) : Int) < -x ∧ -x < ((N + 1 : Nat) : Int) := by have := hlx.1; have := hlx.2; omega
      have hnext := Qm.assume_take H1.2.2.2.2 (by rw [List.length_map]; exact hlc) (by rw [Qm.getD_neg, hx])
      have hcall := of_any (some ⟨w.heap.size + 1, 0, none⟩) (N + 1) (N + 1) vc (-x) wr (fun k => k = w.heap.size + 1) (Whole.ints (S := fun k => k = w.heap.size + 1) H1.1 rfl H1.2.1.1) (by omega) hd (fine_bd H1.2.1)
      have Hx := Lib.hid hx; clear hx
      by_cases hv : Qm.vof vc (-x) = -1
      · rw [if_pos hv] at hnext
        rw [hv] at hcall
        have Hcall := Lib.hid hcall; have Hnext := Lib.hid hnext; have Hv := Lib.hid hv
        clear hcall hnext hv hlx hd
        go_wp2_with fail
        refine Hcall.out.mono ?_
        rintro e w' ⟨rfl, rfl⟩
        go_wp2_with fail
        go_ret
        exact ⟨ret_bool (by unfold Qm.rupStep; rw [Qm.assume_stop Hnext.out]), H1.below⟩
      · rw [if_neg hv] at hnext
        have hlt : decide (Qm.vof vc (-x) < 0) = false := by
          rcases Qm.vof_range H1.2.1 (-x) with h | h | h
          · rw [h]; rfl
          · rw [h]; rfl
          · exact absurd h hv
        generalize Qm.vof vc (-x) = u at hcall hlt
        have hcall2 := set_any (w.heap.size + 1) 3 (N + 1) (N + 1) vc (-x) wr H1.2.1.1 H1.1 (by omega) hd
        have Hcall := Lib.hid hcall; have Hnext := Lib.hid hnext; have Hv := Lib.hid hv; have Hcall2 := Lib.hid hcall2
        clear hcall hnext hv hlx hd hcall2
        go_wp2_with fail
        refine Hcall.out.mono ?_
        rintro e w' ⟨rfl, rfl⟩
        go_wp2_with fail
        refine Hcall2.out.mono ?_
        rintro e w5 ⟨rfl, hw5⟩
        go_wp2_with fail
        go_roundg (gk - 1)
        case measure => have := Hk.out; omega
        case rel => exact ⟨k + 1, Qm.vset vc (-x), by have := Hk.out; show _ = _; omega, by go_num, hw5.1, Qm.vset_fine H1.2.1 _, grown_trans H1.2.2.1 hw5.2.1, hw5.2.2.trans H1.2.2.2.1, Hnext.out⟩
    · have hsz := H1.2.2.2.1
      have hb2 : ∀ o : Obj, Below wr.heap.size wr (wr.alloc o) := fun o => (Below.refl _ _).alloc (Nat.le_refl _) o
      have hcall := spread_any N (w.heap.size + 1) (N + 1) 2 2 vc (some ⟨wr.heap.size, 0, none⟩) [cs, ah] (wr.alloc (.cells #[.slice A n cap, .slice A' n' cap'] 27)) (fun k => S k ∨ k = wr.heap.size) hN H1.2.1 (H1.1.alloc _)
          (fun k hk => by rcases hk with hk | hk <;> first | (have := hS k hk; simp; omega) | (simp; omega))
          (rlists2 (Whole.new wr _ 27 [.slice A n cap, .slice A' n' cap'] rfl) (.inr rfl) (((Hr.out.below H1.below hS).below (hb2 _) (fun k hk => by have := hS k hk; omega)).more (fun k hk => .inl hk)) (((Hr'.out.below H1.below hS).below (hb2 _) (fun k hk => by have := hS k hk; omega)).more (fun k hk => .inl hk)) Hn.out Hn'.out) (by unfold maxLen; omega) Hl.out
      have Hcall := Lib.hid hcall
      have Hsz := Lib.hid hsz; have Hbb := Lib.hid hb2; clear hsz hb2 hcall
      go_wp2_with fail
      refine Hcall.out.mono ?_
      rintro e w5 ⟨rfl, _, hg5, _⟩
      go_wp2_with fail
      go_ret
      refine ⟨ret_bool ?_, (H1.below.trans (Hbb.out _ |>.mono (by have := Hsz.out; omega))).trans (below_of_grown hg5 (by have := Hsz.out; simp; omega) (fun k e => by injection e with e; omega))⟩
      unfold Qm.rupStep
      rw [Qm.assume_all H1.2.2.2.2 (by rw [List.length_map, Hlen.out]; have := Hk.out; omega)]
end Go.Proofs.Ytpkbncfnkgofmaa
