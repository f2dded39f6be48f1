/- need.Parse, walked. -/
import Derived.Test.YtnkmonmkhmcgaaaGreatDoorNW7
namespace Go.Proofs.YtnkmonmkhmcgaaaGreatDoor
open Go.RowKit Qm

theorem strs_of {L : List ByteArray} {ws : List Qm.W} (h : L.map (·.data.toList) = ws) : L.map Value.string = strs ws := by
  subst h
  unfold strs
  rw [List.map_map]
  congr 1
theorem splitGo_le {c : UInt8} : ∀ {l acc : Qm.W}, (∀ x ∈ splitGo c acc l, x.length ≤ acc.length + l.length) ∧ (splitGo c acc l).length ≤ l.length + 1
  | [], acc => by simp [splitGo]
  | x :: r, acc => by
    rw [splitGo]
    by_cases h : x = c
    · rw [if_pos h]
      obtain ⟨h1, h2⟩ := splitGo_le (c := c) (l := r) (acc := [])
      refine ⟨fun y hy => ?_, by simp; omega⟩
      rcases List.mem_cons.1 hy with rfl | hy
      · simp
      · have := h1 y hy; simp at this ⊢; omega
    · rw [if_neg h]
      obtain ⟨h1, h2⟩ := splitGo_le (c := c) (l := r) (acc := acc ++ [x])
      refine ⟨fun y hy => ?_, by simp; omega⟩
      have := h1 y hy; simp at this ⊢; omega
theorem splitB_le {c : UInt8} {l : Qm.W} : (∀ x ∈ splitB c l, x.length ≤ l.length) ∧ (splitB c l).length ≤ l.length + 1 := by
  have := splitGo_le (c := c) (l := l) (acc := [])
  simpa [splitB] using this

/-- A variable of the library's own that holds some integer. -/
def MaxW (w : World) : Prop := ∃ m, w.cell? ⟨0, 0, none⟩ = some (.int .i64 m)
theorem MaxW.below {w w' : World} (h : MaxW w) (hb : Below w.heap.size w w') : MaxW w' := by
  obtain ⟨m, hm⟩ := h
  exact ⟨m, (hb.cell (World.block_lt_of_cell? _ _ hm)).trans hm⟩

theorem split_any (s : ByteArray) (c : UInt8) (w : World) (hs : s.size < 4294967281) (hM : MaxW w) :
    Calls Tryz.prog 20 #[.string s, .string ⟨#[c]⟩] w fun e w' => e = .returned (.slice (some ⟨w.heap.size, 0, none⟩) (splitB c s.data.toList).length (splitB c s.data.toList).length) ∧ w' = w.alloc (.cells (strs (splitB c s.data.toList)).toArray 9) := by
  obtain ⟨m, hm⟩ := hM
  have h := Tryz.strings_Split s ⟨#[c]⟩ m w hs hm (Nat.le_refl 1)
  have hd : (Lib.splitB ⟨#[c]⟩ 0 (Lib.countB s ⟨#[c]⟩) s).map (·.data.toList) = splitB c s.data.toList := by
    rcases splitB_bytes c s ⟨#[c]⟩ with h | h
    · exact h
    · exact absurd rfl h
  have hl : (splitB c s.data.toList).length = Lib.countB s ⟨#[c]⟩ + 1 := by
    rw [← hd, List.length_map]
    exact Lib.splitB_all ⟨#[c]⟩ (Nat.le_refl 1) 0 _ s rfl
  rw [strs_of hd, ← hl] at h
  exact h

def NParsePost (w : World) (l : Qm.W) (e : Ending) (w' : World) : Prop :=
  ∃ k a f no A n c, e = .returned (.tuple #[.agg (ndRow k a f no A n c).toArray, .int .i64 (parseNd l).2]) ∧ RNd w' (fun i => w.heap.size ≤ i ∧ i < w'.heap.size) (ndRow k a f no A n c) (parseNd l).1 ∧ Below w.heap.size w w'
theorem RNd.zero (w : World) (S : Nat → Prop) : RNd w S (ndRow 0 At.zero [] false none 0 0) Nd.zero := RNd.shut (Nat.le_refl _) (Nat.zero_le _) (Nat.zero_le _) (Nat.zero_le _) (Nat.zero_le _) RKids.nil_

theorem far_ownB {w w1 w2 : World} {b : Nat} (h : Below w.heap.size w w1) (k : Far (fun i => i = b) w1 w2) (hb : w.heap.size ≤ b) : Below w.heap.size w w2 :=
  ⟨k.base.os.trans h.os, k.base.tape.trans h.tape, k.base.output.trans h.output, Nat.le_trans h.size k.size, fun i hi => (k.block i (Nat.lt_of_lt_of_le hi h.size) (by omega)).trans (h.block i hi)⟩
theorem parse_start (w : World) (ws : List Qm.W) (hl : ws.length ≤ maxLen) (hL : LaidV w) :
    let w3 := ((w.alloc (.cells (ndRow 0 At.zero [] false none 0 0).toArray 26)).alloc (.cells (strs ws).toArray 9)).alloc (.cells #[.slice (some ⟨w.heap.size + 1, 0, none⟩) ws.length ws.length] 47)
    RdSt w3 (w.heap.size + 1 + 1) (fun k => k = w.heap.size + 1) ws ∧ Env w w3 (w.heap.size + 1 + 1) (fun k => k = w.heap.size + 1) ∧ Whole w3 w.heap.size 26 (ndRow 0 At.zero [] false none 0 0) ∧ Below w.heap.size w w3 := by
  intro w3
  have h1 := (Whole.new w _ 26 (ndRow 0 At.zero [] false none 0 0) rfl)
  have h2 := Whole.new (w.alloc (.cells (ndRow 0 At.zero [] false none 0 0).toArray 26)) (w.heap.size + 1) 9 (strs ws) (by simp)
  have h3 := Whole.new ((w.alloc (.cells (ndRow 0 At.zero [] false none 0 0).toArray 26)).alloc (.cells (strs ws).toArray 9)) (w.heap.size + 1 + 1) 47 [.slice (some ⟨w.heap.size + 1, 0, none⟩) ws.length ws.length] (by simp)
  have hb : Below w.heap.size w w3 := (((Below.refl _ w).alloc (Nat.le_refl _) _).alloc (by simp) _).alloc (by simp; omega) _
  have h2' := h2.alloc (.cells #[.slice (some ⟨w.heap.size + 1, 0, none⟩) ws.length ws.length] 47)
  refine ⟨⟨_, _, h3, Nat.le_refl _, hl, Whole.row (S := fun k => k = w.heap.size + 1) h2' rfl (strs_len ws), by omega⟩, ⟨hL, hb, by omega, h3.lt, fun k hk => by subst hk; exact h2'.lt⟩, (h1.alloc _).alloc _, hb⟩


set_option maxRecDepth 100000 in
set_option maxHeartbeats 3200000 in
theorem nparse_any (s : ByteArray) (w : World) (hs : s.size ≤ maxLen) (hL : LaidV w) (hM : MaxW w) :
    Calls Tryz.prog 8 #[.string s] w (NParsePost w s.data.toList) := by
  unfold maxLen at hs
  have HSZ := Lib.hid (Lib.size_eq s)
  have HLV := Lib.hid hL; clear hL
  have HMV := Lib.hid hM; clear hM
  have HZ := Lib.hid (Whole.new w _ 26 [.int .i64 0, .string ⟨#[]⟩, .int .i64 0, .int .i64 0, .int .i64 0, .string ⟨#[]⟩, .bool false, .string ⟨#[]⟩, .bool false, .slice none 0 0] rfl)
  have HB := Lib.hid ((Below.refl _ w).alloc (Nat.le_refl _) (.cells #[.int .i64 0, .string ⟨#[]⟩, .int .i64 0, .int .i64 0, .int .i64 0, .string ⟨#[]⟩, .bool false, .string ⟨#[]⟩, .bool false, .slice none 0 0] 26))
  by_cases hl : 20000 < s.size
  · have hl' : (20000 : Int) < (s.size : Int) := by omega
    have HP : Hid (parseNd s.data.toList = (Nd.zero, 2)) := Lib.hid (by unfold parseNd; rw [if_pos (by rw [← HSZ.out]; exact hl)])
    go_enter Tryz.func8, Tryz.ntmps8
    go_wp2
    have hW := HZ.out
    have hB := HB.out
    generalize World.alloc _ _ = wf at hW hB ⊢
    have e0 := hW.cell 0; have e1 := hW.cell 1; have e2 := hW.cell 2; have e3 := hW.cell 3; have e4 := hW.cell 4; have e5 := hW.cell 5; have e6 := hW.cell 6; have e7 := hW.cell 7; have e8 := hW.cell 8; have e9 := hW.cell 9
    simp only [List.getElem?_cons_zero, List.getElem?_cons_succ] at e0 e1 e2 e3 e4 e5 e6 e7 e8 e9
    refine bodyPost_ret (v := .tuple #[.agg #[_, _, _, _, _, _, _, _, _, _], .int .i64 _]) (by simp [results, Tryz.results8, go_sem, e0, e1, e2, e3, e4, e5, e6, e7, e8, e9]; exact ⟨⟨rfl, rfl, rfl, rfl, rfl, rfl, rfl, rfl, rfl, rfl⟩, rfl⟩) rfl ?_
    exact ⟨0, At.zero, [], false, none, 0, 0, by rw [HP.out]; rfl, by rw [HP.out]; exact RNd.zero _ _, hB⟩
  · have hl' : decide ((20000 : Int) < (s.size : Int)) = false := by simp; omega
    have HP : Hid (parseNd s.data.toList = toldNd (readN 4 (splitB 32 s.data.toList))) := Lib.hid (by unfold parseNd; rw [if_neg (by rw [← HSZ.out]; exact hl)])
    have hsp := fun wx hM => split_any s 32 wx (by omega) hM
    obtain ⟨hw1, hw2⟩ := splitB_le (c := 32) (l := s.data.toList)
    rw [← HSZ.out] at hw1 hw2
    generalize splitB 32 s.data.toList = ws at hsp hw1 hw2 HP
    have Hsp := Lib.hid hsp
    have Hw1 := Lib.hid hw1
    clear hsp hw1
    have hst := parse_start w ws (by unfold maxLen; omega) HLV.out
    unfold At.zero at hst
    have Hst := Lib.hid hst; clear hst
    have hneed := fun wx h1 h2 => need_any 4 1 (w.heap.size + 1 + 1) (fun k => k = w.heap.size + 1) ws w wx rfl (by decide) h1 h2 (fun x hx => by have := Hw1.out x hx; omega) (by omega)
    unfold NeedPost at hneed
    generalize readN 4 ws = q at hneed HP
    have Hneed := Lib.hid hneed; clear hneed
    rcases q with _ | ⟨y, u⟩
    · have HP2 : Hid (parseNd s.data.toList = (Nd.zero, 1)) := Lib.hid HP.out
      go_enter Tryz.func8, Tryz.ntmps8
      go_wp2_with (first | (go_at_call 20; refine (Hsp.out _ (HMV.out.below HB.out)).mono ?_; rintro e w1 ⟨rfl, rfl⟩))
      refine (Hneed.out _ Hst.out.1 Hst.out.2.1).mono ?_
      rintro e w4 ⟨k', a', f', no', A', n', c', rfl, hf4, -⟩
      obtain ⟨xn, xo, xv, xs, xf, xb⟩ := a'
      have HZ4 := Lib.hid (hf4.whole Hst.out.2.2.1 (by show w.heap.size ≠ _; omega))
      have HB4 := Lib.hid (far_ownB Hst.out.2.2.2 hf4 (by omega))
      clear hf4
      unfold ndRow at HZ4 ⊢
      try simp only [Option.isSome_none]
      have z0 := HZ4.out.cell 0; have z1 := HZ4.out.cell 1; have z2 := HZ4.out.cell 2; have z3 := HZ4.out.cell 3; have z4 := HZ4.out.cell 4; have z5 := HZ4.out.cell 5; have z6 := HZ4.out.cell 6; have z7 := HZ4.out.cell 7; have z8 := HZ4.out.cell 8; have z9 := HZ4.out.cell 9
      have y0 := HZ4.out.free 0; have y1 := HZ4.out.free 1; have y2 := HZ4.out.free 2; have y3 := HZ4.out.free 3; have y4 := HZ4.out.free 4; have y5 := HZ4.out.free 5; have y6 := HZ4.out.free 6; have y7 := HZ4.out.free 7; have y8 := HZ4.out.free 8; have y9 := HZ4.out.free 9
      simp only [List.getElem?_cons_zero, List.getElem?_cons_succ] at z0 z1 z2 z3 z4 z5 z6 z7 z8 z9
      have hlt := HZ4.out.lt
      go_wp2
      obtain ⟨wz, hwz, hW, hF, hsz⟩ := store10 HZ4.out rfl (.int .i64 0) (.string ⟨#[]⟩) (.int .i64 0) (.int .i64 0) (.int .i64 0) (.string ⟨#[]⟩) (.bool false) (.string ⟨#[]⟩) (.bool false) (.slice none 0 0)
      rw [hwz]
      clear hwz
      have hW2 := hW.alloc (.cells #[.int .i64 k', .string ⟨xn.toArray⟩, .int .i64 xo, .int .i64 xv, .int .i64 xs, .string ⟨xf.toArray⟩, .bool xb, .string ⟨f'.toArray⟩, .bool no', .slice A' n' c'] 26)
      have hB2 := (far_ownB HB4.out hF (Nat.le_refl _)).alloc (by rw [hsz]; exact HB4.out.size) (.cells #[.int .i64 k', .string ⟨xn.toArray⟩, .int .i64 xo, .int .i64 xv, .int .i64 xs, .string ⟨xf.toArray⟩, .bool xb, .string ⟨f'.toArray⟩, .bool no', .slice A' n' c'] 26)
      generalize wz.alloc _ = wf at hW2 hB2 ⊢
      have e0 := hW2.cell 0; have e1 := hW2.cell 1; have e2 := hW2.cell 2; have e3 := hW2.cell 3; have e4 := hW2.cell 4; have e5 := hW2.cell 5; have e6 := hW2.cell 6; have e7 := hW2.cell 7; have e8 := hW2.cell 8; have e9 := hW2.cell 9
      simp only [List.getElem?_cons_zero, List.getElem?_cons_succ] at e0 e1 e2 e3 e4 e5 e6 e7 e8 e9
      refine bodyPost_ret (v := .tuple #[.agg #[_, _, _, _, _, _, _, _, _, _], .int .i64 _]) (by simp [results, Tryz.results8, go_sem, e0, e1, e2, e3, e4, e5, e6, e7, e8, e9]; exact ⟨⟨rfl, rfl, rfl, rfl, rfl, rfl, rfl, rfl, rfl, rfl⟩, rfl⟩) rfl ?_
      exact ⟨0, At.zero, [], false, none, 0, 0, by rw [HP2.out]; rfl, by rw [HP2.out]; exact RNd.zero _ _, hB2⟩
    · have hck := fun (S : Nat → Prop) (x : List Value) (wx : World) h1 h2 => nCheck_any y S x wx h1 h2
      have HP2 : Hid (parseNd s.data.toList = toldNd (some (y, u))) := Lib.hid HP.out
      have HCK : Hid (∀ e, ckNeed y = e → finNd y = if e = 0 then (y, 0) else (Nd.zero, e)) := Lib.hid fun e he => by subst he; rfl
      go_enter Tryz.func8, Tryz.ntmps8
      go_wp2_with (first | (go_at_call 20; refine (Hsp.out _ (HMV.out.below HB.out)).mono ?_; rintro e w1 ⟨rfl, rfl⟩))
      refine (Hneed.out _ Hst.out.1 Hst.out.2.1).mono ?_
      rintro e w4 ⟨k', a', f', no', A', n', c', rfl, hf4, hsome⟩
      obtain ⟨hrn, hrd⟩ := hsome y u rfl
      have hlow : w.heap.size ≤ ((w.alloc (.cells (ndRow 0 At.zero [] false none 0 0).toArray 26)).alloc (.cells (strs ws).toArray 9)).heap.size := by simp; omega
      have HRN := Lib.hid (hrn.more (S' := fun i => w.heap.size < i ∧ i < w4.heap.size) fun i hi => ⟨by have h1 := hi.1; simp at h1; omega, hi.2⟩)
      obtain ⟨Ar, cr, hrw, -⟩ := hrd
      have r0 := hrw.cell 0
      simp only [List.getElem?_cons_zero] at r0
      have hltr := hrw.lt
      have HZ4 := Lib.hid (hf4.whole Hst.out.2.2.1 (by show w.heap.size ≠ _; omega))
      have HB4 := Lib.hid (far_ownB Hst.out.2.2.2 hf4 (by omega))
      clear hf4 hsome hrn hrw hlow
      have HA' := Lib.hid (show atOf ⟨a'.nm.toArray⟩ a'.op a'.ver a'.slot ⟨a'.fl.toArray⟩ a'.on = a' from atOf_mk a')
      obtain ⟨xn, xo, xv, xs, xf, xb⟩ := a'
      unfold ndRow at HZ4 HRN ⊢
      try simp only [Option.isSome_some]
      cases u with
      | cons a r =>
        have HP3 : Hid (parseNd s.data.toList = (Nd.zero, 1)) := Lib.hid HP2.out
        have hul : (0 : Int) < ((a :: r).length : Int) := by simp only [List.length_cons]; omega
        have z0 := HZ4.out.cell 0; have z1 := HZ4.out.cell 1; have z2 := HZ4.out.cell 2; have z3 := HZ4.out.cell 3; have z4 := HZ4.out.cell 4; have z5 := HZ4.out.cell 5; have z6 := HZ4.out.cell 6; have z7 := HZ4.out.cell 7; have z8 := HZ4.out.cell 8; have z9 := HZ4.out.cell 9
        have y0 := HZ4.out.free 0; have y1 := HZ4.out.free 1; have y2 := HZ4.out.free 2; have y3 := HZ4.out.free 3; have y4 := HZ4.out.free 4; have y5 := HZ4.out.free 5; have y6 := HZ4.out.free 6; have y7 := HZ4.out.free 7; have y8 := HZ4.out.free 8; have y9 := HZ4.out.free 9
        simp only [List.getElem?_cons_zero, List.getElem?_cons_succ] at z0 z1 z2 z3 z4 z5 z6 z7 z8 z9
        have hlt := HZ4.out.lt
        go_wp2
        obtain ⟨wz, hwz, hW, hF, hsz⟩ := store10 HZ4.out rfl (.int .i64 0) (.string ⟨#[]⟩) (.int .i64 0) (.int .i64 0) (.int .i64 0) (.string ⟨#[]⟩) (.bool false) (.string ⟨#[]⟩) (.bool false) (.slice none 0 0)
        rw [hwz]
        clear hwz
        have hW2 := hW.alloc (.cells #[.int .i64 k', .string ⟨xn.toArray⟩, .int .i64 xo, .int .i64 xv, .int .i64 xs, .string ⟨xf.toArray⟩, .bool xb, .string ⟨f'.toArray⟩, .bool no', .slice A' n' c'] 26)
        have hB2 := (far_ownB HB4.out hF (Nat.le_refl _)).alloc (by rw [hsz]; exact HB4.out.size) (.cells #[.int .i64 k', .string ⟨xn.toArray⟩, .int .i64 xo, .int .i64 xv, .int .i64 xs, .string ⟨xf.toArray⟩, .bool xb, .string ⟨f'.toArray⟩, .bool no', .slice A' n' c'] 26)
        generalize wz.alloc _ = wf at hW2 hB2 ⊢
        have e0 := hW2.cell 0; have e1 := hW2.cell 1; have e2 := hW2.cell 2; have e3 := hW2.cell 3; have e4 := hW2.cell 4; have e5 := hW2.cell 5; have e6 := hW2.cell 6; have e7 := hW2.cell 7; have e8 := hW2.cell 8; have e9 := hW2.cell 9
        simp only [List.getElem?_cons_zero, List.getElem?_cons_succ] at e0 e1 e2 e3 e4 e5 e6 e7 e8 e9
        refine bodyPost_ret (v := .tuple #[.agg #[_, _, _, _, _, _, _, _, _, _], .int .i64 _]) (by simp [results, Tryz.results8, go_sem, e0, e1, e2, e3, e4, e5, e6, e7, e8, e9]; exact ⟨⟨rfl, rfl, rfl, rfl, rfl, rfl, rfl, rfl, rfl, rfl⟩, rfl⟩) rfl ?_
        exact ⟨0, At.zero, [], false, none, 0, 0, by rw [HP3.out]; rfl, by rw [HP3.out]; exact RNd.zero _ _, hB2⟩
      | nil =>
        simp only [List.length_nil] at r0
        have hbl : Below w4.heap.size w4 (w4.alloc (.cells #[.int .i64 k', .string ⟨xn.toArray⟩, .int .i64 xo, .int .i64 xv, .int .i64 xs, .string ⟨xf.toArray⟩, .bool xb, .string ⟨f'.toArray⟩, .bool no', .slice A' n' c'] 26)) := (Below.refl _ _).alloc (Nat.le_refl _) _
        have HN5 := Lib.hid (Whole.new w4 _ 26 [.int .i64 k', .string ⟨xn.toArray⟩, .int .i64 xo, .int .i64 xv, .int .i64 xs, .string ⟨xf.toArray⟩, .bool xb, .string ⟨f'.toArray⟩, .bool no', .slice A' n' c'] rfl)
        have HRN5 := Lib.hid (HRN.out.under hbl fun q hq => hq.2)
        have HZ5 := Lib.hid (HZ4.out.below hbl HZ4.out.lt)
        have HB5 := Lib.hid (HB4.out.trans (hbl.mono HB4.out.size))
        have Hck := Lib.hid (hck _ _ _ HRN5.out fun q hq => Nat.lt_of_lt_of_le hq.2 hbl.size)
        clear hck hbl
        generalize ckNeed y = e at Hck HCK
        have HF2 := Lib.hid (HCK.out e rfl)
        by_cases h0 : e = 0
        · subst h0
          have HP3 : Hid (parseNd s.data.toList = (y, 0)) := Lib.hid (by rw [HP2.out]; exact HF2.out)
          go_wp2_with (first | (go_at_call 11; refine Hck.out.mono ?_; rintro e w6 ⟨rfl, hb6⟩; refine Hid.out ?_))
          refine Lib.hid ?_
          have HB6 := Lib.hid (HB5.out.trans (hb6.mono HB5.out.size))
          have HZ6 := Lib.hid (HZ5.out.below hb6 HZ5.out.lt)
          have HN6 := Lib.hid (HN5.out.below hb6 HN5.out.lt)
          have HRN6 := Lib.hid (HRN5.out.under hb6 fun q hq => by have := HN5.out.lt; omega)
          clear hb6 HB5 HZ5 HN5 HRN5
          have n0 := HN6.out.cell 0; have n1 := HN6.out.cell 1; have n2 := HN6.out.cell 2; have n3 := HN6.out.cell 3; have n4 := HN6.out.cell 4; have n5 := HN6.out.cell 5; have n6 := HN6.out.cell 6; have n7 := HN6.out.cell 7; have n8 := HN6.out.cell 8; have n9 := HN6.out.cell 9
          simp only [List.getElem?_cons_zero, List.getElem?_cons_succ] at n0 n1 n2 n3 n4 n5 n6 n7 n8 n9
          have z0 := HZ6.out.cell 0; have z1 := HZ6.out.cell 1; have z2 := HZ6.out.cell 2; have z3 := HZ6.out.cell 3; have z4 := HZ6.out.cell 4; have z5 := HZ6.out.cell 5; have z6 := HZ6.out.cell 6; have z7 := HZ6.out.cell 7; have z8 := HZ6.out.cell 8; have z9 := HZ6.out.cell 9
          have y0 := HZ6.out.free 0; have y1 := HZ6.out.free 1; have y2 := HZ6.out.free 2; have y3 := HZ6.out.free 3; have y4 := HZ6.out.free 4; have y5 := HZ6.out.free 5; have y6 := HZ6.out.free 6; have y7 := HZ6.out.free 7; have y8 := HZ6.out.free 8; have y9 := HZ6.out.free 9
          simp only [List.getElem?_cons_zero, List.getElem?_cons_succ] at z0 z1 z2 z3 z4 z5 z6 z7 z8 z9
          have hlt := HZ6.out.lt
          have hlt2 := HN6.out.lt
          go_wp2
          obtain ⟨wz, hwz, hW, hF, hsz⟩ := store10 HZ6.out rfl (.int .i64 k') (.string ⟨xn.toArray⟩) (.int .i64 xo) (.int .i64 xv) (.int .i64 xs) (.string ⟨xf.toArray⟩) (.bool xb) (.string ⟨f'.toArray⟩) (.bool no') (.slice A' n' c')
          rw [hwz]
          clear hwz
          have hB2 := far_ownB HB6.out hF (Nat.le_refl _)
          have e0 := hW.cell 0; have e1 := hW.cell 1; have e2 := hW.cell 2; have e3 := hW.cell 3; have e4 := hW.cell 4; have e5 := hW.cell 5; have e6 := hW.cell 6; have e7 := hW.cell 7; have e8 := hW.cell 8; have e9 := hW.cell 9
          simp only [List.getElem?_cons_zero, List.getElem?_cons_succ] at e0 e1 e2 e3 e4 e5 e6 e7 e8 e9
          refine bodyPost_ret (v := .tuple #[.agg #[_, _, _, _, _, _, _, _, _, _], .int .i64 _]) (by simp [results, Tryz.results8, go_sem, e0, e1, e2, e3, e4, e5, e6, e7, e8, e9]; exact ⟨⟨rfl, rfl, rfl, rfl, rfl, rfl, rfl, rfl, rfl, rfl⟩, rfl⟩) rfl ?_
          refine ⟨k', ⟨xn, xo, xv, xs, xf, xb⟩, f', no', A', n', c', by rw [HP3.out]; rfl, ?_, hB2⟩
          rw [HP3.out]
          exact (HRN6.out.far hF fun i hi => ⟨by omega, by omega⟩).more fun i hi => ⟨by omega, by omega⟩
        · have h1 : (e != 0) = true := by simpa using h0
          have HP3 : Hid (parseNd s.data.toList = (Nd.zero, e)) := Lib.hid (by rw [HP2.out]; have := HF2.out; rw [if_neg h0] at this; exact this)
          clear h0
          go_wp2_with (first | (go_at_call 11; refine Hck.out.mono ?_; rintro e w6 ⟨rfl, hb6⟩; refine Hid.out ?_))
          refine Lib.hid ?_
          have HB6 := Lib.hid (HB5.out.trans (hb6.mono HB5.out.size))
          have HZ6 := Lib.hid (HZ5.out.below hb6 HZ5.out.lt)
          have HN6 := Lib.hid (HN5.out.below hb6 HN5.out.lt)
          clear hb6 HB5 HZ5 HN5 HRN5
          have n0 := HN6.out.cell 0; have n1 := HN6.out.cell 1; have n2 := HN6.out.cell 2; have n3 := HN6.out.cell 3; have n4 := HN6.out.cell 4; have n5 := HN6.out.cell 5; have n6 := HN6.out.cell 6; have n7 := HN6.out.cell 7; have n8 := HN6.out.cell 8; have n9 := HN6.out.cell 9
          simp only [List.getElem?_cons_zero, List.getElem?_cons_succ] at n0 n1 n2 n3 n4 n5 n6 n7 n8 n9
          have z0 := HZ6.out.cell 0; have z1 := HZ6.out.cell 1; have z2 := HZ6.out.cell 2; have z3 := HZ6.out.cell 3; have z4 := HZ6.out.cell 4; have z5 := HZ6.out.cell 5; have z6 := HZ6.out.cell 6; have z7 := HZ6.out.cell 7; have z8 := HZ6.out.cell 8; have z9 := HZ6.out.cell 9
          have y0 := HZ6.out.free 0; have y1 := HZ6.out.free 1; have y2 := HZ6.out.free 2; have y3 := HZ6.out.free 3; have y4 := HZ6.out.free 4; have y5 := HZ6.out.free 5; have y6 := HZ6.out.free 6; have y7 := HZ6.out.free 7; have y8 := HZ6.out.free 8; have y9 := HZ6.out.free 9
          simp only [List.getElem?_cons_zero, List.getElem?_cons_succ] at z0 z1 z2 z3 z4 z5 z6 z7 z8 z9
          have hlt := HZ6.out.lt
          have hlt2 := HN6.out.lt
          go_wp2
          obtain ⟨wz, hwz, hW, hF, hsz⟩ := store10 HZ6.out rfl (.int .i64 0) (.string ⟨#[]⟩) (.int .i64 0) (.int .i64 0) (.int .i64 0) (.string ⟨#[]⟩) (.bool false) (.string ⟨#[]⟩) (.bool false) (.slice none 0 0)
          rw [hwz]
          clear hwz
          have hB2 := far_ownB HB6.out hF (Nat.le_refl _)
          have e0 := hW.cell 0; have e1 := hW.cell 1; have e2 := hW.cell 2; have e3 := hW.cell 3; have e4 := hW.cell 4; have e5 := hW.cell 5; have e6 := hW.cell 6; have e7 := hW.cell 7; have e8 := hW.cell 8; have e9 := hW.cell 9
          simp only [List.getElem?_cons_zero, List.getElem?_cons_succ] at e0 e1 e2 e3 e4 e5 e6 e7 e8 e9
          refine bodyPost_ret (v := .tuple #[.agg #[_, _, _, _, _, _, _, _, _, _], .int .i64 _]) (by simp [results, Tryz.results8, go_sem, e0, e1, e2, e3, e4, e5, e6, e7, e8, e9]; exact ⟨⟨rfl, rfl, rfl, rfl, rfl, rfl, rfl, rfl, rfl, rfl⟩, rfl⟩) rfl ?_
          exact ⟨0, At.zero, [], false, none, 0, 0, by rw [HP3.out]; rfl, by rw [HP3.out]; exact RNd.zero _ _, hB2⟩
end Go.Proofs.YtnkmonmkhmcgaaaGreatDoor
