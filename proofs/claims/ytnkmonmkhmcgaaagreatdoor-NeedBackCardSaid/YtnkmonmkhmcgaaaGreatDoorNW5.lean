/- need.Print, the reader's next, walked. (Of the shelf: Tryz.strings_HasSuffix Tryz.strings_Split Tryz.slices_Sort_string Tryz.slices_Sort_string_none Tryz.slices_Compact_string Tryz.slices_Compact_string_empty Tryz.slices_Equal_string Tryz.slices_Equal_string_lens Tryz.slices_Equal_string_empty) -/
import Derived.Test.YtnkmonmkhmcgaaaGreatDoorNW4
import Derived.Test.YtnkmonmkhmcgaaaGreatDoorFar
import Derived.Test.YtnkmonmkhmcgaaaGreatDoorShelf
namespace Go.Proofs.YtnkmonmkhmcgaaaGreatDoor
open Go.RowKit Qm

theorem RNd.far {w w' : World} {S D : Nat → Prop} {x : List Value} {y : Nd} (h : RNd w S x y) (hf : Far D w w') (hS : ∀ k, S k → k < w.heap.size ∧ ¬ D k) : RNd w' S x y := h.keep fun _ hp => hf.cell (hS _ hp).1 (hS _ hp).2
theorem strs_get (ws : List Qm.W) (j : Nat) (x : ByteArray) (h : (ws.map fun l => (⟨l.toArray⟩ : ByteArray))[j]? = some x) : (strs ws)[j]? = some (.string x) := by
  unfold strs
  rw [List.getElem?_map] at h ⊢
  cases e : ws[j]? with
  | none => rw [e] at h; cases h
  | some l => rw [e] at h; simp at h; simp [h]
theorem data_map (ws : List Qm.W) : (ws.map fun l => (⟨l.toArray⟩ : ByteArray)).map (·.data.toList) = ws := by
  induction ws with
  | nil => rfl
  | cons a r ih => simp only [List.map_cons, ih]

set_option maxHeartbeats 1600000 in
theorem join_any (b o c : Nat) (ws : List Qm.W) (w : World) (S : Nat → Prop) (hr : Row w S (some ⟨b, o, none⟩) ws.length (strs ws)) (hS : ∀ k, S k → k < w.heap.size) (hpos : 0 < ws.length) (hc : ws.length ≤ c) (d : UInt8) (hlen : fullLen ws ≤ 1000000) :
    Calls Tryz.prog 17 #[.slice (some ⟨b, o, none⟩) ws.length c, .string ⟨#[d]⟩] w fun e w' => e = .returned (.string ⟨(joinB d ws).toArray⟩) ∧ Below w.heap.size w w' := by
  obtain ⟨b', o', e, hb, hcell⟩ := hr.2 hpos
  injection e with e; injection e with e1 e2
  subst e1 e2
  have hj := join_eq d ws
  have hl : ws.length ≤ fullLen ws := by
    clear hr hpos hc hlen hcell hj
    induction ws with
    | nil => simp
    | cons a r ih => simp [fullLen] at ih ⊢; omega
  have h := Tryz.strings_Join b o c (ws.map fun l => ⟨l.toArray⟩) ⟨#[d]⟩ w (fun j x hx => by
      have hjl : j < ws.length := by have := (List.getElem?_eq_some_iff.1 hx).1; simpa using this
      rw [hcell j hjl]; exact strs_get ws j x hx) (hS _ hb) (by simp; omega) (by simpa using hc) (by
      rw [data_map, show (⟨#[d]⟩ : ByteArray).data.toList = [d] from rfl, hj]
      have := join_len d ws; omega)
  rw [data_map, show (⟨#[d]⟩ : ByteArray).data.toList = [d] from rfl, hj] at h
  simpa using h

/-- As the words come, in literal form. -/
def WordsLit (w : World) (y : Nd) (e : Ending) (w' : World) : Prop :=
  ∃ b o c, e = .returned (.slice (some ⟨b, o, none⟩) (wordsN y).length c) ∧ (wordsN y).length ≤ c ∧ Row w' (fun k => w.heap.size ≤ k ∧ k < w'.heap.size) (some ⟨b, o, none⟩) (wordsN y).length (strs (wordsN y)) ∧ Below w.heap.size w w'
theorem WordsPost.lit {w w' : World} {y : Nd} {e : Ending} (h : WordsPost w y e w') : WordsLit w y e w' := by
  obtain ⟨A, c, rfl, hown, hb⟩ := h
  have hp : 0 < (wordsN y).length := by
    cases e : wordsN y
    · exact absurd e (words_ne y)
    · simp
  have hrow := own_row hown
  obtain ⟨A', c', he, hc1, hc2, _⟩ := own_form hown
  injection he with _ _ he
  subst he
  obtain ⟨b, o, rfl, _⟩ := hrow.some_lit hp
  exact ⟨b, o, c, rfl, hc1, hrow, hb⟩

set_option maxRecDepth 100000 in
set_option maxHeartbeats 1600000 in
theorem nprint_any (y : Nd) (S : Nat → Prop) (x : List Value) (w : World) (hR : RNd w S x y) (hS : ∀ k, S k → k < w.heap.size) :
    Calls Tryz.prog 5 #[.agg x.toArray] w fun e w' => e = .returned (.tuple #[.string ⟨(printNd y).toArray⟩, .int .i64 (ckNeed y)]) ∧ Below w.heap.size w w' := by
  have HY := Lib.hid (show ckNeed y = 0 → printNd y = ndText y by intro h; unfold printNd; rw [if_pos h])
  have HN := Lib.hid (show ckNeed y ≠ 0 → printNd y = [] by intro h; unfold printNd; rw [if_neg h])
  have HZ := Lib.hid (fun h => ckNeed_zero (n := y) h)
  have hck := fun wx h1 h2 => nCheck_any y S x wx h1 h2
  have hwd := fun wx h1 h2 h3 h4 => (words_any y S x wx h1 h2 h3 h4).mono (R' := WordsLit wx y) fun _ _ h => h.lit
  have HJ := Lib.hid (show fullLen (wordsN y) ≤ 200 * y.nodes ∨ ckNd y ≠ 0 from (Classical.em _).elim (fun h => .inl (words_len h)) .inr)
  have HP := Lib.hid (show 0 < (wordsN y).length by
    cases e : wordsN y
    · exact absurd e (words_ne y)
    · simp)
  have HT : Hid (ndText y = joinB 32 (wordsN y)) := Lib.hid rfl
  generalize printNd y = p at HY HN ⊢
  generalize ckNeed y = q at HY HN HZ hck ⊢
  obtain ⟨k, a, f, no, ks⟩ := y
  obtain ⟨A, n, c, rfl, -⟩ := hR.open_
  have HB := Lib.hid ((Below.refl _ w).alloc (Nat.le_refl _) (.cells (ndRow k a f no A n c).toArray 26))
  have HW := Lib.hid (Whole.new w _ 26 (ndRow k a f no A n c) rfl)
  have HR := Lib.hid (hR.under HB.out hS)
  have HS := Lib.hid hS
  clear hR hS
  unfold ndRow at HB HW HR hck hwd ⊢
  have Hck := Lib.hid hck; have Hwd := Lib.hid hwd; clear hck hwd
  by_cases h0 : q = 0
  · subst h0
    obtain ⟨_, hnod, hnd⟩ := HZ.out rfl
    have HPE : Hid (p = ndText (.mk k a f no ks)) := Lib.hid (HY.out rfl)
    have Hnod := Lib.hid hnod; have Hnd := Lib.hid hnd; clear hnod hnd HY HN HZ
    go_enter Tryz.func5, Tryz.ntmps5
    go_wp2_with (first | (go_at_call 11; refine (Hck.out _ HR.out (fun k hk => Nat.lt_of_lt_of_le (HS.out k hk) HB.out.size)).mono ?_; rintro e w1 ⟨rfl, hb1⟩; refine Hid.out ?_))
    refine Lib.hid ?_
    have HB1 := Lib.hid (HB.out.trans (hb1.mono HB.out.size))
    have HR1 := Lib.hid (HR.out.under hb1 fun k hk => Nat.lt_of_lt_of_le (HS.out k hk) HB.out.size)
    have HW1 := Lib.hid (HW.out.below hb1 HW.out.lt); clear hb1
    have g0 := HW1.out.cell 0; have g1 := HW1.out.cell 1; have g2 := HW1.out.cell 2; have g3 := HW1.out.cell 3; have g4 := HW1.out.cell 4
    have g5 := HW1.out.cell 5; have g6 := HW1.out.cell 6; have g7 := HW1.out.cell 7; have g8 := HW1.out.cell 8; have g9 := HW1.out.cell 9
    simp only [List.getElem?_cons_zero, List.getElem?_cons_succ] at g0 g1 g2 g3 g4 g5 g6 g7 g8 g9
    go_wp2_with (first | (go_at_call 18; refine (Hwd.out _ HR1.out (fun k hk => Nat.lt_of_lt_of_le (HS.out k hk) HB1.out.size) Hnd.out (by have := Hnod.out; omega)).mono ?_; rintro e w2 ⟨b, o, c2, rfl, hc1, hrow, hb2⟩; refine Hid.out ?_))
    refine Lib.hid ?_
    have HB2 := Lib.hid (HB1.out.trans (hb2.mono HB1.out.size)); clear hb2
    have hjn := join_any b o c2 (wordsN (.mk k a f no ks)) w2 _ hrow (fun k hk => hk.2) HP.out hc1 32 (by
      rcases HJ.out with h | h
      · have := Hnod.out; omega
      · exact absurd Hnd.out h)
    have Hjn := Lib.hid hjn
    clear hrow hc1 hjn
    go_wp2_with (first | (go_at_call 17; refine Hjn.out.mono ?_; rintro e w3 ⟨rfl, hb3⟩; refine Hid.out ?_))
    refine Lib.hid ?_
    have HB3 := Lib.hid (HB2.out.trans (hb3.mono HB2.out.size)); clear hb3
    go_wp2
    go_ret2
    obtain rfl : p = joinB 32 (wordsN (.mk k a f no ks)) := by rw [HPE.out, HT.out]
    exact ⟨rfl, HB3.out⟩
  · have h1 : (q != 0) = true := by simpa using h0
    have HPE : Hid (p = []) := Lib.hid (HN.out h0)
    clear HY HN HZ h0
    go_enter Tryz.func5, Tryz.ntmps5
    go_wp2_with (first | (go_at_call 11; refine (Hck.out _ HR.out (fun k hk => Nat.lt_of_lt_of_le (HS.out k hk) HB.out.size)).mono ?_; rintro e w1 ⟨rfl, hb1⟩; refine Hid.out ?_))
    refine Lib.hid ?_
    have HB1 := Lib.hid (HB.out.trans (hb1.mono HB.out.size)); clear hb1
    go_wp2
    go_ret2
    obtain rfl : p = [] := HPE.out
    exact ⟨rfl, HB1.out⟩

/-! the reader of words -/
/-- The reader's block R: what is left of the words, which lie in blocks of S. -/
def RdSt (w : World) (R : Nat) (S : Nat → Prop) (ws : List Qm.W) : Prop :=
  ∃ A c, Whole w R 47 [.slice A ws.length c] ∧ ws.length ≤ c ∧ c ≤ maxLen ∧ Row w S A ws.length (strs ws) ∧ ¬ S R
theorem RdSt.far {w w' : World} {R : Nat} {S D : Nat → Prop} {ws : List Qm.W} (h : RdSt w R S ws) (hf : Far D w w') (hR : ¬ D R) (hS : ∀ k, S k → k < w.heap.size ∧ ¬ D k) : RdSt w' R S ws := by
  obtain ⟨A, c, h1, h2, h3, h4, h5⟩ := h
  exact ⟨A, c, hf.whole h1 hR, h2, h3, h4.keep fun _ hp => hf.cell (hS _ hp).1 (hS _ hp).2, h5⟩
theorem RdSt.lt {w : World} {R : Nat} {S : Nat → Prop} {ws : List Qm.W} (h : RdSt w R S ws) : R < w.heap.size := by
  obtain ⟨A, c, h1, _⟩ := h; exact h1.lt

def NextPost (w : World) (R : Nat) (S : Nat → Prop) (ws : List Qm.W) (e : Ending) (w' : World) : Prop :=
  e = .returned (.string ⟨(ws.headD []).toArray⟩) ∧ RdSt w' R S ws.tail ∧ Far (fun i => i = R) w w' ∧ w'.heap.size = w.heap.size
set_option maxHeartbeats 1600000 in
theorem next_any (R : Nat) (S : Nat → Prop) (ws : List Qm.W) (w : World) (h : RdSt w R S ws) :
    Calls Tryz.prog 45 #[.pointer (some ⟨R, 0, none⟩)] w (NextPost w R S ws) := by
  obtain ⟨A, c, hw, hc1, hc2, hr, hS⟩ := h
  have HW := Lib.hid hw; have HR := Lib.hid hr; have HS := Lib.hid hS
  have g0 := hw.cell 0
  have f0 := hw.free 0
  simp only [List.getElem?_cons_zero] at g0
  unfold maxLen at hc2
  cases ws with
  | nil =>
    clear hw hr hS
    simp only [List.length_nil] at g0
    go_enter Tryz.func45, Tryz.ntmps45
    go_wp2
    go_ret
    exact ⟨rfl, ⟨A, c, HW.out, hc1, by unfold maxLen; omega, HR.out, HS.out⟩, Far.refl _ _, rfl⟩
  | cons a r =>
    obtain ⟨b, o, rfl, hb⟩ := hr.some_lit (by simp)
    have hcell := (hr.2 (by simp))
    obtain ⟨b', o', e, _, hcell⟩ := hcell
    injection e with e; injection e with e1 e2
    subst e1 e2
    have k0 := hcell 0 (by simp)
    simp only [Nat.add_zero, strs, List.map_cons, List.getElem?_cons_zero] at k0
    clear hcell
    have hl : (a :: r).length = r.length + 1 := rfl
    rw [hl] at g0 hc1
    have hdrop := hr.drop (k := 1) (cap := c) (by simp) hc1
    have Hdrop := Lib.hid hdrop
    clear hw hr hS hdrop hl
    by_cases c1 : c = 1
    · subst c1
      go_enter Tryz.func45, Tryz.ntmps45
      go_wp2
      go_ret
      obtain rfl : r = [] := List.eq_nil_of_length_eq_zero (by omega)
      refine ⟨rfl, ⟨some ⟨b, o, none⟩, 0, HW.out.set_ 0 _, Nat.le_refl _, by unfold maxLen; omega, ?_, HS.out⟩, Far.set_ (D := fun i => i = R) rfl 0 _, by simp [World.setCell]⟩
      have hd := Hdrop.out
      simp only [if_true] at hd
      exact hd.keep fun p hp => World.cell?_setCell_other _ _ _ _ (fun e => HS.out (by rw [← e] at hp; exact hp))
    · have h2 : 2 ≤ c := by omega
      go_enter Tryz.func45, Tryz.ntmps45
      go_wp2
      go_ret
      refine ⟨rfl, ⟨some ⟨b, o + 1, none⟩, c - 1, HW.out.set_ 0 _, by simp only [List.tail_cons]; omega, by unfold maxLen; omega, ?_, HS.out⟩, Far.set_ (D := fun i => i = R) rfl 0 _, by simp [World.setCell]⟩
      have hd := Hdrop.out
      rw [if_neg (by omega)] at hd
      exact hd.keep fun p hp => World.cell?_setCell_other _ _ _ _ (fun e => HS.out (by rw [← e] at hp; exact hp))
end Go.Proofs.YtnkmonmkhmcgaaaGreatDoor
