/- need.Flags, walked. -/
import Derived.Test.YtnkmonmkhmcgaaaGreatDoorNW10
import Derived.Lib.OwnBridge
import Derived.Lib.SlicesCompact
namespace Go.Proofs.YtnkmonmkhmcgaaaGreatDoor
open Go.RowKit Go.Sort Qm

def sortW (fs : List Qm.W) : List Qm.W := fs.mergeSort fun x y => decide (x ≤ y)
def flP (y : Nd) : List Qm.W := if ckNeed y = 0 then Lib.compact (sortW (flagsN y)) else []
theorem strs_enc (fs : List Qm.W) : strs fs = fs.map encStr := rfl
theorem far_sorted {w : World} {g n : Nat} {os : Array Obj} (d : Array Qm.W) : Far (fun i => i = g) w (grow (putRow encStr (Sort.ahead w n) g 0 d) os) := by
  refine ⟨⟨rfl, rfl, rfl, by simp [grow, putRow, mapBlock, Sort.ahead], fun k hk => absurd hk (by omega)⟩, fun i hi hn => ?_⟩
  rw [heap_grow_old _ _ (by simpa [putRow, mapBlock, Sort.ahead] using hi)]
  simp only [putRow, mapBlock, Sort.ahead, Array.getElem?_modify]
  rw [if_neg (fun e => hn e.symm)]
theorem own_grow {w : World} {base : Nat} {e : TypeId} {size : Nat} {v : Value} {n : Nat} {xs : List Value} (os : Array Obj) (h : w.ownsRow base e size v n xs) : (grow w os).ownsRow base e size v n xs :=
  own_below h ⟨rfl, rfl, rfl, by simp [grow], fun i hi => heap_grow_old _ _ hi⟩

theorem grow_nil (w : World) : grow w #[] = w := by simp [grow]
def SortPost (base g n cap : Nat) (fs : List Qm.W) (w : World) (e : Ending) (w' : World) : Prop :=
  e = .returned (.tuple #[]) ∧ w'.ownsRow base 9 1 (.slice (some ⟨g, 0, none⟩) n cap) n (strs (sortW fs)) ∧ Far (fun i => i = g) w w'
theorem sortS_any (base g n cap : Nat) (fs : List Qm.W) (w : World) (hown : w.ownsRow base 9 1 (.slice (some ⟨g, 0, none⟩) n cap) n (strs fs)) (hn : n ≤ 100000) :
    Calls Tryz.prog 23 #[.slice (some ⟨g, 0, none⟩) n cap] w (SortPost base g n cap fs w) := by
  have hl : fs.length = n := by have := hown.1; simpa [strs] using this
  rw [strs_enc] at hown
  obtain ⟨g', cap', hv, hb, hlt, hnc, hcm, _, hH⟩ := Lib.holds_of_ownsRow hown (by simp)
  injection hv with hv1 _ hv2
  injection hv1 with hv1
  injection hv1 with hv1
  subst hv1 hv2
  have h := Tryz.slices_Sort_string g 0 cap fs w hH hlt (by omega)
  rw [hl] at h
  refine h.mono ?_
  rintro e w' ⟨rfl, k, os, rfl⟩
  refine ⟨rfl, ?_, far_sorted _⟩
  have hs : (sortW fs).length = n := by unfold sortW; rw [List.length_mergeSort]; exact hl
  have := Lib.ownsRow_putRow (q := k) (k := n) (ys := sortW fs) hown hs (Nat.le_refl _)
  rw [List.take_of_length_le (by omega), ← strs_enc] at this
  exact own_grow os this
def CompPost (base g cap : Nat) (fs : List Qm.W) (w : World) (e : Ending) (w' : World) : Prop :=
  e = .returned (.slice (some ⟨g, 0, none⟩) (Lib.compact fs).length cap) ∧ w'.ownsRow base 9 1 (.slice (some ⟨g, 0, none⟩) (Lib.compact fs).length cap) (Lib.compact fs).length (strs (Lib.compact fs)) ∧ Far (fun i => i = g) w w'
theorem compact_le (fs : List Qm.W) : (Lib.compact fs).length ≤ fs.length := by
  have h : ∀ (d : Array Qm.W) (m : Nat), (Lib.compactUpTo d m).length ≤ m := by
    intro d m
    induction m with
    | zero => simp [Lib.compactUpTo]
    | succ m ih =>
      rw [Lib.compactUpTo_succ, List.length_append]
      split <;> simp <;> omega
  exact h _ _
theorem compS_any (base g n cap : Nat) (fs : List Qm.W) (w : World) (hown : w.ownsRow base 9 1 (.slice (some ⟨g, 0, none⟩) n cap) n (strs fs)) (hn : n ≤ 100000) :
    Calls Tryz.prog 24 #[.slice (some ⟨g, 0, none⟩) n cap] w (CompPost base g cap fs w) := by
  have hl : fs.length = n := by have := hown.1; simpa [strs] using this
  rw [strs_enc] at hown
  obtain ⟨g', cap', hv, hb, hlt, hnc, hcm, _, hH⟩ := Lib.holds_of_ownsRow hown (by simp)
  injection hv with hv1 _ hv2
  injection hv1 with hv1
  injection hv1 with hv1
  subst hv1 hv2
  have h := Tryz.slices_Compact_string g 0 cap fs w hH (by omega) (by omega)
  rw [hl] at h
  refine h.mono ?_
  rintro e w' ⟨rfl, q, rfl⟩
  have hcl := compact_le fs
  refine ⟨rfl, ?_, ?_⟩
  · have := Lib.ownsRow_putRow (q := q) (k := (Lib.compact fs).length) (ys := Lib.compact fs ++ List.replicate (n - (Lib.compact fs).length) []) hown (by simp; omega) (by omega)
    rw [List.take_left' rfl, ← strs_enc] at this
    exact this
  · have := far_sorted (w := w) (g := g) (n := q) (os := #[]) (Lib.compact fs ++ List.replicate (n - (Lib.compact fs).length) []).toArray
    rw [grow_nil] at this
    exact this

def FlagsPost (w : World) (y : Nd) (e : Ending) (w' : World) : Prop :=
  ∃ A c, e = .returned (.tuple #[.slice A (flP y).length c, .int .i64 (ckNeed y)]) ∧ Row w' (fun i => w.heap.size ≤ i ∧ i < w'.heap.size) A (flP y).length (strs (flP y)) ∧ (flP y).length ≤ c ∧ c ≤ maxLen ∧ Below w.heap.size w w'

set_option maxRecDepth 100000 in
set_option maxHeartbeats 3200000 in
theorem nflags_any (y : Nd) (S : Nat → Prop) (x : List Value) (w : World) (hR : RNd w S x y) (hS : ∀ k, S k → k < w.heap.size) :
    Calls Tryz.prog 9 #[.agg x.toArray] w (FlagsPost w y) := by
  have hck := fun wx h1 h2 => nCheck_any y S x wx h1 h2
  have hfc := fun base BL BF wx h1 h2 h3 h4 => flagsC_any y S x base BL BF [] none 0 wx h1 h2 h3 h4
  have HN := Lib.hid (fun h => (ckNeed_zero (n := y) h).2.1)
  have HFN := Lib.hid (flagsN_le y)
  have HFP : Hid (flP y = if ckNeed y = 0 then Lib.compact (sortW (flagsN y)) else []) := Lib.hid rfl
  unfold FlagsPost
  generalize flP y = R at HFP ⊢
  generalize hq : ckNeed y = q at HFP hck ⊢
  have HQ := Lib.hid hq; clear hq
  generalize flagsN y = fs at HFP hfc HFN
  obtain ⟨k, a, f, no, ks⟩ := y
  obtain ⟨A, n, c, rfl, -⟩ := hR.open_
  have hb := (Below.refl _ w).alloc (Nat.le_refl _) (.cells (ndRow k a f no A n c).toArray 26)
  have HB := Lib.hid hb
  have HW := Lib.hid (Whole.new w _ 26 (ndRow k a f no A n c) rfl)
  have HR := Lib.hid (hR.under HB.out hS)
  have HS := Lib.hid hS
  clear hR hS hb
  obtain ⟨nm, op, ver, slot, fl, on⟩ := a
  unfold ndRow at HB HW HR hck hfc ⊢
  have Hck := Lib.hid hck; have Hfc := Lib.hid hfc; clear hck hfc
  by_cases h0 : q = 0
  · subst h0
    have HRE : Hid (R = Lib.compact (sortW fs)) := Lib.hid (by rw [HFP.out, if_pos rfl])
    have hfl : fs.length ≤ 20 := by have h1 := HN.out HQ.out; have h2 := HFN.out; omega
    have henter := callFuncF
    go_enter Tryz.func9, Tryz.ntmps9
    go_wp2_with (first | (go_at_call 11; refine (Hck.out _ HR.out (fun k hk => Nat.lt_of_lt_of_le (HS.out k hk) HB.out.size)).mono ?_; rintro e w1 ⟨rfl, hb1⟩; refine Hid.out ?_))
    refine Lib.hid ?_
    have HB1 := Lib.hid (HB.out.trans (hb1.mono HB.out.size))
    have HR1 := Lib.hid (HR.out.under hb1 fun k hk => Nat.lt_of_lt_of_le (HS.out k hk) HB.out.size)
    have HW1 := Lib.hid (HW.out.below hb1 HW.out.lt); clear hb1
    have g0 := HW1.out.cell 0; have g1 := HW1.out.cell 1; have g2 := HW1.out.cell 2; have g3 := HW1.out.cell 3; have g4 := HW1.out.cell 4
    have g5 := HW1.out.cell 5; have g6 := HW1.out.cell 6; have g7 := HW1.out.cell 7; have g8 := HW1.out.cell 8; have g9 := HW1.out.cell 9
    simp only [List.getElem?_cons_zero, List.getElem?_cons_succ] at g0 g1 g2 g3 g4 g5 g6 g7 g8 g9
    have hlt := HW1.out.lt
    go_wp2_with fail
    have hfl0 : Fl (w1.heap.size + 2) w1.heap.size (w1.heap.size + 1) [] none 0 ((w1.alloc (.cells #[.slice none 0 0] 35)).alloc (.cells #[.func (.func 22) #[] #[.pointer (some ⟨w1.heap.size, 0, none⟩), .pointer (some ⟨w1.heap.size + 1, 0, none⟩)]] 50)) :=
      ⟨(Whole.new w1 _ _ [.slice none 0 0] rfl).alloc _, Whole.new (w1.alloc (.cells #[.slice none 0 0] 35)) (w1.heap.size + 1) _ [_] (by simp), World.ownsRow_nil _ _ _ _, by omega, by omega, by omega⟩
    have hbl : Below w1.heap.size w1 ((w1.alloc (.cells #[.slice none 0 0] 35)).alloc (.cells #[.func (.func 22) #[] #[.pointer (some ⟨w1.heap.size, 0, none⟩), .pointer (some ⟨w1.heap.size + 1, 0, none⟩)]] 50)) := ((Below.refl _ _).alloc (Nat.le_refl _) _).alloc (by simp) _
    have hR2 := HR1.out.under hbl fun q hq => Nat.lt_of_lt_of_le (HS.out q hq) HB1.out.size
    have HB2 := Lib.hid (HB1.out.trans (hbl.mono HB1.out.size))
    refine (Hfc.out (w1.heap.size + 2) _ _ _ hR2 (fun q hq => Nat.lt_of_lt_of_le (HS.out q hq) HB1.out.size) hfl0 (by simp) (by simp; omega)).mono ?_
    rintro e w4 ⟨A', c', rfl, hfl4, hf4, ha4⟩
    clear hfl0 hbl hR2
    simp only [List.nil_append] at hfl4
    have hbase := HB1.out.size
    have hB4 : Below w.heap.size w w4 := ⟨hf4.base.os.trans HB2.out.os, hf4.base.tape.trans HB2.out.tape, hf4.base.output.trans HB2.out.output, Nat.le_trans HB2.out.size hf4.size, fun i hi => (hf4.block i (Nat.lt_of_lt_of_le hi HB2.out.size) (by
      rintro (e | e)
      · omega
      · simp [Value.ownBlock] at e)).trans (HB2.out.block i hi)⟩
    have HB4 := Lib.hid hB4
    have HF4 := Lib.hid hfl4
    clear hf4 ha4 hB4 hfl4 g0 g1 g2 g3 g4 g5 g6 g7 g8 g9
    have l0 := HF4.out.l.cell 0
    have l1 := HF4.out.l.lt
    simp only [List.getElem?_cons_zero] at l0
    clear henter
    rcases HF4.out.own.2 with ⟨hv, hn0⟩ | ⟨g, cap, cur, hv, hg1, hg2, hg3⟩
    · injection hv with e1 e2 e3
      subst e1 e3
      obtain rfl : fs = [] := List.eq_nil_of_length_eq_zero e2
      obtain rfl : R = [] := by rw [HRE.out]; unfold sortW; simp [Lib.compact, Lib.compactUpTo]
      simp only [List.length_nil] at l0
      clear hn0 e2
      have hs1 := Tryz.slices_Sort_string_none none 0 w4
      have hs2 := Tryz.slices_Compact_string_empty none 0 w4
      go_wp2_with (first
        | (go_at_call 23; refine hs1.mono ?_; rintro e w5 ⟨rfl, rfl⟩)
        | (go_at_call 24; refine hs2.mono ?_; rintro e w6 ⟨rfl, rfl⟩))
      go_ret2
      exact ⟨none, 0, rfl, Row.nil_, Nat.le_refl _, Nat.zero_le _, HB4.out⟩
    · injection hv with e1 e2 e3
      subst e1 e3
      clear hg2 hg3
      have hso := sortS_any (w1.heap.size + 2) g fs.length c' fs w4 HF4.out.own (by omega)
      have Hso := Lib.hid hso; clear hso
      have hne : w1.heap.size ≠ g := by omega
      go_wp2_with (first | (go_at_call 23; refine Hso.out.mono ?_; rintro e w5 ⟨rfl, hown5, hf5⟩; refine Hid.out ?_))
      refine Lib.hid ?_
      have HB5 := Lib.hid (far_ownB HB4.out hf5 (by omega))
      have hl5 := hf5.whole HF4.out.l (fun e => hne e)
      have HO5 := Lib.hid hown5
      clear l0 l1
      have l0 := hl5.cell 0
      have l1 := hl5.lt
      simp only [List.getElem?_cons_zero] at l0
      clear hown5 hf5 hl5
      have hsl : (sortW fs).length = fs.length := by unfold sortW; rw [List.length_mergeSort]
      have hco := compS_any (w1.heap.size + 2) g fs.length c' (sortW fs) w5 HO5.out (by omega)
      have HCL := Lib.hid (compact_le (sortW fs))
      rw [hsl] at HCL
      unfold CompPost at hco
      rw [← HRE.out] at hco HCL
      have Hco := Lib.hid hco; clear hco hsl
      go_wp2_with (first | (go_at_call 24; refine Hco.out.mono ?_; rintro e w6 ⟨rfl, hown6, hf6⟩; refine Hid.out ?_))
      refine Lib.hid ?_
      have HB6 := Lib.hid (far_ownB HB5.out hf6 (by omega))
      have HO6 := Lib.hid hown6
      clear hown6 hf6
      go_wp2
      go_ret2
      obtain ⟨_, _, he, h1, h2, _⟩ := own_form HO6.out
      injection he with _ _ he
      exact ⟨some ⟨g, 0, none⟩, c', rfl, (own_row HO6.out).more fun i hi => by omega, by omega, by omega, HB6.out⟩
  · have h1 : (q != 0) = true := by simpa using h0
    obtain rfl : R = [] := by rw [HFP.out, if_neg h0]
    clear h0
    go_enter Tryz.func9, Tryz.ntmps9
    go_wp2_with (first | (go_at_call 11; refine (Hck.out _ HR.out (fun k hk => Nat.lt_of_lt_of_le (HS.out k hk) HB.out.size)).mono ?_; rintro e w1 ⟨rfl, hb1⟩; refine Hid.out ?_))
    refine Lib.hid ?_
    have HB1 := Lib.hid (HB.out.trans (hb1.mono HB.out.size)); clear hb1
    go_wp2
    go_ret2
    exact ⟨none, 0, rfl, Row.nil_, Nat.le_refl _, Nat.zero_le _, HB1.out⟩
end Go.Proofs.YtnkmonmkhmcgaaaGreatDoor
