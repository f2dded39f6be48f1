/- quartermasterlaw.needed, walked: it returns true. -/
import Derived.Test.YtnkmonmkhmcgaaaGreatDoorNW11
namespace Go.Proofs.YtnkmonmkhmcgaaaGreatDoor
open Go.RowKit Qm

def bas (ws : List Qm.W) : List ByteArray := ws.map fun l => ⟨l.toArray⟩
theorem bas_inj {a b : List Qm.W} : bas a = bas b ↔ a = b := by
  constructor
  · intro h
    have := congrArg (List.map (·.data.toList)) h
    simp only [bas] at this
    rwa [data_map, data_map] at this
  · rintro rfl; rfl
theorem strs_cell {w : World} {S : Nat → Prop} {b o : Nat} {ws : List Qm.W} (h : Row w S (some ⟨b, o, none⟩) ws.length (strs ws)) : ∀ j, j < (bas ws).length → w.cell? ⟨b, o + j, none⟩ = some (.string ((bas ws).getD j ByteArray.empty)) := by
  intro j hj
  have hj' : j < ws.length := by simpa [bas] using hj
  obtain ⟨b', o', e, _, hc⟩ := h.at_ hj'
  injection e with e; injection e with e1 e2
  subst e1 e2
  rw [hc]
  simp only [strs, bas, List.getElem?_map, List.getD_eq_getElem?_getD, List.getElem?_eq_getElem hj', Option.map_some, Option.getD_some]
def EqS (a b : List Qm.W) (w : World) (e : Ending) (w' : World) : Prop := e = .returned (.bool (decide (a = b))) ∧ ∃ q, w' = w.drewN q
theorem equalS_any (A B : Option Addr) (n c m d : Nat) (xs ys : List Qm.W) (w : World) (S T : Nat → Prop) (hx : Row w S A n (strs xs)) (hy : Row w T B m (strs ys)) (hn : n ≤ maxLen) (hm : m ≤ maxLen) :
    Calls Tryz.prog 14 #[.slice A n c, .slice B m d] w (EqS xs ys w) := by
  have hxl : xs.length = n := by have := hx.len; simpa [strs] using this
  have hyl : ys.length = m := by have := hy.len; simpa [strs] using this
  unfold maxLen at hn hm
  by_cases hnm : n = m
  · subst hnm
    by_cases h0 : n = 0
    · subst h0
      obtain rfl := List.eq_nil_of_length_eq_zero hxl
      obtain rfl := List.eq_nil_of_length_eq_zero hyl
      exact (Tryz.slices_Equal_string_empty A B c 0 d w (by omega)).mono fun e w' ⟨he, hw⟩ => ⟨by simpa using he, 0, hw⟩
    · obtain ⟨b, o, rfl, _⟩ := hx.some_lit (by omega)
      obtain ⟨b', o', rfl, _⟩ := hy.some_lit (by omega)
      have h := Tryz.slices_Equal_string b o n c b' o' n d (bas xs) (bas ys) w (by simp [bas, hxl]) (by simp [bas, hyl]) (by omega) (by omega) (strs_cell (by rw [hxl]; exact hx)) (strs_cell (by rw [hyl]; exact hy))
      refine h.mono fun e w' ⟨he, hw⟩ => ⟨?_, hw⟩
      rw [he, List.take_of_length_le (by simp [bas, hxl]), List.take_of_length_le (by simp [bas, hyl])]
      congr 2
      exact decide_eq_decide.2 bas_inj
  · refine (Tryz.slices_Equal_string_lens A B n c m d w hnm).mono fun e w' ⟨he, hw⟩ => ⟨?_, 0, hw⟩
    rw [he, decide_eq_false (fun h => hnm (by rw [← hxl, ← hyl, h]))]

theorem NParsePost.lit {w w' : World} {l : Qm.W} {e : Ending} (h : NParsePost w l e w') {k : Int} {a : At} {f : Qm.W} {no : Bool} {ks : List Nd} {q : Int} (hp : parseNd l = (.mk k a f no ks, q)) :
    ∃ A n c, e = .returned (.tuple #[.agg (ndRow k a f no A n c).toArray, .int .i64 q]) ∧ RNd w' (fun i => w.heap.size ≤ i ∧ i < w'.heap.size) (ndRow k a f no A n c) (.mk k a f no ks) ∧ n = ks.length ∧ Below w.heap.size w w' := by
  obtain ⟨k', a', f', no', A', n', c', rfl, hr, hb⟩ := h
  rw [hp] at hr ⊢
  obtain ⟨A, n, c, he, _, _, _, _, _, hk⟩ := hr.open_
  rw [he] at hr ⊢
  exact ⟨A, n, c, rfl, hr, hk.len.symm, hb⟩

def needB : Qm.W := [40, 32, 98, 32, 124, 124, 32, 40, 32, 99, 32, 100, 32, 41, 32, 33, 120, 63, 32, 40, 32, 33, 101, 32, 41, 32, 41]
def leafN (k : Int) (c : UInt8) : Nd := .mk k ⟨[c], 0, 0, 0, [], false⟩ [] false []
def needN : Nd := .mk 3 At.zero [] false [leafN 1 98, .mk 4 At.zero [] false [leafN 1 99, leafN 1 100], .mk 5 At.zero [120] true [leafN 2 101]]
theorem need_ck : ckNeed needN = 0 := by decide +kernel
theorem need_text : ndText needN = needB := by decide +kernel
theorem need_parse : parseNd needB = (needN, 0) := by
  have := parseNd_text need_ck
  rwa [need_text] at this
theorem need_print : printNd needN = needB := by unfold printNd; rw [if_pos need_ck, need_text]
theorem need_flags : flP needN = [[120]] := by
  unfold flP
  rw [if_pos need_ck]
  have : flagsN needN = [[120]] := by decide +kernel
  rw [this]
  simp [sortW, Lib.compact, Lib.compactUpTo, Lib.keeps]
set_option maxRecDepth 100000 in
set_option maxHeartbeats 3200000 in
theorem needed_any (w : World) (hL : LaidV w) (hM : MaxW w) :
    Calls Tryz.prog 6 #[] w fun e w' => e = .returned (.bool true) ∧ Below w.heap.size w w' := by
  have hpa := nparse_any ⟨needB.toArray⟩ w (by decide) hL hM
  rw [show (⟨needB.toArray⟩ : ByteArray).data.toList = needB from rfl] at hpa
  have hpa2 := hpa.mono (R' := fun e w' => ∃ b o c, e = .returned (.tuple #[.agg (ndRow 3 At.zero [] false (some ⟨b, o, none⟩) 3 c).toArray, .int .i64 0]) ∧ RNd w' (fun i => w.heap.size ≤ i ∧ i < w'.heap.size) (ndRow 3 At.zero [] false (some ⟨b, o, none⟩) 3 c) needN ∧
      b < w'.heap.size ∧ w'.cell? ⟨b, o + 28, none⟩ = some (.bool true) ∧ Below w.heap.size w w') (fun e w' h => by
    obtain ⟨A, n, c, h1, h2, h3, h4⟩ := h.lit need_parse
    obtain rfl : n = 3 := h3
    obtain ⟨A', n', c', he, _, _, _, _, _, hk⟩ := h2.open_
    have hA : A = A' := by simp only [ndRow, List.cons.injEq, Value.slice.injEq] at he; exact he.2.2.2.2.2.2.2.2.2.1.1
    have hn : 3 = n' := by simp only [ndRow, List.cons.injEq, Value.slice.injEq] at he; exact he.2.2.2.2.2.2.2.2.2.1.2.1
    subst hA hn
    obtain ⟨b, o, x, y, rfl, hb, hy, hxy, hcell⟩ := hk.at_ (j := 2) (by decide)
    simp only [needN, List.getElem?_cons_succ, List.getElem?_cons_zero, Option.some.injEq] at hy
    subst hy
    obtain ⟨A2, n2, c2, rfl, -⟩ := hxy.open_
    have h8 := hcell 8 (by decide)
    exact ⟨b, o, c, h1, h2, hb.2, h8, h4⟩)
  have hpr := fun S x wx h1 h2 => nprint_any needN S x wx h1 h2
  have hfl := fun S x wx h1 h2 => nflags_any needN S x wx h1 h2
  unfold FlagsPost at hfl
  rw [need_print, need_ck] at hpr
  rw [need_flags, need_ck] at hfl
  have Hpr := Lib.hid hpr; have Hfl := Lib.hid hfl
  have Hpa := Lib.hid hpa2
  clear hpa hpa2 hpr hfl hL hM
  unfold ndRow At.zero needB at Hpa
  unfold needB at Hpr
  go_enter Tryz.func6, Tryz.ntmps6
  go_wp2_with (first | (go_at_call 8; refine Hpa.out.mono ?_; rintro e w1 ⟨b, o, c, rfl, hrn, hbl, h28, hb1⟩; refine Hid.out ?_))
  refine Lib.hid ?_
  have hal : Below w1.heap.size w1 (w1.alloc (.cells (ndRow 3 At.zero [] false (some ⟨b, o, none⟩) 3 c).toArray 26)) := (Below.refl _ _).alloc (Nat.le_refl _) _
  have HB2 := Lib.hid (hb1.trans (hal.mono hb1.size))
  have HN2 := Lib.hid (Whole.new w1 _ 26 (ndRow 3 At.zero [] false (some ⟨b, o, none⟩) 3 c) rfl)
  have HR2 := Lib.hid (hrn.under hal fun q hq => hq.2)
  have h28' := (hal.cell (p := ⟨b, o + 28, none⟩) hbl).trans h28
  have H28 := Lib.hid h28'
  have hbl2 := Nat.lt_of_lt_of_le hbl hal.size
  have HS2 : Hid (∀ q, (w.heap.size ≤ q ∧ q < w1.heap.size) → q < (w1.alloc (.cells (ndRow 3 At.zero [] false (some ⟨b, o, none⟩) 3 c).toArray 26)).heap.size) := Lib.hid fun q hq => Nat.lt_of_lt_of_le hq.2 hal.size
  clear hrn hbl h28 h28' hb1 hal
  unfold ndRow At.zero at HB2 HN2 HR2 H28 HS2 hbl2
  go_wp2_with (first | (go_at_call 5; refine (Hpr.out _ _ _ HR2.out HS2.out).mono ?_; rintro e w3 ⟨rfl, hb3⟩; refine Hid.out ?_))
  refine Lib.hid ?_
  have HB3 := Lib.hid (HB2.out.trans (hb3.mono HB2.out.size))
  have HN3 := Lib.hid (HN2.out.below hb3 HN2.out.lt)
  have HR3 := Lib.hid (HR2.out.under hb3 HS2.out)
  have H283 := Lib.hid ((hb3.cell (p := ⟨b, o + 28, none⟩) hbl2).trans H28.out)
  have hbl3 := Nat.lt_of_lt_of_le hbl2 hb3.size
  have HS3 := Lib.hid (fun q hq => Nat.lt_of_lt_of_le (HS2.out q hq) hb3.size)
  clear hb3 HB2 HR2 H28 HS2 hbl2 HN2
  have n0 := HN3.out.cell 0; have n1 := HN3.out.cell 1; have n2 := HN3.out.cell 2; have n3 := HN3.out.cell 3; have n4 := HN3.out.cell 4; have n5 := HN3.out.cell 5; have n6 := HN3.out.cell 6; have n7 := HN3.out.cell 7; have n8 := HN3.out.cell 8; have n9 := HN3.out.cell 9
  simp only [List.getElem?_cons_zero, List.getElem?_cons_succ] at n0 n1 n2 n3 n4 n5 n6 n7 n8 n9
  go_wp2_with (first | (go_at_call 9; refine (Hfl.out _ _ _ HR3.out HS3.out).mono ?_; rintro e w4 ⟨Af, cf, rfl, hrf, hf1, hf2, hb4⟩; refine Hid.out ?_))
  refine Lib.hid ?_
  have HB4 := Lib.hid (HB3.out.trans (hb4.mono HB3.out.size))
  have HN4 := Lib.hid (HN3.out.below hb4 HN3.out.lt)
  have r8 := (hb4.cell (p := ⟨b, o + 28, none⟩) hbl3).trans H283.out
  clear n0 n1 n2 n3 n4 n5 n6 n7 n8 n9
  have n9 := HN4.out.cell 9
  simp only [List.getElem?_cons_zero, List.getElem?_cons_succ] at n9
  clear hb4 HB3 HN3 HR3 H283 hbl3 HS3
  have hnew := Whole.new w4 w4.heap.size 9 (strs [[120]]) rfl
  have heq := equalS_any Af (some ⟨w4.heap.size, 0, none⟩) 1 cf 1 1 [[120]] [[120]] (w4.alloc (.cells #[.string ⟨#[120]⟩] 9)) _ _ (hrf.below ((Below.refl _ w4).alloc (Nat.le_refl _) _) fun q hq => hq.2) (Whole.row (S := fun q => q = w4.heap.size) hnew rfl rfl) (by decide) (by decide)
  unfold EqS at heq
  rw [decide_eq_true rfl] at heq
  have Heq := Lib.hid heq
  clear heq hnew hrf
  go_wp2_with (first | (go_at_call 14; refine Heq.out.mono ?_; rintro e w5 ⟨rfl, q5, rfl⟩; refine Hid.out ?_))
  refine Lib.hid ?_
  go_wp2
  go_ret
  exact ⟨rfl, below_drewN (HB4.out.alloc HB4.out.size _) _⟩
end Go.Proofs.YtnkmonmkhmcgaaaGreatDoor
