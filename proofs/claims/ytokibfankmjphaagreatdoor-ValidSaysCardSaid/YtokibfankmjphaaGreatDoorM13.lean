/- Parts of the proof: walks and plain laws, side by side. -/
import Derived.Test.YtokibfankmjphaaGreatDoorM9
import Derived.Test.YtokibfankmjphaaGreatDoorM12
import Derived.Test.YtokibfankmjphaaGreatDoorM8
import Derived.Test.YtokibfankmjphaaGreatDoorM2
import Derived.Test.YtokibfankmjphaaGreatDoorM4
set_option linter.unusedVariables false
set_option linter.unusedSimpArgs false
set_option linter.unusedSectionVars false
/- What tree.Parse gathers: the box of the tree, from the next block on the packages. -/
namespace Go.Proofs.YtokibfankmjphaaGreatDoor
open Go.RowKit Qm

theorem RPk.far {D : Nat → Prop} {w w' : World} {S : Nat → Prop} {x : List Value} {p : Pk} (h : RPk w S x p) (hf : Far D w w') (hS : ∀ k, S k → k < w.heap.size ∧ ¬ D k) : RPk w' S x p :=
  h.keep fun _ hp => hf.cell (hS _ hp).1 (hS _ hp).2
structure Td (w : World) (A : Option Addr) (c : Nat) (cs : List (List Value)) (ps : List Pk) (wx : World) : Prop where
  below : Below w.heap.size w wx
  t : Whole wx w.heap.size 24 [.slice A ps.length c]
  len : cs.length = ps.length
  own : wx.ownsRow (w.heap.size + 1) 48 14 (.slice A ps.length c) ps.length cs.flatten
  pk : ∀ (j : Nat) (x : List Value) (y : Pk), cs[j]? = some x → ps[j]? = some y → RPk wx (fun i => w.heap.size + 1 ≤ i ∧ i < wx.heap.size ∧ (Value.slice A ps.length c).ownBlock ≠ some i) x y
section
variable {w wx wy : World} {A : Option Addr} {c : Nat} {cs : List (List Value)} {ps : List Pk}
theorem Td.size (h : Td w A c cs ps wx) : w.heap.size + 1 ≤ wx.heap.size := h.t.lt
theorem Td.new (w : World) : Td w none 0 [] [] (w.alloc (.cells #[.slice none 0 0] 24)) :=
  ⟨(Below.refl _ w).alloc (Nat.le_refl _) _, Whole.new w _ _ [.slice none 0 0] rfl, rfl, World.ownsRow_nil _ _ _ _, fun j x y h _ => by simp at h⟩
theorem Td.move (h : Td w A c cs ps wx) (hb : Below wx.heap.size wx wy) : Td w A c cs ps wy where
  below := h.below.trans (hb.mono h.below.size)
  t := h.t.below hb h.t.lt
  len := h.len
  own := (Far.of_below (fun _ => False) hb).own h.own fun _ _ h => h
  pk := fun j x y h1 h2 => ((h.pk j x y h1 h2).far (Far.of_below (fun _ => False) hb) fun i hi => ⟨hi.2.1, fun h => h⟩).more fun i hi => ⟨hi.1, Nat.lt_of_lt_of_le hi.2.1 hb.size, hi.2.2⟩
theorem Td.push (h : Td w A c cs ps wx) {x : List Value} {y : Pk} {A' : Option Addr} {c' : Nat}
    (hx : RPk wx (fun i => w.heap.size + 1 ≤ i ∧ i < wx.heap.size ∧ (Value.slice A ps.length c).ownBlock ≠ some i) x y)
    (hown : wy.ownsRow (w.heap.size + 1) 48 14 (.slice A' (ps.length + 1) c') (ps.length + 1) (cs.flatten ++ x)) (hg : wx.grownBy wy (Value.slice A ps.length c).ownBlock)
    (hv : (Value.slice A' (ps.length + 1) c').ownBlock = (Value.slice A ps.length c).ownBlock ∨ (Value.slice A' (ps.length + 1) c').ownBlock = some wx.heap.size) :
    Td w A' c' (cs ++ [x]) (ps ++ [y]) (wy.setCell ⟨w.heap.size, 0, none⟩ (.slice A' (ps.length + 1) c')) := by
  have hD : ∀ i, some i = (Value.slice A ps.length c).ownBlock → w.heap.size + 1 ≤ i := fun i hi => (h.own.lt i hi.symm).1
  have f1 : Far (fun i => w.heap.size + 1 ≤ i ∧ some i = (Value.slice A ps.length c).ownBlock) wx wy := Far.of_grown hg fun i hi => ⟨hD i hi, hi⟩
  have f2 : Far (fun i => i = w.heap.size) wy (wy.setCell ⟨w.heap.size, 0, none⟩ (.slice A' (ps.length + 1) c')) := Far.set_ (D := fun i => i = w.heap.size) rfl 0 _
  have hlen : (ps ++ [y]).length = ps.length + 1 := by simp
  have hsz := f1.size
  have hsz2 := h.size
  have kk : ∀ (j : Nat) (x : List Value) (y : Pk), cs[j]? = some x → ps[j]? = some y → RPk wy (fun i => w.heap.size + 1 ≤ i ∧ i < wx.heap.size ∧ (Value.slice A ps.length c).ownBlock ≠ some i) x y := fun j x y h1 h2 => (h.pk j x y h1 h2).far f1 fun i hi => ⟨hi.2.1, fun e => hi.2.2 e.2.symm⟩
  have kx := hx.far f1 fun i hi => ⟨hi.2.1, fun e => hi.2.2 e.2.symm⟩
  have fin : ∀ {x2 : List Value} {y2 : Pk}, RPk wy (fun i => w.heap.size + 1 ≤ i ∧ i < wx.heap.size ∧ (Value.slice A ps.length c).ownBlock ≠ some i) x2 y2 →
      RPk (wy.setCell ⟨w.heap.size, 0, none⟩ (.slice A' (ps.length + 1) c')) (fun i => w.heap.size + 1 ≤ i ∧ i < (wy.setCell ⟨w.heap.size, 0, none⟩ (.slice A' (ps.length + 1) c')).heap.size ∧ (Value.slice A' (ps ++ [y]).length c').ownBlock ≠ some i) x2 y2 := fun hh => by
    refine (hh.far f2 fun i hi => ⟨by omega, by omega⟩).more fun i hi => ⟨hi.1, by rw [set_len]; omega, ?_⟩
    rw [hlen]
    rcases hv with e | e
    · rw [e]; exact hi.2.2
    · rw [e]; intro e'; injection e' with e'; omega
  exact {
    below := ⟨f2.base.os.trans (f1.base.os.trans h.below.os), f2.base.tape.trans (f1.base.tape.trans h.below.tape), f2.base.output.trans (f1.base.output.trans h.below.output), Nat.le_trans h.below.size (Nat.le_trans f1.size f2.size),
      fun i hi => (f2.block i (by omega) (by omega)).trans ((f1.block i (by omega) (fun e => by omega)).trans (h.below.block i hi))⟩
    t := by rw [hlen]; exact (f1.whole h.t (fun e => by omega)).set_ 0 _
    len := by simp [h.len]
    own := by
      rw [hlen, flat_snoc]
      exact f2.own hown fun g hg => by have := (hown.lt g hg).1; omega
    pk := fun j x' y' h1 h2 => by
      have hl := h.len
      by_cases hj : j < cs.length
      · rw [List.getElem?_append_left hj] at h1
        rw [List.getElem?_append_left (by omega)] at h2
        have := kk j x' y' h1 h2
        exact fin this
      · have hj' : j = cs.length := by have := (List.getElem?_eq_some_iff.1 h1).1; simp at this; omega
        subst hj'
        rw [List.getElem?_append_right (Nat.le_refl _), Nat.sub_self] at h1
        rw [hl, List.getElem?_append_right (Nat.le_refl _), Nat.sub_self] at h2
        simp only [List.getElem?_cons_zero, Option.some.injEq] at h1 h2
        subst h1 h2
        exact fin kx }
theorem Td.cap (h : Td w A c cs ps wx) : ps.length ≤ c ∧ c ≤ maxLen := by
  obtain ⟨A', c', he, h1, h2, hr⟩ := own_formK h.own
  injection he with e1 _ e2
  subst e1 e2
  exact ⟨h1, h2⟩
theorem Td.tree (h : Td w A c cs ps wx) : RTree wx (fun i => w.heap.size + 1 ≤ i ∧ i < wx.heap.size) A ps.length ps := by
  obtain ⟨A', c', he, h1, h2, hr⟩ := own_formK h.own
  injection he with e1 _ e2
  subst e1 e2
  have hrd : ∀ (j : Nat) (x : List Value) (y : Pk), cs[j]? = some x → ps[j]? = some y → RPk wx (fun i => w.heap.size + 1 ≤ i ∧ i < wx.heap.size) x y := fun j x y h1 h2 => (h.pk j x y h1 h2).more fun i hi => by omega
  refine ⟨cs, rfl, h.len, hr.more fun i hi => by have := h.own.lt i hi; omega, fun x hx => ?_, hrd⟩
  obtain ⟨j, hj, rfl⟩ := List.mem_iff_getElem.1 hx
  exact (hrd j _ (ps[j]'(by rw [← h.len]; exact hj)) (List.getElem?_eq_getElem hj) (List.getElem?_eq_getElem _)).len
end
end Go.Proofs.YtokibfankmjphaaGreatDoor

namespace Qm
open Go

/-! The reader of trees, line by line. -/

def prepT (ps : List Pk) : Except (Nat × Int) (List Pk) → Except (Nat × Int) (List Pk)
  | .error e => .error e
  | .ok qs => .ok (ps ++ qs)
theorem prepT_nil (r : Except (Nat × Int) (List Pk)) : prepT [] r = r := by cases r <;> rfl
theorem prepT_snoc (ps : List Pk) (p : Pk) (r : Except (Nat × Int) (List Pk)) : prepT ps (match r with | .error e => .error e | .ok qs => .ok (p :: qs)) = prepT (ps ++ [p]) r := by
  cases r <;> simp [prepT]
theorem lines_nil {f i : Nat} : parseLines f i [] = .ok [] := by
  cases f with
  | zero => rfl
  | succ f => unfold parseLines; rw [if_pos rfl]
theorem lines_cut {f i : Nat} {s : W} (h : s ≠ []) (hc : cutAt (· == 10) s = none) : parseLines (f + 1) i s = .error (i, 1) := by
  unfold parseLines
  rw [if_neg h, hc]
theorem lines_bad {f i : Nat} {s l rest : W} {x : UInt8} {e : Int} (h : s ≠ []) (hc : cutAt (· == 10) s = some (l, x, rest)) (hp : parseLine l = .error e) : parseLines (f + 1) i s = .error (i, e) := by
  unfold parseLines
  rw [if_neg h, hc]
  simp only []
  rw [hp]
theorem lines_good {f i : Nat} {s l rest : W} {x : UInt8} {p : Pk} (h : s ≠ []) (hc : cutAt (· == 10) s = some (l, x, rest)) (hp : parseLine l = .ok p) (ps : List Pk) :
    prepT ps (parseLines (f + 1) i s) = prepT (ps ++ [p]) (parseLines f (i + 1) rest) := by
  rw [← prepT_snoc, parseLines, if_neg h, hc]
  simp only []
  rw [hp]
  cases parseLines f (i + 1) rest <;> rfl
/-- What the whole reader says, from what its lines say. -/
theorem parse_many {s : W} (h : 20000 < s.length) : parseTree s = ([], 0, 2) := by unfold parseTree; rw [if_pos h]
theorem parse_err {s : W} (h : ¬ 20000 < s.length) {i : Nat} {e : Int} (hl : parseLines (s.length + 1) 0 s = .error (i, e)) : parseTree s = ([], i, e) := by unfold parseTree; rw [if_neg h, hl]
theorem parse_ok {s : W} (h : ¬ 20000 < s.length) {ps : List Pk} (hl : parseLines (s.length + 1) 0 s = .ok ps) : parseTree s = if ckTree ps = 0 then (ps, 0, 0) else ([], 0, ckTree ps) := by unfold parseTree; rw [if_neg h, hl]
theorem line_cut {l : W} (h : cut4 l = none) : parseLine l = .error 1 := by unfold parseLine; rw [h]
theorem line_num {l a b c d e : W} (h : cut4 l = some (a, b, c, d, e)) (hn : number b = none ∨ number c = none) : parseLine l = .error 1 := by
  unfold parseLine
  rw [h]
  simp only []
  rcases hn with hn | hn
  · rw [hn]
  · rw [hn]; cases number b <;> rfl
theorem line_need {l a b c d e : W} (h : cut4 l = some (a, b, c, d, e)) {v k : Int} (hv : number b = some v) (hk : number c = some k) (hn : (parseNd e).2 ≠ 0) : parseLine l = .error (parseNd e).2 := by
  unfold parseLine
  rw [h]
  simp only []
  rw [hv, hk]
  simp only []
  by_cases h1 : (parseNd e).2 = 1
  · rw [if_pos h1, h1]
  · rw [if_neg h1, if_pos hn]
theorem line_good {l a b c d e : W} (h : cut4 l = some (a, b, c, d, e)) {v k : Int} (hv : number b = some v) (hk : number c = some k) (hn : (parseNd e).2 = 0) : parseLine l = .ok ⟨a, v, k, fsOf d, (parseNd e).1⟩ := by
  unfold parseLine
  rw [h]
  simp only []
  rw [hv, hk]
  simp only []
  rw [if_neg (by omega), if_neg (by omega)]
end Qm

/- tree.number, walked. -/
namespace Go.Proofs.YtokibfankmjphaaGreatDoor
open Go.RowKit Qm
set_option maxHeartbeats 3200000 in
theorem tnumber_any (s : ByteArray) (w : World) (hs : s.size ≤ 140737488355328) (hL : LaidV w) :
    Calls Tryz.prog 55 #[.string s] w fun e w' => ∃ n, e = .returned (.tuple #[.int .i64 n, .bool (number s.data.toList).isSome]) ∧ (∀ v, number s.data.toList = some v → n = v) ∧ Below w.heap.size w w' := by
  obtain ⟨⟨tp, p, h1⟩, ⟨tp2, p2, h2⟩, h3⟩ := hL
  rcases h : Lib.atoiAll s.data.toList with v | _ | _
  · skip
    have hat := Tryz.strconv_Atoi_ok s (by omega) v h w
    obtain ⟨hv0, hv1⟩ := Lib.atoiAll_bounds h
    go_enter Tryz.func55, Tryz.ntmps55
    go_wp2_with (first | (go_at_call 72; refine hat.mono ?_; rintro e w1 ⟨rfl, hw1⟩; refine Hid.out ?_))
    have hb1 : Hid (Below w.heap.size w w1) := Lib.hid (by
      rcases hw1 with rfl | ⟨t, rfl⟩
      · exact Below.refl _ _
      · exact Lib.bytesWorld_below _ _ _)
    clear hw1
    have hit := Tryz.strconv_Itoa v (by omega) (by omega) w1 (var_below h3 hb1.out)
    have Hit := Lib.hid hit
    clear hit
    have hcmp := bs_eq (Lib.itoa v) s
    have HV := Lib.hid (show number s.data.toList = if Lib.itoa v = s.data.toList then some v else none by unfold number; rw [h])
    clear h
    generalize Lib.itoa v = T at hcmp HV Hit
    by_cases e1 : T = s.data.toList
    · rw [decide_eq_true e1] at hcmp
      have E1 := Lib.hid e1; clear e1
      refine Lib.hid ?_
      go_wp2_with (first | (go_at_call 27; refine Hit.out.mono ?_; rintro e w2 ⟨rfl, k, os, hw2⟩))
      go_ret2
      refine ⟨v, ?_, ?_, hb1.out.trans (by subst hw2; exact (Lib.below_grow _ _ (Nat.le_refl _) _ _).mono hb1.out.size)⟩
      · rw [HV.out, if_pos E1.out]; rfl
      · rw [HV.out, if_pos E1.out]; intro u hu; injection hu
    · rw [decide_eq_false e1] at hcmp
      have E1 := Lib.hid e1; clear e1
      refine Lib.hid ?_
      go_wp2_with (first | (go_at_call 27; refine Hit.out.mono ?_; rintro e w2 ⟨rfl, k, os, hw2⟩))
      go_ret2
      refine ⟨v, ?_, ?_, hb1.out.trans (by subst hw2; exact (Lib.below_grow _ _ (Nat.le_refl _) _ _).mono hb1.out.size)⟩
      · rw [HV.out, if_neg E1.out]; rfl
      · rw [HV.out, if_neg E1.out]; intro u hu; cases hu
  · have hat := Any.strconv_Atoi_syntax_var Tryz.laysC172 s (by omega) h tp p w h1
    go_enter Tryz.func55, Tryz.ntmps55
    go_wp2_with (first | (go_at_call 72; refine hat.mono ?_; rintro e w1 ⟨N, rfl, -, -, hb⟩))
    go_ret2
    have hn : number s.data.toList = none := by unfold number; rw [h]
    exact ⟨_, by rw [hn]; rfl, (by rw [hn]; intro v hv; cases hv), hb⟩
  · have hat := Tryz.strconv_Atoi_range_var s (by omega) h tp2 p2 w h2
    go_enter Tryz.func55, Tryz.ntmps55
    go_wp2_with (first | (go_at_call 72; refine hat.mono ?_; rintro e w1 ⟨N, rfl, -, -, hb⟩))
    go_ret2
    have hn : number s.data.toList = none := by unfold number; rw [h]
    exact ⟨_, by rw [hn]; rfl, (by rw [hn]; intro v hv; cases hv), hb⟩
end Go.Proofs.YtokibfankmjphaaGreatDoor
