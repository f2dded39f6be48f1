/- Parts of the proof: walks and plain laws, side by side. -/
import Derived.Test.YtedbhlgjcnnknaaGreatDoorM29
import Derived.Test.YtedbhlgjcnnknaaGreatDoorM18
import Derived.BigRegion
import Derived.Test.YtedbhlgjcnnknaaGreatDoorRows
import Derived.Test.YtedbhlgjcnnknaaGreatDoorM11
import Derived.ProofKit
import Derived.LaidMore
import Derived.OpenShut
import Derived.Stop.Joined
import Derived.Stop.LaidErr
import Derived.Lib.LaidTab
import Derived.Test.YtedbhlgjcnnknaaGreatDoorM1
import Derived.ChangeOld
import Derived.Lib.SmallJoins
import Derived.Deep.Matrix
import Derived.Deep.Grids
set_option linter.unusedVariables false
set_option linter.unusedSimpArgs false
set_option linter.unusedSectionVars false
namespace Go.Proofs.YtedbhlgjcnnknaaGreatDoor
/- slices.Reverse of atoms, of a slice that is owned. -/
section
open Go.RowKit Qm

theorem flat_set {K : Nat} (a : Value) (sp : List Value) : ∀ {cs : List (List Value)}, (∀ x ∈ cs, x.length = K) → ∀ {j t : Nat} {x : List Value}, cs[j]? = some x → t < K → (cs.flatten ++ sp).set (j * K + t) a = (cs.set j (x.set t a)).flatten ++ sp
 | [], _, j, t, x, hj, _ => by cases hj
 | y :: r, h, 0, t, x, hj, ht => by
  have hy := h y (List.mem_cons_self ..)
  simp only [List.getElem?_cons_zero, Option.some.injEq] at hj
  subst hj
  rw [Nat.zero_mul, Nat.zero_add, List.flatten_cons, List.append_assoc, List.set_append_left _ _ (by omega), List.set_cons_zero, List.flatten_cons, List.append_assoc]
 | y :: r, h, j + 1, t, x, hj, ht => by
  have hy := h y (List.mem_cons_self ..)
  rw [List.getElem?_cons_succ] at hj
  have ih := flat_set a sp (fun x hx => h x (List.mem_cons_of_mem _ hx)) hj ht
  have e : (j + 1) * K + t - y.length = j * K + t := by rw [hy, Nat.succ_mul]; omega
  rw [List.flatten_cons, List.append_assoc, List.set_append_right _ _ (by rw [hy, Nat.succ_mul]; omega), e, ih, List.set_cons_succ, List.flatten_cons, List.append_assoc]
theorem Whole.row6 {w : World} {g : Nat} {t : TypeId} {cs : List (List Value)} {sp : List Value} (h : Whole w g t (cs.flatten ++ sp)) (h6 : ∀ x ∈ cs, x.length = 6) {j : Nat} (hj : j < cs.length) (a0 a1 a2 a3 a4 a5 : Value) :
  Whole ((((((w.setCell ⟨g, j * 6, none⟩ a0).setCell ⟨g, j * 6 + 1, none⟩ a1).setCell ⟨g, j * 6 + 2, none⟩ a2).setCell ⟨g, j * 6 + 3, none⟩ a3).setCell ⟨g, j * 6 + 4, none⟩ a4).setCell ⟨g, j * 6 + 5, none⟩ a5) g t ((cs.set j [a0, a1, a2, a3, a4, a5]).flatten ++ sp) := by
 obtain ⟨x, hx⟩ : ∃ x, cs[j]? = some x := ⟨_, List.getElem?_eq_getElem hj⟩
 have hl := h6 x (List.mem_of_getElem? hx)
 have step : ∀ {y : List Value} {cs' : List (List Value)}, cs' = cs.set j y → y.length = 6 → (∀ x ∈ cs', x.length = 6) ∧ cs'[j]? = some y := fun {y cs'} e hy => by
  subst e
  refine ⟨fun z hz => ?_, by rw [List.getElem?_set_self hj]⟩
  rcases List.mem_or_eq_of_mem_set hz with hz | rfl
  ·exact h6 z hz
  ·exact hy
 have w0 := h.set_ (j * 6) a0
 have e0 := flat_set (K := 6) (j := j) (t := 0) a0 sp h6 hx (by omega)
 rw [Nat.add_zero] at e0
 rw [e0] at w0
 obtain ⟨s1, s2⟩ := step (y := x.set 0 a0) rfl (by simpa using hl)
 have w1 := w0.set_ (j * 6 + 1) a1
 rw [flat_set a1 sp s1 s2 (by omega), List.set_set] at w1
 obtain ⟨s1, s2⟩ := step (y := (x.set 0 a0).set 1 a1) rfl (by simpa using hl)
 have w2 := w1.set_ (j * 6 + 2) a2
 rw [flat_set a2 sp s1 s2 (by omega), List.set_set] at w2
 obtain ⟨s1, s2⟩ := step (y := ((x.set 0 a0).set 1 a1).set 2 a2) rfl (by simpa using hl)
 have w3 := w2.set_ (j * 6 + 3) a3
 rw [flat_set a3 sp s1 s2 (by omega), List.set_set] at w3
 obtain ⟨s1, s2⟩ := step (y := (((x.set 0 a0).set 1 a1).set 2 a2).set 3 a3) rfl (by simpa using hl)
 have w4 := w3.set_ (j * 6 + 4) a4
 rw [flat_set a4 sp s1 s2 (by omega), List.set_set] at w4
 obtain ⟨s1, s2⟩ := step (y := ((((x.set 0 a0).set 1 a1).set 2 a2).set 3 a3).set 4 a4) rfl (by simpa using hl)
 have w5 := w4.set_ (j * 6 + 5) a5
 rw [flat_set a5 sp s1 s2 (by omega), List.set_set] at w5
 have e : (((((x.set 0 a0).set 1 a1).set 2 a2).set 3 a3).set 4 a4).set 5 a5 = [a0, a1, a2, a3, a4, a5] := by
  match x, hl with
  | [_, _, _, _, _, _], _ => rfl
 rw [e] at w5
 exact w5
structure Rev (cs ys : List (List Value)) (i j : Nat) : Prop where
 len : ys.length = cs.length
 sum : i + j + 1 = cs.length
 at_ : ∀ t, t < cs.length → ys[t]? = if t < i ∨ j < t then cs[cs.length - 1 - t]? else cs[t]?
theorem Rev.start {cs : List (List Value)} (h : 0 < cs.length) : Rev cs cs 0 (cs.length - 1) :=
 ⟨rfl, by omega, fun t ht => by rw [if_neg (by omega)]⟩
theorem Rev.step {cs ys : List (List Value)} {i j : Nat} (h : Rev cs ys i j) (hij : i < j) {x y : List Value} (hx : ys[i]? = some x) (hy : ys[j]? = some y) : Rev cs ((ys.set i y).set j x) (i + 1) (j - 1) := by
 have hs := h.sum
 have hl := h.len
 refine ⟨by rw [List.length_set, List.length_set]; exact hl, by omega, fun t ht => ?_⟩
 have hxi := h.at_ i (by omega)
 rw [if_neg (by omega), hx] at hxi
 have hyj := h.at_ j (by omega)
 rw [if_neg (by omega), hy] at hyj
 by_cases e1 : t = j
 ·subst e1
  rw [List.getElem?_set_self (by rw [List.length_set]; omega), if_pos (by omega), show cs.length - 1 - t = i by omega]
  exact hxi
 ·rw [List.getElem?_set_ne (by omega)]
  by_cases e2 : t = i
  ·subst e2
   rw [List.getElem?_set_self (by omega), if_pos (by omega), show cs.length - 1 - t = j by omega]
   exact hyj
  ·rw [List.getElem?_set_ne (by omega), h.at_ t ht]
   by_cases c : t < i ∨ j < t
   ·rw [if_pos c, if_pos (by omega)]
   ·rw [if_neg c, if_neg (by omega)]
theorem Rev.done {cs ys : List (List Value)} {i j : Nat} (h : Rev cs ys i j) (hij : ¬ i < j) : ys = cs.reverse := by
 refine List.ext_getElem? fun t => ?_
 by_cases ht : t < cs.length
 ·rw [h.at_ t ht, List.getElem?_reverse ht]
  by_cases c : t < i ∨ j < t
  ·rw [if_pos c]
  ·have hs := h.sum
   rw [if_neg c, show cs.length - 1 - t = t by omega]
 ·rw [List.getElem?_eq_none (by rw [h.len]; omega), List.getElem?_eq_none (by rw [List.length_reverse]; omega)]
theorem Far.row6 {D : Nat → Prop} {w : World} {g : Nat} (hg : D g) (o0 o1 o2 o3 o4 o5 : Nat) (a0 a1 a2 a3 a4 a5 : Value) : Far D w ((((((w.setCell ⟨g, o0, none⟩ a0).setCell ⟨g, o1, none⟩ a1).setCell ⟨g, o2, none⟩ a2).setCell ⟨g, o3, none⟩ a3).setCell ⟨g, o4, none⟩ a4).setCell ⟨g, o5, none⟩ a5) :=
 (((((Far.set_ hg o0 a0).trans (Far.set_ hg o1 a1) fun _ _ h => h).trans (Far.set_ hg o2 a2) fun _ _ h => h).trans (Far.set_ hg o3 a3) fun _ _ h => h).trans (Far.set_ hg o4 a4) fun _ _ h => h).trans (Far.set_ hg o5 a5) fun _ _ h => h
theorem six {x : List Value} (h : x.length = 6) : ∃ a0 a1 a2 a3 a4 a5, x = [a0, a1, a2, a3, a4, a5] := by
 match x, h with
 | [a0, a1, a2, a3, a4, a5], _ => exact ⟨a0, a1, a2, a3, a4, a5, rfl⟩
set_option maxRecDepth 100000 in
set_option maxHeartbeats 6400000 in
theorem reverseA_any (A : Option Addr) (n c : Nat) (cs : List (List Value)) (base : Nat) (w : World) (hown : w.ownsRow base 75 6 (.slice A n c) n cs.flatten) (h6 : ∀ x ∈ cs, x.length = 6) (hone : ∀ x ∈ cs, ∃ a : At, x = atRow a) (hcs : cs.length = n) (hn : n ≤ 100000) :
  Calls Tryz.prog 36 #[.slice A n c] w fun e w' => e = .returned (.tuple #[]) ∧ Row w' (fun i => (Value.slice A n c).ownBlock = some i) A (n * 6) cs.reverse.flatten ∧ Far (fun i => (Value.slice A n c).ownBlock = some i) w w' := by
 by_cases h0 : n = 0
 ·subst h0
  have hcs0 : cs = [] := List.length_eq_zero_iff.1 hcs
  subst hcs0
  clear hown h6 hone
  go_enter Tryz.func36, Tryz.ntmps36
  go_wp2
  go_loopg [2, 3] 0 (fun g s2 s3 wr => s2 = .int .i64 0 ∧ s3 = .int .i64 (-1) ∧ wr = w)
  case atStart => exact ⟨rfl, rfl, rfl⟩
  case round =>
   obtain ⟨rfl, rfl, rfl⟩ := hrel
   go_wp2
   go_end0
   exact ⟨rfl, Row.nil_, Far.refl _ _⟩
 ·obtain ⟨g, c2, sp, hv, hg, hnc, hc, hl, hW⟩ := own_wholeK hown (by omega)
  injection hv with e1 _ e2
  subst e1 e2
  have HW := qh hW; have H6 := qh h6; have HCS := qh hcs; have HONE := qh hone
  clear hown h6 hone hW hl
  go_enter Tryz.func36, Tryz.ntmps36
  go_upto_region 1 with fail
  go_loopg [2, 3] n (fun gk s2 s3 wr => ∃ (i j : Nat) (ys : List (List Value)), s2 = .int .i64 i ∧ s3 = .int .i64 j ∧ j ≤ gk ∧ Hid (Rev cs ys i j) ∧ Hid (∀ x ∈ ys, x ∈ cs) ∧ Hid (Whole wr g 75 (ys.flatten ++ sp)) ∧ Hid (Far (fun i => (Value.slice (some ⟨g, 0, none⟩) n c).ownBlock = some i) w wr))
  case atStart => exact ⟨0, n - 1, cs, rfl, by go_num, by omega, qh (by have := Rev.start (cs := cs) (by omega); rw [hcs] at this; exact this), qh (fun x h => h), HW, qh (Far.refl _ _)⟩
  case round =>
   obtain ⟨i, j, ys, rfl, rfl, hjg, HR, HM, HW2, HF⟩ := hrel
   by_cases hij : i < j
   ·have hsum := HR.out.sum
    have hlen := HR.out.len
    have hin : i < ys.length := by omega
    have hjn : j < ys.length := by omega
    obtain ⟨x, hx⟩ : ∃ x, ys[i]? = some x := ⟨_, List.getElem?_eq_getElem hin⟩
    obtain ⟨y, hy⟩ : ∃ y, ys[j]? = some y := ⟨_, List.getElem?_eq_getElem hjn⟩
    have hy6 : ∀ z ∈ ys, z.length = 6 := fun z hz => H6.out z (HM.out z hz)
    have hxm := HM.out x (List.mem_of_getElem? hx)
    have hym := HM.out y (List.mem_of_getElem? hy)
    have HN := qh (HR.out.step hij hx hy)
    have hfi := fun t (ht : t < 6) => flatG hy6 hx t ht
    have hfj := fun t (ht : t < 6) => flatG hy6 hy t ht
    have hfl : ys.flatten.length = ys.length * 6 := by
     rw [List.length_flatten, List.map_congr_left (g := fun _ => 6) hy6, List.map_const', List.sum_replicate_nat]
    have hci := fun t (ht : t < 6) => (HW2.out.cell (i * 6 + t)).trans ((List.getElem?_append_left (by omega)).trans (hfi t ht))
    have hcj := fun t (ht : t < 6) => (HW2.out.cell (j * 6 + t)).trans ((List.getElem?_append_left (by omega)).trans (hfj t ht))
    obtain ⟨a, rfl⟩ := HONE.out _ hxm
    obtain ⟨b, rfl⟩ := HONE.out _ hym
    have c0 := hci 0 (by decide); have c1 := hci 1 (by decide); have c2 := hci 2 (by decide); have c3 := hci 3 (by decide); have c4 := hci 4 (by decide); have c5 := hci 5 (by decide)
    have d0 := hcj 0 (by decide); have d1 := hcj 1 (by decide); have d2 := hcj 2 (by decide); have d3 := hcj 3 (by decide); have d4 := hcj 4 (by decide); have d5 := hcj 5 (by decide)
    unfold atRow at c0 c1 c2 c3 c4 c5 d0 d1 d2 d3 d4 d5
    simp only [Nat.add_zero, List.getElem?_cons_zero, List.getElem?_cons_succ] at c0 c1 c2 c3 c4 c5 d0 d1 d2 d3 d4 d5
    have f0 := HW2.out.free (i * 6); have f1 := HW2.out.free (i * 6 + 1); have f2 := HW2.out.free (i * 6 + 2); have f3 := HW2.out.free (i * 6 + 3); have f4 := HW2.out.free (i * 6 + 4); have f5 := HW2.out.free (i * 6 + 5)
    have k0 := HW2.out.free (j * 6); have k1 := HW2.out.free (j * 6 + 1); have k2 := HW2.out.free (j * 6 + 2); have k3 := HW2.out.free (j * 6 + 3); have k4 := HW2.out.free (j * 6 + 4); have k5 := HW2.out.free (j * 6 + 5)
    have hgl := HW2.out.lt
    have hi1 : (i : Int) < n := by omega
    have hj1 : (j : Int) < n := by omega
    have hi0 : (0 : Int) ≤ (i : Int) := by omega
    have hj0 : (0 : Int) ≤ (j : Int) := by omega
    have hijz : (i : Int) < j := by omega
    have HY6 := qh hy6; have HX := qh hx; have HY := qh hy; have HIN := qh hin; have HJN := qh hjn
    clear hsum hlen hx hy hy6 hxm hym hfi hfj hfl hci hcj hin hjn
    go_wp2
    go_region
    have hset : ∀ z ∈ ys.set i (atRow b), z.length = 6 := fun z hz => by
     rcases List.mem_or_eq_of_mem_set hz with hz | rfl
     ·exact HY6.out z hz
     ·rfl
    have HM2 : Hid (∀ z ∈ (ys.set i (atRow b)).set j (atRow a), z ∈ cs) := qh fun z hz => by
     rcases List.mem_or_eq_of_mem_set hz with hz | rfl
     ·rcases List.mem_or_eq_of_mem_set hz with hz | rfl
      ·exact HM.out z hz
      ·exact HM.out _ (List.mem_of_getElem? HY.out)
     ·exact HM.out _ (List.mem_of_getElem? HX.out)
    have HW9 := qh ((Whole.row6 (Whole.row6 HW2.out HY6.out HIN.out (.string ⟨b.nm.toArray⟩) (.int .i64 b.op) (.int .i64 b.ver) (.int .i64 b.slot) (.string ⟨b.fl.toArray⟩) (.bool b.on)) hset (by rw [List.length_set]; exact HJN.out) (.string ⟨a.nm.toArray⟩) (.int .i64 a.op) (.int .i64 a.ver) (.int .i64 a.slot) (.string ⟨a.fl.toArray⟩) (.bool a.on)).drewN 1)
    have HF9 := qh (Far.drewN (HF.out.trans ((Far.row6 (D := fun k => k = g) (w := wr) rfl (i * 6) (i * 6 + 1) (i * 6 + 2) (i * 6 + 3) (i * 6 + 4) (i * 6 + 5) (.string ⟨b.nm.toArray⟩) (.int .i64 b.op) (.int .i64 b.ver) (.int .i64 b.slot) (.string ⟨b.fl.toArray⟩) (.bool b.on)).trans (Far.row6 (D := fun k => k = g) rfl (j * 6) (j * 6 + 1) (j * 6 + 2) (j * 6 + 3) (j * 6 + 4) (j * 6 + 5) (.string ⟨a.nm.toArray⟩) (.int .i64 a.op) (.int .i64 a.ver) (.int .i64 a.slot) (.string ⟨a.fl.toArray⟩) (.bool a.on)) fun _ _ h => h) fun k _ hk => by rw [hk]; rfl) 1)
    have hd : ∀ (W : World), W.drewN 1 = W.drew := fun _ => rfl
    rw [hd] at HW9 HF9
    clear hset hd c0 c1 c2 c3 c4 c5 d0 d1 d2 d3 d4 d5 f0 f1 f2 f3 f4 f5 k0 k1 k2 k3 k4 k5 HW2 HF HY6 HX HY HM
    generalize World.drew _ = w9 at *
    go_wp2
    go_roundg (gk - 1)
    case measure => omega
    case rel => exact ⟨i + 1, j - 1, _, by go_num, by go_num, by omega, HN, HM2, HW9, HF9⟩
   ·have hrev := HR.out.done hij
    subst hrev
    have hlen : cs.reverse.flatten.length = n * 6 := by
     rw [List.length_flatten, List.map_congr_left (g := fun _ => 6) (fun z hz => H6.out z (List.mem_reverse.1 hz)), List.map_const', List.sum_replicate_nat, List.length_reverse, hcs]
    have HRW := qh (wholeS_row (S := fun k => (Value.slice (some ⟨g, 0, none⟩) n c).ownBlock = some k) HW2.out rfl hlen)
    have hijz : ¬ (i : Int) < j := by omega
    clear hlen HW2 HR HM
    go_wp2
    go_end0
    exact ⟨rfl, HRW.out, HF.out⟩
end
/- ResolveLess, walked: it returns true. -/
section
open Go.RowKit Qm

/-! ### in plain words -/
theorem less_t {ps : List Pk} {v : Ws} {k : Nat} (hc : ckWish ps v = 0) (h : resE ps v 40000 = 0) : resE ps { v with ts := v.ts.eraseIdx k } 40000 = 0 := by
 have hs : ∀ a ∈ v.ts.eraseIdx k, a ∈ v.ts := (List.eraseIdx_sublist ..).subset
 refine (res_may (wish_targets hc hs (List.eraseIdx_sublist ..).length_le)).2 ?_
 obtain ⟨l, h1, h2⟩ := (res_may hc).1 h
 exact ⟨l, h1, validP_mono hs (fun _ h => h) h2⟩
theorem less_m {ps : List Pk} {v : Ws} {k : Nat} (hc : ckWish ps v = 0) (h : resE ps v 40000 = 0) : resE ps { v with ms := v.ms.eraseIdx k } 40000 = 0 := by
 have hs : (v.ms.eraseIdx k).Sublist v.ms := List.eraseIdx_sublist ..
 refine (res_may (wish_mask hc hs)).2 ?_
 obtain ⟨l, h1, h2⟩ := (res_may hc).1 h
 exact ⟨l, h1, validP_mono (fun _ h => h) hs.subset h2⟩
theorem less_back {ps : List Pk} {v : Ws} (hc : ckWish ps v = 0) : resE ps { v with ts := v.ts.reverse } 40000 = resE ps v 40000 ∧ resM ps { v with ts := v.ts.reverse } 40000 = resM ps v 40000 := by
 have hs : ∀ a, a ∈ v.ts.reverse ↔ a ∈ v.ts := fun a => List.mem_reverse
 have hw : ckWish ps { v with ts := v.ts.reverse } = 0 := wish_targets hc (fun a ha => (hs a).1 ha) (by rw [List.length_reverse]; exact qr _)
 rcases res_max hc with ⟨h0, hb, _⟩ | ⟨h7, hn, hm, _⟩
 ·obtain ⟨g1, g2⟩ := res_set hw (Best.turn (v := v) (v' := { v with ts := v.ts.reverse }) rfl rfl hs (fun _ => Iff.rfl) hb)
  exact ⟨g1.trans h0.symm, g2⟩
 ·have hn2 : ¬ May ps { v with ts := v.ts.reverse } := fun ⟨l, g1, g2⟩ => hn ⟨l, g1, validP_mono (fun a ha => (hs a).2 ha) (fun _ h => h) g2⟩
  rcases res_max hw with ⟨_, g, _⟩ | ⟨g7, _, gm, _⟩
  ·exact absurd g.may hn2
  ·exact ⟨g7.trans h7.symm, gm.trans hm.symm⟩
theorem flat_take {K : Nat} : ∀ {cs : List (List Value)}, (∀ x ∈ cs, x.length = K) → ∀ k, cs.flatten.take (k * K) = (cs.take k).flatten
 | [], _, k => by simp
 | x :: r, _, 0 => by simp
 | x :: r, h, k + 1 => by
  have hx := h x (List.mem_cons_self ..)
  rw [List.flatten_cons, List.take_succ_cons, List.flatten_cons, List.take_append, List.take_of_length_le (by rw [hx, Nat.succ_mul]; omega), show (k + 1) * K - x.length = k * K by rw [hx, Nat.succ_mul]; omega, flat_take (fun y hy => h y (List.mem_cons_of_mem _ hy))]
theorem flat_drop {K : Nat} : ∀ {cs : List (List Value)}, (∀ x ∈ cs, x.length = K) → ∀ k, cs.flatten.drop (k * K) = (cs.drop k).flatten
 | [], _, k => by simp
 | x :: r, _, 0 => by simp
 | x :: r, h, k + 1 => by
  have hx := h x (List.mem_cons_self ..)
  rw [List.flatten_cons, List.drop_succ_cons, List.drop_append, List.drop_eq_nil_of_le (by rw [hx, Nat.succ_mul]; omega), List.nil_append, show (k + 1) * K - x.length = k * K by rw [hx, Nat.succ_mul]; omega, flat_drop (fun y hy => h y (List.mem_cons_of_mem _ hy))]
theorem flat_erase {K : Nat} {cs : List (List Value)} (h : ∀ x ∈ cs, x.length = K) (k : Nat) : cs.flatten.take (k * K) ++ cs.flatten.drop ((k + 1) * K) = (cs.eraseIdx k).flatten := by
 rw [flat_take h, flat_drop h, ← List.flatten_append, ← List.eraseIdx_eq_take_drop_succ]
/-! ### a row of atoms by its cells -/
structure Ats (cs : List (List Value)) (ts : List At) : Prop where
 len : cs.length = ts.length
 rel : ∀ (j : Nat) (x : List Value) (y : At), cs[j]? = some x → ts[j]? = some y → RAt x y
section
variable {cs : List (List Value)} {ts : List At}
theorem Ats.row (h : Ats cs ts) : ∀ x ∈ cs, ∃ a : At, x = atRow a := fun x hx => by
 obtain ⟨j, hj, rfl⟩ := List.mem_iff_getElem.1 hx
 obtain ⟨e, _⟩ := h.rel j _ _ (List.getElem?_eq_getElem hj) (List.getElem?_eq_getElem (h.len ▸ hj))
 exact ⟨_, e⟩
theorem Ats.six (h : Ats cs ts) : ∀ x ∈ cs, x.length = 6 := fun x hx => by obtain ⟨a, rfl⟩ := h.row x hx; rfl
theorem Ats.one (h : Ats cs ts) : ∀ u ∈ cs.flatten, u.oneCell' = true := fun u hu => by
 obtain ⟨x, hx, hux⟩ := List.mem_flatten.1 hu
 obtain ⟨a, rfl⟩ := h.row x hx
 unfold atRow at hux
 simp only [List.mem_cons, List.not_mem_nil, or_false] at hux
 rcases hux with rfl | rfl | rfl | rfl | rfl | rfl <;> rfl
theorem Ats.rev (h : Ats cs ts) : Ats cs.reverse ts.reverse := ⟨by rw [List.length_reverse, List.length_reverse]; exact h.len, fun j x y hx hy => by
 have hj : j < cs.length := by have := (List.getElem?_eq_some_iff.1 hx).1; rw [List.length_reverse] at this; exact this
 rw [List.getElem?_reverse hj] at hx
 rw [List.getElem?_reverse (h.len ▸ hj), ← h.len] at hy
 exact h.rel _ x y hx hy⟩
theorem Ats.erase (h : Ats cs ts) (k : Nat) (hk : k < cs.length) : Ats (cs.eraseIdx k) (ts.eraseIdx k) := ⟨by rw [List.length_eraseIdx_of_lt hk, List.length_eraseIdx_of_lt (h.len ▸ hk), h.len], fun j x y hx hy => by
 rw [List.getElem?_eraseIdx] at hx hy
 by_cases hj : j < k
 ·rw [if_pos hj] at hx hy; exact h.rel _ x y hx hy
 ·rw [if_neg hj] at hx hy; exact h.rel _ x y hx hy⟩
theorem Ats.seq (h : Ats cs ts) {w : World} {S : Nat → Prop} {A : Option Addr} {n : Nat} (hn : ts.length = n) (hr : Row w S A (n * 6) cs.flatten) : RSeq 6 RAt w S A n ts := ⟨cs, hn, h.len.trans hn, hr, h.six, h.rel⟩
end
theorem ats_of {w : World} {S : Nat → Prop} {A : Option Addr} {n : Nat} {ts : List At} (h : RSeq 6 RAt w S A n ts) : ∃ cs, Ats cs ts ∧ cs.length = n ∧ Row w S A (n * 6) cs.flatten := by
 obtain ⟨cs, h1, h2, h3, _, h5⟩ := h
 exact ⟨cs, ⟨h2.trans h1.symm, h5⟩, h2, h3⟩
theorem put_own {w0 w1 w2 w3 : World} {xb i B n N : Nat} {ws vs0 vs : List Value} {t E : TypeId} {K : Nat} {C A : Option Addr} {cc : Nat} (hx : Whole w1 xb t ws) (hb : Below w1.heap.size w1 w2) (ho : w2.ownsRow w1.heap.size E K (.slice C n cc) n vs0)
  (hf : Far (fun i => (Value.slice C n cc).ownBlock = some i) w2 w3) (hr : Row w3 (fun i => (Value.slice C n cc).ownBlock = some i) A N vs) (u : Value) (h0 : Below B w0 w1) (hB : B ≤ xb) :
  Whole w3 xb t ws ∧ Whole (w3.setCell ⟨xb, i, none⟩ u) xb t (ws.set i u) ∧ Row (w3.setCell ⟨xb, i, none⟩ u) (fun k => k < (w3.setCell ⟨xb, i, none⟩ u).heap.size) A N vs ∧ Below B w0 (w3.setCell ⟨xb, i, none⟩ u) := by
 have hxl := hx.lt
 have hw3 := hf.whole (hx.below hb hxl) (fun e => by have := (ho.lt _ e).1; omega)
 have hs := ((Below.refl 0 w3).setCell (p := ⟨xb, i, none⟩) (Nat.zero_le _) u).size
 have hne : ∀ k, (Value.slice C n cc).ownBlock = some k → k ≠ xb ∧ k < (w3.setCell ⟨xb, i, none⟩ u).heap.size := fun k e => by
  have h1 := ho.lt _ e
  have h2 := hf.size
  exact ⟨by omega, by omega⟩
 refine ⟨hw3, hw3.set_ i u, Row.more (Row.keep hr fun p hp => World.cell?_setCell_other _ _ _ _ (fun e => (hne _ hp).1 (by rw [← e]))) fun k hk => (hne k hk).2, ?_⟩
 exact (((h0.trans (hb.mono (by omega))).trans (hf.below (by have := hb.size; omega) fun k e => by have := (ho.lt _ e).1; omega))).setCell (p := ⟨xb, i, none⟩) hB u
set_option maxRecDepth 100000 in
set_option maxHeartbeats 6400000 in
theorem rless_any (ps : List Pk) (v : Ws) (S : Nat → Prop) (A : Option Addr) (n c : Nat) (A1 A2 A3 A4 : Option Addr) (n1 c1 n2 c2 n3 c3 n4 c4 : Nat) (w : World) (hT : RTree w S A n ps) (hnc : n ≤ c) (hc : c ≤ maxLen) (hV : WsAt w S A1 n1 c1 A2 n2 c2 A3 n3 c3 A4 n4 c4 v) (hS : ∀ k, S k → k < w.heap.size) (hLV : LaidV w) (hMW : MaxW w) :
  Calls Tryz.prog 8 #[.agg #[.slice A n c], .agg #[.slice A1 n1 c1, .slice A2 n2 c2, .slice A3 n3 c3, .slice A4 n4 c4]] w fun e w' => e = .returned (.bool true) ∧ Below w.heap.size w w' := by
 have X0 := qh (Wb.new w A n c [.slice A1 n1 c1, .slice A2 n2 c2, .slice A3 n3 c3, .slice A4 n4 c4])
 have HT := qh hT; have HV := qh hV; have HS := qh hS; have HLV := qh hLV; have HMW := qh hMW; clear hT hV hS hLV hMW
 have Hlt := qh (fun (wx : World) (hb : Below w.heap.size w wx) k hk => ql (HS.out k hk) hb.size)
 have HRS := qh (fun (v : Ws) (A1 A2 A3 A4 : Option Addr) (n1 c1 n2 c2 n3 c3 n4 c4 : Nat) wx (hb : Below w.heap.size w wx) (hw : WsAt wx (fun k => k < wx.heap.size) A1 n1 c1 A2 n2 c2 A3 n3 c3 A4 n4 c4 v) => resolve_any ps v 40000 (fun k => k < wx.heap.size) A n c A1 A2 A3 A4 n1 c1 n2 c2 n3 c3 n4 c4 wx ((HT.out.under hb HS.out).more fun k hk => Hlt.out _ hb k hk) hnc hc hw (fun k hk => hk) (by omega) (by omega))
 have HWS := qh (fun wx (hb : Below w.heap.size w wx) => (HV.out.under hb HS.out).more (S' := fun k => k < wx.heap.size) fun k hk => Hlt.out _ hb k hk)
 have Hrd := qh (fun wx (hb : Below w.heap.size w wx) => resolved_any wx (HLV.out.below hb) (HMW.out.below hb))
 have hr0 := HRS.out v A1 A2 A3 A4 n1 c1 n2 c2 n3 c3 n4 c4 _ X0.out.bel (HWS.out _ X0.out.bel)
 unfold ResolveP at hr0
 have HK : Hid (resE ps v 40000 = 0 ∨ resE ps v 40000 = 7 → ckWish ps v = 0) := qh fun h => by
  rcases resE_is ps v with ⟨g, _⟩ | ⟨h1, h2, h3, h4⟩
  ·exact g
  ·omega
 have HBK : Hid (ckWish ps v = 0 → resE ps { v with ts := v.ts.reverse } 40000 = resE ps v 40000 ∧ resM ps { v with ts := v.ts.reverse } 40000 = resM ps v 40000) := qh less_back
 have HLT : Hid (∀ k, ckWish ps v = 0 → resE ps v 40000 = 0 → resE ps { v with ts := v.ts.eraseIdx k } 40000 = 0) := qh fun k => less_t
 have HLM : Hid (∀ k, ckWish ps v = 0 → resE ps v 40000 = 0 → resE ps { v with ms := v.ms.eraseIdx k } 40000 = 0) := qh fun k => less_m
 obtain ⟨z, hz⟩ : ∃ z, resE ps v 40000 = z := ⟨_, rfl⟩
 obtain ⟨L, hL⟩ : ∃ L, resM ps v 40000 = L := ⟨_, rfl⟩
 rw [hz, hL] at hr0
 rw [hz] at HK HLT HLM
 rw [hz, hL] at HBK
 have HR0 := qh hr0
 have t0 := X0.out.t.cell 0; have u0 := X0.out.v.cell 0; have u1 := X0.out.v.cell 1; have u2 := X0.out.v.cell 2; have u3 := X0.out.v.cell 3
 simp only [qgz, qgs] at t0 u0 u1 u2 u3
 clear hr0 hz hL
 go_enter Tryz.func8, Tryz.ntmps8
 go_upto_region 2 with (first | (go_at_call 27; refine HR0.out.mono ?_; rintro e w2 ⟨Aa, na, ca, Ba, ka, da, rfl, hSa, ha1, ha2, -, -, -, hb2⟩; refine Hid.out ?_))
 refine qh ?_
 have X2 := qh (X0.out.move hb2)
 have SA2 := qh (hSa.more (S' := fun k => k < w2.heap.size) fun k hk => hk.2)
 have HO2 := qh (Hrd.out _ X2.out.bel)
 have HA := qh (Nat.le_trans ha1 ha2)
 clear hb2 X0 HR0 hSa t0 u0 u1 u2 u3
 by_cases hgood : z = 0 ∨ z = 7
 ·have HCK := qh (HK.out hgood)
  go_upto_region 2 with fail
  go_cut [38] (fun s38 wx => s38 = .bool false ∧ Hid (Wb w A n c [.slice A1 n1 c1, .slice A2 n2 c2, .slice A3 n3 c3, .slice A4 n4 c4] wx) ∧ Hid (RSet wx (fun k => k < wx.heap.size) Aa na L))
  case first =>
   rcases hgood with hz | hz
   ·subst hz
    go_wp2_with (first | (go_at_call 29; refine HO2.out.mono ?_; rintro e w3 ⟨rfl, hb3⟩; refine Hid.out ?_))
    refine qh ?_
    have X3 := qh (X2.out.move hb3)
    have SA3 := qh ((SA2.out.under hb3 fun k hk => hk).more (S' := fun k => k < w3.heap.size) fun k hk => ql hk hb3.size)
    clear hb3
    go_wp2
    go_meet
    case rel => exact ⟨rfl, X3, SA3⟩
   ·subst hz
    go_wp2_with (first | (go_at_call 29; refine HO2.out.mono ?_; rintro e w3 ⟨rfl, hb3⟩; refine Hid.out ?_))
    refine qh ?_
    have X3 := qh (X2.out.move hb3)
    have SA3 := qh ((SA2.out.under hb3 fun k hk => hk).more (S' := fun k => k < w3.heap.size) fun k hk => ql hk hb3.size)
    clear hb3
    go_wp2
    go_meet
    case rel => exact ⟨rfl, X3, SA3⟩
  case rest =>
   obtain ⟨rfl, X3, SA3⟩ := hcut
   clear X2 SA2 HO2 Hrd HK
   have hts := (wish_parts HCK.out).ts
   have hn1 : n1 ≤ 6 := by have := HV.out.ts.len; omega
   have HN1 := qh hn1
   have t0 := X3.out.t.cell 0; have u0 := X3.out.v.cell 0; have u1 := X3.out.v.cell 1; have u2 := X3.out.v.cell 2; have u3 := X3.out.v.cell 3
   simp only [qgz, qgs] at t0 u0 u1 u2 u3
   clear hts hn1
   go_upto_region 5 with fail
   have hal : Below wc.heap.size wc (wc.alloc (.cells #[.slice A1 n1 c1, .slice A2 n2 c2, .slice A3 n3 c3, .slice A4 n4 c4] 30)) := (Below.refl _ wc).alloc (qr _) _
   have XB4 := qh (Whole.new wc wc.heap.size 30 [.slice A1 n1 c1, .slice A2 n2 c2, .slice A3 n3 c3, .slice A4 n4 c4] rfl)
   have HAL := qh hal
   have X4 := qh (X3.out.move hal)
   generalize wc.alloc (.cells #[.slice A1 n1 c1, .slice A2 n2 c2, .slice A3 n3 c3, .slice A4 n4 c4] 30) = w4 at *
   obtain ⟨cs, hat, hcs, hrow⟩ := ats_of (HV.out.under X4.out.bel HS.out).ts
   have AT := qh hat
   have HCS := qh hcs
   have HCl := qh (cloneAtoms_any A1 n1 c1 cs.flatten w4 S hrow hat.one (Hlt.out _ X4.out.bel) (by have := HN1.out; omega))
   have u0' := X4.out.v.cell 0; have x0 := XB4.out.cell 0
   simp only [qgz, qgs] at u0' x0
   clear hal hat hcs hrow t0 u0 u1 u2 u3
   go_upto_region 6 with (first | (go_at_call 35; refine HCl.out.mono ?_; rintro e w5 ⟨C, cc, rfl, hcc1, hcc2, hown, hb5⟩; refine Hid.out ?_))
   refine qh ?_
   have XB5 := XB4.out.below hb5 XB4.out.lt
   have hne : ∀ i, (Value.slice C n1 cc).ownBlock = some i → i ≠ wc.heap.size := fun i e => by have h1 := (hown.lt i e).1; have h2 := XB4.out.lt; omega
   have hge : ∀ i, (Value.slice C n1 cc).ownBlock = some i → wc.heap.size ≤ i ∧ i < w5.heap.size := fun i e => by have h1 := hown.lt i e; have h2 := HAL.out.size; exact ⟨by omega, h1.2⟩
   have HB5 := qh (HAL.out.trans (hb5.mono HAL.out.size))
   have HB6 := qh (HB5.out.setCell (p := ⟨wc.heap.size, 0, none⟩) (qr _) (.slice C n1 cc))
   have XB6 := qh (XB5.set_ 0 (.slice C n1 cc))
   have hown6 := (Far.set_ (D := fun i => i = wc.heap.size) (w := w5) rfl 0 (.slice C n1 cc)).own hown hne
   have hs6 := ((Below.refl 0 w5).setCell (p := ⟨wc.heap.size, 0, none⟩) (Nat.zero_le _) (.slice C n1 cc)).size
   have HRV := qh (reverseA_any C n1 cc cs w4.heap.size (w5.setCell ⟨wc.heap.size, 0, none⟩ (.slice C n1 cc)) hown6 AT.out.six AT.out.row HCS.out (by have := HN1.out; omega))
   have HNE := qh hne
   have HGE := qh (fun i e => And.intro (hge i e).1 (ql (hge i e).2 hs6))
   have y0 := XB5.cell 0; have y0f := XB5.free 0; have y0l := XB5.lt
   have z0 := XB6.out.cell 0
   simp only [List.set_cons_zero, List.getElem?_cons_zero, List.getElem?_cons_succ] at y0 z0
   clear hown hown6 hne hge hb5 hs6 XB5 u0' x0 HCl
   go_upto_region 7 with (first | (go_at_call 36; refine HRV.out.mono ?_; rintro e w7 ⟨rfl, hrow7, hfar7⟩; refine Hid.out ?_))
   refine qh ?_
   have XB7 := qh (hfar7.whole XB6.out fun e => HNE.out _ e rfl)
   have hb7 : Below wc.heap.size wc w7 := HB6.out.trans (hfar7.below HB6.out.size fun i e => (HGE.out i e).1)
   have X7 := qh (X3.out.move hb7)
   have SA7 := qh ((SA3.out.under hb7 fun k hk => hk).more (S' := fun k => k < w7.heap.size) fun k hk => ql hk hb7.size)
   have hrs7 : RSeq 6 RAt w7 (fun k => k < w7.heap.size) C n1 v.ts.reverse := AT.out.rev.seq (by rw [List.length_reverse]; exact HV.out.ts.len) (hrow7.more fun k e => ql (HGE.out k e).2 hfar7.size)
   have hW := HWS.out _ X7.out.bel
   have hr7 := HRS.out ⟨v.ts.reverse, v.ins, v.ms, v.on⟩ C A2 A3 A4 n1 cc n2 c2 n3 c3 n4 c4 _ X7.out.bel ⟨⟨hcc1, hcc2⟩, hW.h2, hW.h3, hW.h4, hrs7, hW.ins, hW.ms, hW.on⟩
   unfold ResolveP at hr7
   rw [(HBK.out HCK.out).1, (HBK.out HCK.out).2] at hr7
   have HR7 := qh hr7
   have t0 := X7.out.t.cell 0
   have x0 := XB7.out.cell 0; have x1 := XB7.out.cell 1; have x2 := XB7.out.cell 2; have x3 := XB7.out.cell 3; have xl := XB7.out.lt
   simp only [List.set_cons_zero, List.getElem?_cons_zero, List.getElem?_cons_succ] at t0 x0 x1 x2 x3
   have hzz : (z == z) = true := beq_self_eq_true z
   have hzn : (z != z) = false := by unfold bne; rw [hzz]; rfl
   clear hrow7 hfar7 hb7 hrs7 hW hr7 y0 y0f y0l z0 HRV HBK XB4 HAL X4 HB5 HB6 XB6 HNE HGE X3 SA3 AT HCS
   go_upto_region 8 with (first | (go_at_call 27; refine HR7.out.mono ?_; rintro e w8 ⟨Ab, nb, cb, Bb, kb, db, rfl, hSb, hb1, hb2, -, -, -, hb8⟩; refine Hid.out ?_))
   refine qh ?_
   have X8 := qh (X7.out.move hb8)
   have SA8 := qh ((SA7.out.under hb8 fun k hk => hk).more (S' := fun k => k < w8.heap.size) fun k hk => ql hk hb8.size)
   have hss := sameSett_any L L (fun k => k < w8.heap.size) Aa Ab na ca nb cb w8 SA8.out (hSb.more fun k hk => hk.2) (fun k hk => hk) HA.out (Nat.le_trans hb1 hb2)
   rw [eqL_self] at hss
   have HSS := qh hss
   clear hSb hb8 hss HR7 t0 x0 x1 x2 x3 xl XB7 X7 SA7
   go_upto_region 10 with (first | (go_at_call 16; refine HSS.out.mono ?_; rintro e w9 ⟨rfl, hb9⟩; refine Hid.out ?_))
   refine qh ?_
   have X9 := qh (X8.out.move hb9)
   clear hb9 HSS X8 SA8
   by_cases hz0 : z = 0
   ·subst hz0
    have u0 := X9.out.v.cell 0
    simp only [List.getElem?_cons_zero] at u0
    go_upto_region 13 with fail
    have hn3 : n3 ≤ 8 := by
     have h1 := ckMask_short (wish_parts HCK.out).ms
     have h2 := (tree_parts (wish_parts HCK.out).tree).1
     have h3 := HV.out.ms.len
     omega
    have HN3 := qh hn3
    clear hn3 u0
    go_loopg [69] n1 (fun g iv wr => ∃ k : Nat, Hid (k + g = n1) ∧ iv = .int .i64 k ∧ Hid (Wb w A n c [.slice A1 n1 c1, .slice A2 n2 c2, .slice A3 n3 c3, .slice A4 n4 c4] wr))
    case atStart => exact ⟨0, qh (Nat.zero_add _), rfl, X9⟩
    case round =>
     obtain ⟨k, Hk, rfl, XR⟩ := hrel
     by_cases hk : k < n1
     ·have hal : Below wr.heap.size wr (wr.alloc (.cells #[.slice A1 n1 c1, .slice A2 n2 c2, .slice A3 n3 c3, .slice A4 n4 c4] 30)) := (Below.refl _ wr).alloc (qr _) _
      have XB1 := qh (Whole.new wr wr.heap.size 30 [.slice A1 n1 c1, .slice A2 n2 c2, .slice A3 n3 c3, .slice A4 n4 c4] rfl)
      have HAL := qh hal
      have X1 := qh (XR.out.move hal)
      have u0 := XR.out.v.cell 0; have u1 := XR.out.v.cell 1; have u2 := XR.out.v.cell 2; have u3 := XR.out.v.cell 3
      simp only [qgz, qgs] at u0 u1 u2 u3
      have hk1 : (k : Int) < n1 := by omega
      have hk0 : (0 : Int) ≤ (k : Int) := by omega
      have hkm : (k : Int) + 1 ≤ 9223372036854775807 := by have := HN1.out; have := HN3.out; omega
      go_upto_region 16 with fail
      generalize wr.alloc (.cells #[.slice A1 n1 c1, .slice A2 n2 c2, .slice A3 n3 c3, .slice A4 n4 c4] 30) = w1 at *
      obtain ⟨cs, hat, hcs, hrow⟩ := ats_of (HV.out.under X1.out.bel HS.out).ts
      have AT := qh hat; have HCS := qh hcs
      have HCl := qh (cloneAtoms_any A1 n1 c1 cs.flatten w1 S hrow hat.one (Hlt.out _ X1.out.bel) (by have := HN1.out; omega))
      clear hat hcs hrow
      clear hal u0 u1 u2 u3
      have uf := X1.out.v.cell 0
      simp only [qgz, qgs] at uf
      go_upto_region 17 with (first | (go_at_call 35; refine HCl.out.mono ?_; rintro e w2 ⟨C, cc, rfl, hcc1, hcc2, hown, hb2⟩; refine Hid.out ?_))
      refine qh ?_
      have hde := deleteA_any C n1 cc cs.flatten k (k + 1) w1.heap.size w2 hown hk rfl AT.out.one
      have hkk : ((k + 1 : Nat) : Int) = (k : Int) + 1 := by omega
      rw [hkk] at hde
      have HDE := qh hde
      have HOWN := qh hown; have HB2 := qh hb2
      clear hde hown hb2 hkk HCl
      go_wp2_with (first | (go_at_call 37; refine HDE.out.mono ?_; rintro e w3 ⟨rfl, hrow3, hm1, hm2, hfar3⟩; refine Hid.out ?_))
      refine qh ?_
      obtain ⟨hx3, hx4, hrow4, hb4⟩ := put_own (i := 0) XB1.out HB2.out HOWN.out hfar3 hrow3 (.slice C (n1 - 1) cc) HAL.out (qr _)
      have XB4 := qh hx4; have HR4 := qh hrow4; have HB4 := qh hb4
      have y0 := hx3.cell 0; have y0f := hx3.free 0; have y0l := hx3.lt
      simp only [qgz, qgs] at y0
      clear hx3 hx4 hrow4 hb4 hrow3 hfar3 HDE HOWN HB2 HAL XB1 X1 uf
      go_upto_region 17 with fail
      generalize w3.setCell ⟨wr.heap.size, 0, none⟩ (.slice C (n1 - 1) cc) = w4 at *
      have X4 := qh (XR.out.move HB4.out)
      have hW := HWS.out _ X4.out.bel
      have hrs : RSeq 6 RAt w4 (fun k => k < w4.heap.size) C (n1 - 1) (v.ts.eraseIdx k) := (AT.out.erase k (by rw [HCS.out]; exact hk)).seq (by rw [List.length_eraseIdx_of_lt (by rw [HV.out.ts.len]; exact hk), HV.out.ts.len]) (by rw [← flat_erase AT.out.six]; exact HR4.out)
      have hr := HRS.out ⟨v.ts.eraseIdx k, v.ins, v.ms, v.on⟩ C A2 A3 A4 (n1 - 1) cc n2 c2 n3 c3 n4 c4 _ X4.out.bel ⟨⟨hm1, hm2⟩, hW.h2, hW.h3, hW.h4, hrs, hW.ins, hW.ms, hW.on⟩
      unfold ResolveP at hr
      rw [HLT.out k HCK.out (by trivial)] at hr
      have HR := qh hr
      have t0 := X4.out.t.cell 0
      have x0 := XB4.out.cell 0; have x1 := XB4.out.cell 1; have x2 := XB4.out.cell 2; have x3 := XB4.out.cell 3; have xl := XB4.out.lt
      simp only [List.set_cons_zero, List.set_cons_succ, List.getElem?_cons_zero, List.getElem?_cons_succ] at t0 x0 x1 x2 x3
      clear y0 y0f y0l hW hr HR4
      go_wp2_with (first | (go_at_call 27; refine HR.out.mono ?_; rintro e w5 ⟨Ac, nc, cd, Bc, kc, dc, rfl, -, -, -, -, -, -, hb5⟩; refine Hid.out ?_))
      refine qh ?_
      have X5 := qh (X4.out.move hb5)
      clear hb5 HR t0 x0 x1 x2 x3 xl X4 XB4 HB4 XR
      go_wp2
      go_roundg (gk - 1)
      case measure => have := Hk.out; omega
      case rel => exact ⟨k + 1, qh (by have := Hk.out; omega), by go_num, X5⟩
     ·obtain rfl : n1 = k := by have := Hk.out; omega
      have u2 := XR.out.v.cell 2
      simp only [qgz, qgs] at u2
      go_upto_region 22 with fail
      clear u2 Hk
      go_loopg [94] n3 (fun g iv wr => ∃ k : Nat, Hid (k + g = n3) ∧ iv = .int .i64 k ∧ Hid (Wb w A n c [.slice A1 n1 c1, .slice A2 n2 c2, .slice A3 n3 c3, .slice A4 n4 c4] wr))
      case atStart => exact ⟨0, qh (Nat.zero_add _), rfl, XR⟩
      case round =>
       obtain ⟨k, Hk, rfl, XR⟩ := hrel
       by_cases hk : k < n3
       ·have hal : Below wr.heap.size wr (wr.alloc (.cells #[.slice A1 n1 c1, .slice A2 n2 c2, .slice A3 n3 c3, .slice A4 n4 c4] 30)) := (Below.refl _ wr).alloc (qr _) _
        have XB1 := qh (Whole.new wr wr.heap.size 30 [.slice A1 n1 c1, .slice A2 n2 c2, .slice A3 n3 c3, .slice A4 n4 c4] rfl)
        have HAL := qh hal
        have X1 := qh (XR.out.move hal)
        have u0 := XR.out.v.cell 0; have u1 := XR.out.v.cell 1; have u2 := XR.out.v.cell 2; have u3 := XR.out.v.cell 3
        simp only [qgz, qgs] at u0 u1 u2 u3
        have hk1 : (k : Int) < n3 := by omega
        have hk0 : (0 : Int) ≤ (k : Int) := by omega
        have hkm : (k : Int) + 1 ≤ 9223372036854775807 := by have := HN1.out; have := HN3.out; omega
        go_upto_region 25 with fail
        generalize wr.alloc (.cells #[.slice A1 n1 c1, .slice A2 n2 c2, .slice A3 n3 c3, .slice A4 n4 c4] 30) = w1 at *
        have hone : ∀ u ∈ v.ms.map (Value.int .i64), u.oneCell' = true := fun u hu => by obtain ⟨x, _, rfl⟩ := List.mem_map.1 hu; rfl
        have HONE := qh hone
        have HCl := qh (cloneInts_any A3 n3 c3 (v.ms.map (.int .i64)) w1 S (HV.out.under X1.out.bel HS.out).ms hone (Hlt.out _ X1.out.bel) (by have := HN3.out; omega))
        clear hone
        clear hal u0 u1 u2 u3
        have uf := X1.out.v.cell 2
        simp only [qgz, qgs] at uf
        go_upto_region 26 with (first | (go_at_call 39; refine HCl.out.mono ?_; rintro e w2 ⟨C, cc, rfl, hcc1, hcc2, hown, hb2⟩; refine Hid.out ?_))
        refine qh ?_
        have hde := deleteI_any C n3 cc (v.ms.map (.int .i64)) k (k + 1) w1.heap.size w2 hown hk rfl HONE.out
        have hkk : ((k + 1 : Nat) : Int) = (k : Int) + 1 := by omega
        rw [hkk] at hde
        have HDE := qh hde
        have HOWN := qh hown; have HB2 := qh hb2
        clear hde hown hb2 hkk HCl
        go_wp2_with (first | (go_at_call 38; refine HDE.out.mono ?_; rintro e w3 ⟨rfl, hrow3, hm1, hm2, hfar3⟩; refine Hid.out ?_))
        refine qh ?_
        obtain ⟨hx3, hx4, hrow4, hb4⟩ := put_own (i := 2) XB1.out HB2.out HOWN.out hfar3 hrow3 (.slice C (n3 - 1) cc) HAL.out (qr _)
        have XB4 := qh hx4; have HR4 := qh hrow4; have HB4 := qh hb4
        have y0 := hx3.cell 2; have y0f := hx3.free 2; have y0l := hx3.lt
        simp only [qgz, qgs] at y0
        clear hx3 hx4 hrow4 hb4 hrow3 hfar3 HDE HOWN HB2 HAL XB1 X1 uf
        go_upto_region 26 with fail
        generalize w3.setCell ⟨wr.heap.size, 2, none⟩ (.slice C (n3 - 1) cc) = w4 at *
        have X4 := qh (XR.out.move HB4.out)
        have hW := HWS.out _ X4.out.bel
        have hrs : RInts w4 (fun k => k < w4.heap.size) C (n3 - 1) (v.ms.eraseIdx k) := by
         have h := HR4.out
         rw [Nat.mul_one, Nat.mul_one, Nat.mul_one, ← List.map_take, ← List.map_drop, ← List.map_append, ← List.eraseIdx_eq_take_drop_succ] at h
         exact h
        have hr := HRS.out ⟨v.ts, v.ins, v.ms.eraseIdx k, v.on⟩ A1 A2 C A4 n1 c1 n2 c2 (n3 - 1) cc n4 c4 _ X4.out.bel ⟨hW.h1, hW.h2, ⟨hm1, hm2⟩, hW.h4, hW.ts, hW.ins, hrs, hW.on⟩
        unfold ResolveP at hr
        rw [HLM.out k HCK.out (by trivial)] at hr
        have HR := qh hr
        have t0 := X4.out.t.cell 0
        have x0 := XB4.out.cell 0; have x1 := XB4.out.cell 1; have x2 := XB4.out.cell 2; have x3 := XB4.out.cell 3; have xl := XB4.out.lt
        simp only [List.set_cons_zero, List.set_cons_succ, List.getElem?_cons_zero, List.getElem?_cons_succ] at t0 x0 x1 x2 x3
        clear y0 y0f y0l hW hr HR4
        go_wp2_with (first | (go_at_call 27; refine HR.out.mono ?_; rintro e w5 ⟨Ac, nc, cd, Bc, kc, dc, rfl, -, -, -, -, -, -, hb5⟩; refine Hid.out ?_))
        refine qh ?_
        have X5 := qh (X4.out.move hb5)
        clear hb5 HR t0 x0 x1 x2 x3 xl X4 XB4 HB4 XR
        go_wp2
        go_roundg (gk - 1)
        case measure => have := Hk.out; omega
        case rel => exact ⟨k + 1, qh (by have := Hk.out; omega), by go_num, X5⟩
       ·obtain rfl : k = n3 := by have := Hk.out; omega
        go_wp2
        go_ret
        exact ⟨rfl, XR.out.bel⟩
   ·have hzb : (z == 0) = false := by simpa using hz0
    have hzbn : (z != 0) = true := by unfold bne; rw [hzb]; rfl
    go_wp2
    go_ret
    exact ⟨rfl, X9.out.bel⟩
 ·have hz0 : (z == 0) = false := by rw [beq_eq_false_iff_ne]; omega
  have hz7 : (z == 7) = false := by rw [beq_eq_false_iff_ne]; omega
  have hz0n : (z != 0) = true := by unfold bne; rw [hz0]; rfl
  have hz7n : (z != 7) = true := by unfold bne; rw [hz7]; rfl
  go_upto_region 3 with (first | (go_at_call 29; refine HO2.out.mono ?_; rintro e w3 ⟨rfl, hb3⟩; refine Hid.out ?_))
  refine qh ?_
  have X3 := qh (X2.out.move hb3)
  have HO3 := qh (Hrd.out _ X3.out.bel)
  clear hb3 HO2
  go_wp2_with (first | (go_at_call 29; refine HO3.out.mono ?_; rintro e w4 ⟨rfl, hb4⟩; refine Hid.out ?_))
  refine qh ?_
  have X4 := qh (X3.out.move hb4)
  clear hb4
  go_wp2
  go_ret
  exact ⟨rfl, X4.out.bel⟩
end
/- Arguments that can be read as data, opened: atoms, strings; what the listed variables hold. -/
section
open Go.ChangeShapes Go.WideShapes Go.ChangeAt Go.RowKit Qm

section
variable {H : Type} {enc : TypeId × Value → H} {w : World} {base : Nat} {sp : Nat → Bool} {held : Bool}
theorem field_cell {P : Program} {t : TypeId} {fs : Array Field} {fuel : Nat} {cs : List Value} {x : DataW H × List MemPlace} (ht : P.underlying t = some (.struct fs)) (h : DataW.trod enc P w base sp held fuel t cs = some x)
  (i : Nat) {f : Field} (hf : fs[i]? = some f) (hc : P.cellsOf f.type = 1) (hlt : f.offset < P.cellsOf t) : ∃ c n y, cs[f.offset]? = some c ∧ DataW.trod enc P w base sp held n f.type [c] = some y := by
 obtain ⟨xs, n, _, _, hl, hxl, hx⟩ := DataW.trod_struct ht h
 have h1 := hx i f hf
 have hlt' : f.offset < cs.length := by omega
 have hi : i < fs.size := (Array.getElem?_eq_some_iff.1 hf).1
 rw [hc, List.drop_eq_getElem_cons hlt'] at h1
 refine ⟨cs[f.offset], n, xs[i]'(by omega), List.getElem?_eq_getElem hlt', ?_⟩
 rw [List.getElem?_eq_getElem (by omega)] at h1
 have e : (cs[f.offset] :: List.drop (f.offset + 1) cs).take 1 = [cs[f.offset]] := rfl
 rw [e] at h1
 exact h1
def In64 (x : Int) : Prop := -9223372036854775808 ≤ x ∧ x ≤ 9223372036854775807
theorem i64_le {x : Int} (h : (Lit.int .i64 x).wf = true) : In64 x := by
 unfold In64
 simp [Lit.wf, IntKind.min, IntKind.max, IntKind.bits, IntKind.signed] at h; omega
theorem six_of {α : Type} {cs : List α} {a b c d e f : α} (hl : cs.length = 6) (h0 : cs[0]? = some a) (h1 : cs[1]? = some b) (h2 : cs[2]? = some c) (h3 : cs[3]? = some d) (h4 : cs[4]? = some e) (h5 : cs[5]? = some f) : cs = [a, b, c, d, e, f] := by
 match cs, hl with
 | [_, _, _, _, _, _], _ => simp at h0 h1 h2 h3 h4 h5; simp [h0, h1, h2, h3, h4, h5]
theorem str_one {P : Program} {t : TypeId} {n : Nat} {c : Value} {y : DataW H × List MemPlace} (ht : P.underlying t = some .string) (h : DataW.trod enc P w base sp held n t [c] = some y) : ∃ s : ByteArray, c = .string s ∧ s.size ≤ maxLen := by
 obtain ⟨s, e, _, hs⟩ := DataW.trod_string ht h
 simp at e
 exact ⟨s, e, hs⟩
theorem int_oneA {P : Program} {t : TypeId} {n : Nat} {c : Value} {y : DataW H × List MemPlace} (ht : P.underlying t = some (.int .i64)) (h : DataW.trod enc P w base sp held n t [c] = some y) : ∃ x : Int, c = .int .i64 x ∧ In64 x := by
 obtain ⟨x, e, _, hs⟩ := DataW.trod_int ht h
 simp at e
 exact ⟨x, e, i64_le hs⟩
theorem bool_one_ {P : Program} {t : TypeId} {n : Nat} {c : Value} {y : DataW H × List MemPlace} (ht : P.underlying t = some .bool) (h : DataW.trod enc P w base sp held n t [c] = some y) : ∃ x : Bool, c = .bool x := by
 obtain ⟨x, e, _⟩ := DataW.trod_bool ht h
 simp at e
 exact ⟨x, e⟩
theorem atom_cells {fuel : Nat} {cs : List Value} {x : DataW H × List MemPlace} (h : DataW.trod enc Tryz.prog w base sp held fuel 75 cs = some x) :
  ∃ (s f : ByteArray) (op ver slot : Int) (on : Bool), cs = [.string s, .int .i64 op, .int .i64 ver, .int .i64 slot, .string f, .bool on] ∧ s.size ≤ maxLen ∧ f.size ≤ maxLen ∧ In64 op ∧
   In64 ver ∧ In64 slot := by
 have hT := Tryz.underlying75
 have hl : cs.length = 6 := by
  obtain ⟨_, _, _, _, hl, _⟩ := DataW.trod_struct hT h
  rw [hl]; kernel_rfl
 obtain ⟨c0, n0, y0, e0, k0⟩ := field_cell hT h 0 rfl (by kernel_rfl) (of_decide_eq_true (by kernel_rfl))
 obtain ⟨c1, n1, y1, e1, k1⟩ := field_cell hT h 1 rfl (by kernel_rfl) (of_decide_eq_true (by kernel_rfl))
 obtain ⟨c2, n2, y2, e2, k2⟩ := field_cell hT h 2 rfl (by kernel_rfl) (of_decide_eq_true (by kernel_rfl))
 obtain ⟨c3, n3, y3, e3, k3⟩ := field_cell hT h 3 rfl (by kernel_rfl) (of_decide_eq_true (by kernel_rfl))
 obtain ⟨c4, n4, y4, e4, k4⟩ := field_cell hT h 4 rfl (by kernel_rfl) (of_decide_eq_true (by kernel_rfl))
 obtain ⟨c5, n5, y5, e5, k5⟩ := field_cell hT h 5 rfl (by kernel_rfl) (of_decide_eq_true (by kernel_rfl))
 obtain ⟨s, rfl, hs⟩ := str_one Tryz.underlying9 k0
 obtain ⟨op, rfl, ho⟩ := int_oneA Tryz.underlying3 k1
 obtain ⟨ver, rfl, hv⟩ := int_oneA Tryz.underlying3 k2
 obtain ⟨slot, rfl, hsl⟩ := int_oneA Tryz.underlying3 k3
 obtain ⟨f, rfl, hf⟩ := str_one Tryz.underlying9 k4
 obtain ⟨on, rfl⟩ := bool_one_ Tryz.underlying4 k5
 exact ⟨s, f, op, ver, slot, on, six_of hl e0 e1 e2 e3 e4 e5, hs, hf, ho, hv, hsl⟩
end

/-! what the listed variables hold -/
theorem laid_at {P : Program} {w : World} : ∀ {l : List (String × DataW Unit)} {k : Nat} {x : String × DataW Unit}, laidMet P l w → l[k]? = some x → ∃ r, laidMet P (x :: r) w
 | [], _, _, _, h => by simp at h
 | y :: r, 0, x, h, hk => by
  simp only [List.getElem?_cons_zero, Option.some.injEq] at hk
  subst hk
  exact ⟨r, h⟩
 | y :: r, k + 1, x, h, hk => laid_at h.tail (by simpa using hk)
theorem gPow : Tryz.prog.globalNamed "internal/strconv.uint64pow10" = some 1 := by kernel_rfl
theorem gRng : Tryz.prog.globalNamed "strconv.ErrRange" = some 3 := by kernel_rfl
theorem gSyn : Tryz.prog.globalNamed "strconv.ErrSyntax" = some 2 := by kernel_rfl
theorem tPow : (Tryz.prog.globals[1]?).map (·.type) = some 240 := by kernel_rfl
theorem tRng : (Tryz.prog.globals[3]?).map (·.type) = some 176 := by kernel_rfl
theorem tSyn : (Tryz.prog.globals[2]?).map (·.type) = some 176 := by kernel_rfl
theorem rowErr : ∀ u, Tryz.prog.typeName? 3 u = some "*errors.errorString" → u = 263 := fun _ h => typeName_ptr_named (nm := "errors.errorString") (by kernel_rfl) (by kernel_rfl) (by decide) _ h
theorem laidV_of {w : World} {l : List (String × DataW Unit)} (h : laidMet Tryz.prog l w) {i j k : Nat} (hi : l[i]? = some ("internal/strconv.uint64pow10", Rows.laid_internal_strconv_uint64pow10)) (hj : l[j]? = some ("strconv.ErrRange", Rows.laid_strconv_ErrRange)) (hk : l[k]? = some ("strconv.ErrSyntax", Rows.laid_strconv_ErrSyntax)) : LaidV w := by
 obtain ⟨_, h1⟩ := laid_at h hi
 obtain ⟨_, h2⟩ := laid_at h hj
 obtain ⟨_, h3⟩ := laid_at h hk
 obtain ⟨a2, s2, e2, _⟩ := laid_sentinel h2 gRng tRng Tryz.underlying176 rowErr Tryz.underlying263 Tryz.underlying265 rfl rfl Tryz.underlying9 (by kernel_rfl) (by kernel_rfl)
 obtain ⟨a3, s3, e3, _⟩ := laid_sentinel h3 gSyn tSyn Tryz.underlying176 rowErr Tryz.underlying263 Tryz.underlying265 rfl rfl Tryz.underlying9 (by kernel_rfl) (by kernel_rfl)
 exact ⟨⟨_, _, e3⟩, ⟨_, _, e2⟩, Lib.tabIs_of_head gPow tPow Tryz.underlying240 Tryz.underlying213 (by kernel_rfl) (by kernel_rfl) h1⟩
end
/- Arguments that can be read as data, opened into the words of these proofs. -/
section
open Go.ChangeShapes Go.WideShapes Go.ChangeAt Go.RowKit Go.Joins Go.Deep

theorem spot_add {w : World} {a : Addr} {n : Nat} {f : Nat → Value} (hn : 0 < n) (h : ∀ i, i < n → w.cell? (a.add i) = some (f i)) : ∃ b o, a = ⟨b, o, none⟩ ∧ b < w.heap.size ∧ ∀ j, j < n → w.cell? ⟨b, o + j, none⟩ = some (f j) := by
 obtain ⟨b, o, spot⟩ := a
 have h0 := h 0 hn
 have hs : spot = none := by simpa [Addr.add] using World.cell?_spot h0
 subst hs
 have ha : ∀ j, (⟨b, o, none⟩ : Addr).add j = ⟨b, o + j, none⟩ := by
  intro j; unfold Addr.add; by_cases hj : j = 0 <;> simp [hj]
 refine ⟨b, o, rfl, ?_, fun j hj => by rw [← ha]; exact h j hj⟩
 have := World.block_lt_of_cell? w _ h0
 rw [ha] at this; exact this

theorem row_of_cells {w : World} {a : Addr} {n : Nat} {vs : List Value} (hl : vs.length = n) (h : ∀ i (_ : i < n), w.cell? (a.add i) = vs[i]?) : Row w (fun k => k < w.heap.size) (some a) n vs := by
 refine ⟨hl, fun hn => ?_⟩
 obtain ⟨b, o, rfl, hb, hc⟩ := spot_add (f := fun i => (vs[i]?).getD undef) hn (fun i hi => by rw [h i hi, List.getElem?_eq_getElem (by omega)]; rfl)
 exact ⟨b, o, rfl, hb, fun j hj => by rw [hc j hj, List.getElem?_eq_getElem (by omega)]; rfl⟩

section
variable {H : Type} {enc : TypeId × Value → H} {P : Program} {w : World} {base : Nat} {held : Bool}
end
end
end Go.Proofs.YtedbhlgjcnnknaaGreatDoor
