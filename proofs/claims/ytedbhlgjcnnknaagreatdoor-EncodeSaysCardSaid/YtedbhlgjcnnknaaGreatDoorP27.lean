/- Parts of the proof: walks and plain laws, side by side. -/
import Derived.Test.YtedbhlgjcnnknaaGreatDoorP26
import Derived.Test.YtedbhlgjcnnknaaGreatDoorP11
import Derived.Test.YtedbhlgjcnnknaaGreatDoorP5
import Derived.Test.YtedbhlgjcnnknaaGreatDoorP2
import Derived.Test.YtedbhlgjcnnknaaGreatDoorP4
import Derived.Laws.EntriesVeiled
import Derived.Maps.AppendAt
import Derived.Test.YtedbhlgjcnnknaaGreatDoorP1
import Derived.Test.YtedbhlgjcnnknaaGreatDoorProg
import Derived.Deep.RegionLaw
import Derived.Deep.Cut
import Derived.Test.YtedbhlgjcnnknaaGreatDoorP7
import Derived.Maps.OwnSet
import Derived.Lib.ParseIntBTie
import Derived.Test.YtedbhlgjcnnknaaGreatDoorP8
import Derived.Deep.CutBlock
import Derived.Lib.IndexBytes
import Derived.Lib.IndexMore
import Derived.Test.YtedbhlgjcnnknaaGreatDoorP13
set_option linter.unusedVariables false
set_option linter.unusedSimpArgs false
set_option linter.unusedSectionVars false
set_option maxRecDepth 100000
set_option maxHeartbeats 12800000
namespace Go.Proofs.YtedbhlgjcnnknaaGreatDoor
open Go.RowKit Qm
theorem sortW_pair (l : List Qm.W) : (sortW l).Pairwise (· ≤ ·) := by
 unfold sortW
 have := List.pairwise_mergeSort (le := fun x y : Qm.W => decide (x ≤ y)) (fun a b c h1 h2 => by simp at *; exact wle_trans h1 h2) (fun a b => by simp; exact List.le_total a b) l
 exact this.imp fun h => by simpa using h
theorem sortW_mem {l : List Qm.W} {x : Qm.W} : x ∈ sortW l ↔ x ∈ l := by unfold sortW; exact List.mem_mergeSort
theorem sortW_strict {l : List Qm.W} (h : l.Nodup) : (sortW l).Pairwise (· < ·) := by
 have hn : (sortW l).Nodup := (List.mergeSort_perm l _).nodup_iff.2 h
 exact (sortW_pair l).imp₂ (fun a b h1 h2 => wlt_of h1 h2) hn
theorem flags_same {l fs : List Qm.W} (h : l.Nodup) (hm : ∀ x, x ∈ l ↔ x ∈ fs) : sortW l = Lib.compact (sortW fs) := by
 refine strict_eq (sortW_strict h) ?_ fun x => by rw [sortW_mem, mem_compact, sortW_mem, hm]
 unfold Lib.compact
 refine (compactUpTo_strict _ (fun i j hij hj => ?_) _ (by simp)).1
 have hp := sortW_pair fs
 simp only [List.size_toArray] at hj
 rcases Nat.eq_or_lt_of_le hij with e | hlt
 ·subst e; exact List.le_refl _
 ·rw [List.pairwise_iff_getElem] at hp
  have := hp i j (by omega) hj hlt
  simpa [List.getElem!_toArray, hj, Nat.lt_of_le_of_lt hij hj] using this
end Go.Proofs.YtedbhlgjcnnknaaGreatDoor

namespace Go.Proofs.YtedbhlgjcnnknaaGreatDoor
open Go.RowKit Qm
structure Fm (BM BF b : Nat) (K : Qm.W → Bool) (m : Nat) (w : World) : Prop where
 mp : Whole w BM 150 [.map (some b)]
 fn : Whole w BF 170 [.func (.func 120) #[] #[.pointer (some ⟨BM, 0, none⟩), .pointer (some ⟨BF, 0, none⟩)]]
 set : StrSet Tryz.prog w b K m
 nm : BM ≠ b
 nf : BF ≠ b
def FmPost (BM BF b : Nat) (K : Qm.W → Bool) (m : Nat) (gs : List Qm.W) (w : World) (e : Ending) (w' : World) : Prop :=
 ∃ K' m', e = .returned (.tuple #[]) ∧ Fm BM BF b K' m' w' ∧ Far (fun i => i = b) w w' ∧ (∀ x, K' x = (K x || decide (x ∈ gs))) ∧ m' ≤ m + gs.length
structure Fy (w : World) (BM BF b : Nat) (K : Qm.W → Bool) (m : Nat) (gs : List Qm.W) (wx : World) : Prop where
 ex : ∃ K' m', Fm BM BF b K' m' wx ∧ (∀ x, K' x = (K x || decide (x ∈ gs))) ∧ m' ≤ m + gs.length
 far : Far (fun i => i = b) w wx
section
variable {w wx wy : World} {BM BF b m : Nat} {K : Qm.W → Bool} {gs hs : List Qm.W}
theorem Fm.below (h : Fm BM BF b K m wx) (hb : Below wx.heap.size wx wy) : Fm BM BF b K m wy :=
 ⟨h.mp.below hb h.mp.lt, h.fn.below hb h.fn.lt, h.set.kept (row := none) ⟨hb.os, hb.tape, hb.output, hb.size, fun i hi _ => hb.block i hi⟩ (by simp), h.nm, h.nf⟩
theorem Fm.put {K' : Qm.W → Bool} {m' : Nat} (h : Fm BM BF b K m wx) (hs : StrSet Tryz.prog wy b K' m') (hg : wx.grownBy wy (some b)) : Fm BM BF b K' m' wy :=
 ⟨h.mp.grown hg (by simpa using h.nm), h.fn.grown hg (by simpa using h.nf), hs, h.nm, h.nf⟩
theorem Fy.call {K1 : Qm.W → Bool} {m1 : Nat} (hf : Far (fun i => i = b) w wx) (h2 : ∀ x, K1 x = (K x || decide (x ∈ gs))) (h3 : m1 ≤ m + gs.length) {e : Ending} (h : FmPost BM BF b K1 m1 hs wx e wy) : Fy w BM BF b K m (gs ++ hs) wy := by
 obtain ⟨K', m', _, f, far, hk, hm⟩ := h
 refine ⟨⟨K', m', f, fun x => ?_, by simp; omega⟩, hf.trans far fun _ _ e => e⟩
 rw [hk, h2, Bool.or_assoc]; simp [List.mem_append]
end
theorem rflagsC_any : ∀ (y : Nd) (S : Nat → Prop) (x : List Value) (BM BF b : Nat) (K : Qm.W → Bool) (m : Nat) (w : World), RNd w S x y → (∀ k, S k → k < w.heap.size ∧ ¬ k = b) → Fm BM BF b K m w → m + (flagsN y).length ≤ 10000 →
  Calls Tryz.prog 120 #[.agg x.toArray, .pointer (some ⟨BM, 0, none⟩), .pointer (some ⟨BF, 0, none⟩)] w (FmPost BM BF b K m (flagsN y) w) := by
 refine Nd.ind fun k a f no ks ih => ?_
 intro S x BM BF b K m w hR hS hF hcnt
 have HI := qh ih; clear ih
 obtain ⟨A, n, c, rfl, hnc, hc, h1, h2, h3, hK⟩ := hR.open_
 clear hR
 have HS := qh hS; have HK := qh hK
 have hfn : flagsN (.mk k a f no ks) = (if k = 5 then [f] else []) ++ flagsL ks := rfl
 rw [hfn] at hcnt ⊢
 clear hfn hS hK
 unfold ndRow
 have hb0 : Below w.heap.size w (w.alloc (.cells #[.int .i64 k, .string ⟨a.nm.toArray⟩, .int .i64 a.op, .int .i64 a.ver, .int .i64 a.slot, .string ⟨a.fl.toArray⟩, .bool a.on, .string ⟨f.toArray⟩, .bool no, .slice A n c] 99)) := (Below.refl _ w).alloc (qr _) _
 have HF0 := qh (hF.below hb0)
 have HB0 := qh hb0
 have HX := qh (Whole.new w _ 99 [.int .i64 k, .string ⟨a.nm.toArray⟩, .int .i64 a.op, .int .i64 a.ver, .int .i64 a.slot, .string ⟨a.fl.toArray⟩, .bool a.on, .string ⟨f.toArray⟩, .bool no, .slice A n c] rfl)
 have hbl := hF.set.lt
 have henter : ∀ (args : Array Value) (W : World), (callFunc 120 args).run Tryz.prog W = .ok (.enter 120 args) W := fun args W => by kernel_rfl
 have t1 := hF.mp.cell 0
 have t2 := hF.mp.lt
 simp only [qgz] at t1
 unfold maxLen at hc
 by_cases hk : k = 5
 ·subst hk
  rw [if_pos rfl] at hcnt ⊢
  obtain ⟨hd, ehd⟩ : ∃ hd, [f] = hd := ⟨_, rfl⟩
  obtain ⟨w5, hrun, hset5, hg5, hz5⟩ := HF0.out.set.put (t := 150) Tryz.underlying9 Tryz.underlying4 Tryz.underlying150 (x := f) h3 (by simp at hcnt; unfold maxLen; omega)
  rw [ehd] at hcnt ⊢
  have Hcnt := qh hcnt
  have HY : Hid (Fy w BM BF b K m hd w5) := qh ⟨⟨_, _, HF0.out.put hset5 hg5, fun x => by rw [← ehd, Bool.or_comm]; congr 1; rw [Bool.eq_iff_iff]; simp, by rw [← ehd]; split <;> simp⟩, (Far.of_below _ HB0.out).trans (Far.of_grown hg5 fun i e => by injection e) fun _ _ e => e⟩
  have g9 := (HX.out.grown hg5 (by intro e; injection e with e; omega)).cell 9
  simp only [qgz, qgs] at g9
  have hz6 : w.heap.size < w5.heap.size := by rw [hz5]; simp
  clear hcnt hF hb0 h1 h2 h3 hset5 hg5 ehd
  go_enter Tryz.func120, Tryz.ntmps120
  go_wp2
  go_loopg [15] n (fun g iv wr => ∃ (j : Nat), Hid (j + g = n) ∧ iv = .int .i64 j ∧ Hid (Fy w BM BF b K m (hd ++ flagsL (ks.take j)) wr))
  case atStart => exact ⟨0, qh (Nat.zero_add _), rfl, qh (by simpa [flagsL] using HY.out)⟩
  case round =>
   obtain ⟨j, Hj, rfl, HYr⟩ := hrel
   have hsz := HYr.out.far.size
   by_cases hj : j < n
   ·obtain ⟨K1, m1, hf1, hk1, hm1⟩ := HYr.out.ex
    have HF1 := qh hf1
    have HK1 := qh hk1
    have hKr := HK.out.keep fun p hp => HYr.out.far.cell (HS.out _ hp).1 (fun e => (HS.out _ hp).2 e)
    obtain ⟨bb, o, x, y, rfl, hb, hy, hxy, hcell⟩ := hKr.at_ hj
    have hmem := List.mem_of_getElem? hy
    have Htk : Hid (flagsL (ks.take (j + 1)) = flagsL (ks.take j) ++ flagsN y) := qh (by rw [List.take_add_one, hy]; exact flagsL_snoc _ _)
    obtain ⟨yk, ya, yf, yn, yks⟩ := y
    obtain ⟨A', n', c', rfl, -⟩ := hxy.open_
    have g0 := hcell 0 (by omega); have g1 := hcell 1 (by omega); have g2 := hcell 2 (by omega); have g3 := hcell 3 (by omega); have g4 := hcell 4 (by omega)
    have g5 := hcell 5 (by omega); have g6 := hcell 6 (by omega); have g7 := hcell 7 (by omega); have g8 := hcell 8 (by omega); have g9 := hcell 9 (by omega)
    clear hcell
    unfold ndRow at g0 g1 g2 g3 g4 g5 g6 g7 g8 g9
    simp only [qgz, qgs, Nat.add_zero] at g0 g1 g2 g3 g4 g5 g6 g7 g8 g9
    have hbn : Below wr.heap.size wr (wr.alloc (.cells #[.int .i64 yk, .string ⟨ya.nm.toArray⟩, .int .i64 ya.op, .int .i64 ya.ver, .int .i64 ya.slot, .string ⟨ya.fl.toArray⟩, .bool ya.on, .string ⟨yf.toArray⟩, .bool yn, .slice A' n' c'] 99)) := (Below.refl _ wr).alloc (qr _) _
    have hxy2 := hxy.under hbn fun q hq => ql (HS.out q hq).1 hsz
    have hlim : m1 + (flagsN (.mk yk ya yf yn yks)).length ≤ 10000 := by have h1 := flagsL_take ks (j + 1); rw [Htk.out, List.length_append] at h1; have h2 := Hcnt.out; rw [List.length_append] at h2 hm1; omega
    have Hcall := qh (HI.out _ hmem S _ BM BF b K1 m1 _ hxy2 (fun q hq => ⟨ql (HS.out q hq).1 (qlt hsz hbn.size), (HS.out q hq).2⟩) (HF1.out.below hbn) hlim)
    have Hfar := qh (HYr.out.far.trans (Far.of_below (fun i => i = b) hbn) fun _ _ e => e)
    have q1 := HF1.out.fn.cell 0
    have q2 := HF1.out.fn.lt
    simp only [qgz] at q1
    unfold ndRow at Hcall
    clear hxy hxy2 hmem hy hbn hKr hf1 hk1 hlim
    go_wp2_with (first | (go_at_call 120; refine Hcall.out.mono ?_; intro e w' hp; obtain ⟨K', m', rfl, hp'⟩ := id hp; refine Hid.out ?_))
    refine qh ?_
    have HY2 := qh (Fy.call Hfar.out HK1.out hm1 hp)
    clear hp hp'
    go_wp2
    go_roundg (gk - 1)
    case measure => have := Hj.out; omega
    case rel => exact ⟨j + 1, qh (by have := Hj.out; omega), by go_num, qh (by rw [Htk.out, ← List.append_assoc]; exact HY2.out)⟩
   ·have e : ks.take j = ks := List.take_of_length_le (by have := HK.out.len; omega)
    rw [e] at HYr
    go_wp2
    go_end0
    obtain ⟨K1, m1, hf1, hk1, hm1⟩ := HYr.out.ex
    exact ⟨K1, m1, rfl, hf1, HYr.out.far, hk1, hm1⟩
 ·have hk' : (k == 5) = false := by simpa using hk
  rw [if_neg hk] at hcnt ⊢
  obtain ⟨hd, ehd⟩ : ∃ hd : List Qm.W, [] = hd := ⟨_, rfl⟩
  rw [ehd] at hcnt ⊢
  have Hcnt := qh hcnt
  have HY : Hid (Fy w BM BF b K m hd _) := qh ⟨⟨_, _, HF0.out, fun x => by rw [← ehd]; simp, by omega⟩, Far.of_below _ HB0.out⟩
  clear hcnt hF hb0 h1 h2 h3 ehd
  go_enter Tryz.func120, Tryz.ntmps120
  go_wp2
  go_loopg [15] n (fun g iv wr => ∃ (j : Nat), Hid (j + g = n) ∧ iv = .int .i64 j ∧ Hid (Fy w BM BF b K m (hd ++ flagsL (ks.take j)) wr))
  case atStart => exact ⟨0, qh (Nat.zero_add _), rfl, qh (by simpa [flagsL] using HY.out)⟩
  case round =>
   obtain ⟨j, Hj, rfl, HYr⟩ := hrel
   have hsz := HYr.out.far.size
   by_cases hj : j < n
   ·obtain ⟨K1, m1, hf1, hk1, hm1⟩ := HYr.out.ex
    have HF1 := qh hf1
    have HK1 := qh hk1
    have hKr := HK.out.keep fun p hp => HYr.out.far.cell (HS.out _ hp).1 (fun e => (HS.out _ hp).2 e)
    obtain ⟨bb, o, x, y, rfl, hb, hy, hxy, hcell⟩ := hKr.at_ hj
    have hmem := List.mem_of_getElem? hy
    have Htk : Hid (flagsL (ks.take (j + 1)) = flagsL (ks.take j) ++ flagsN y) := qh (by rw [List.take_add_one, hy]; exact flagsL_snoc _ _)
    obtain ⟨yk, ya, yf, yn, yks⟩ := y
    obtain ⟨A', n', c', rfl, -⟩ := hxy.open_
    have g0 := hcell 0 (by omega); have g1 := hcell 1 (by omega); have g2 := hcell 2 (by omega); have g3 := hcell 3 (by omega); have g4 := hcell 4 (by omega)
    have g5 := hcell 5 (by omega); have g6 := hcell 6 (by omega); have g7 := hcell 7 (by omega); have g8 := hcell 8 (by omega); have g9 := hcell 9 (by omega)
    clear hcell
    unfold ndRow at g0 g1 g2 g3 g4 g5 g6 g7 g8 g9
    simp only [qgz, qgs, Nat.add_zero] at g0 g1 g2 g3 g4 g5 g6 g7 g8 g9
    have hbn : Below wr.heap.size wr (wr.alloc (.cells #[.int .i64 yk, .string ⟨ya.nm.toArray⟩, .int .i64 ya.op, .int .i64 ya.ver, .int .i64 ya.slot, .string ⟨ya.fl.toArray⟩, .bool ya.on, .string ⟨yf.toArray⟩, .bool yn, .slice A' n' c'] 99)) := (Below.refl _ wr).alloc (qr _) _
    have hxy2 := hxy.under hbn fun q hq => ql (HS.out q hq).1 hsz
    have hlim : m1 + (flagsN (.mk yk ya yf yn yks)).length ≤ 10000 := by have h1 := flagsL_take ks (j + 1); rw [Htk.out, List.length_append] at h1; have h2 := Hcnt.out; rw [List.length_append] at h2 hm1; omega
    have Hcall := qh (HI.out _ hmem S _ BM BF b K1 m1 _ hxy2 (fun q hq => ⟨ql (HS.out q hq).1 (qlt hsz hbn.size), (HS.out q hq).2⟩) (HF1.out.below hbn) hlim)
    have Hfar := qh (HYr.out.far.trans (Far.of_below (fun i => i = b) hbn) fun _ _ e => e)
    have q1 := HF1.out.fn.cell 0
    have q2 := HF1.out.fn.lt
    simp only [qgz] at q1
    unfold ndRow at Hcall
    clear hxy hxy2 hmem hy hbn hKr hf1 hk1 hlim
    go_wp2_with (first | (go_at_call 120; refine Hcall.out.mono ?_; intro e w' hp; obtain ⟨K', m', rfl, hp'⟩ := id hp; refine Hid.out ?_))
    refine qh ?_
    have HY2 := qh (Fy.call Hfar.out HK1.out hm1 hp)
    clear hp hp'
    go_wp2
    go_roundg (gk - 1)
    case measure => have := Hj.out; omega
    case rel => exact ⟨j + 1, qh (by have := Hj.out; omega), by go_num, qh (by rw [Htk.out, ← List.append_assoc]; exact HY2.out)⟩
   ·have e : ks.take j = ks := List.take_of_length_le (by have := HK.out.len; omega)
    rw [e] at HYr
    go_wp2
    go_end0
    obtain ⟨K1, m1, hf1, hk1, hm1⟩ := HYr.out.ex
    exact ⟨K1, m1, rfl, hf1, HYr.out.far, hk1, hm1⟩
end Go.Proofs.YtedbhlgjcnnknaaGreatDoor

namespace Go.Proofs.YtedbhlgjcnnknaaGreatDoor
open Go.RowKit Qm
theorem sortStrings_any (base g n cap : Nat) (fs : List Qm.W) (w : World) (hown : w.ownsRow base 9 1 (.slice (some ⟨g, 0, none⟩) n cap) n (strs fs)) (hn : n ≤ 100000) :
  Calls Tryz.prog 121 #[.slice (some ⟨g, 0, none⟩) n cap] w (SortPost base g n cap fs w) := by
 have H := qh (sortS_any base g n cap fs w hown hn)
 go_enter Tryz.func121, Tryz.ntmps121
 go_wp2_with (first | (go_at_call 140; refine H.out.mono ?_; rintro e w1 ⟨rfl, h1, h2⟩; refine Hid.out ?_))
 refine qh ?_
 go_wp2
 go_end0
 exact ⟨rfl, h1, h2⟩
end Go.Proofs.YtedbhlgjcnnknaaGreatDoor

namespace Go.Proofs.YtedbhlgjcnnknaaGreatDoor
open Go.RowKit Qm
structure Gone (K : Qm.W → Bool) (l : List Qm.W) (left : Lit → Bool) : Prop where
 nodup : l.Nodup
 short : ∀ x ∈ l, x.length ≤ maxLen
 sub : ∀ x : Qm.W, x.length ≤ maxLen → left (.string x) = true → K x = true ∧ x ∉ l
 all : ∀ x : Qm.W, x.length ≤ maxLen → K x = true → x ∈ l ∨ left (.string x) = true
 got : ∀ x ∈ l, K x = true
theorem Gone.start {D : DataW Unit} {K : Qm.W → Bool} (h : ∀ x : Qm.W, x.length ≤ maxLen → Maps.has D (.string x) = K x) : Gone K [] (Maps.has D) :=
 ⟨List.nodup_nil, fun _ h => by simp at h, fun x hx e => ⟨by rw [← h x hx]; exact e, by simp⟩, fun x hx e => .inr (by rw [h x hx]; exact e), fun _ h => by simp at h⟩
theorem Gone.step {K : Qm.W → Bool} {l : List Qm.W} {left : Lit → Bool} (h : Gone K l left) {x : Qm.W} (hx : x.length ≤ maxLen) (hl : left (.string x) = true) : Gone K (l ++ [x]) (fun z => left z && !z.sameKey (.string x)) := by
 obtain ⟨hk, hn⟩ := h.sub x hx hl
 have hs : ∀ y : Qm.W, (Lit.string y).sameKey (.string x) = decide (y = x) := fun y => by
  by_cases e : y = x <;> simp [Lit.sameKey, e]
 refine ⟨List.nodup_append.2 ⟨h.nodup, by simp, fun a ha b hb => ?_⟩, fun y hy => ?_, fun y hy e => ?_, fun y hy e => ?_, fun y hy => ?_⟩
 ·obtain rfl : b = x := by simpa using hb
  exact fun e => hn (e ▸ ha)
 ·rcases List.mem_append.1 hy with h1 | h1
  ·exact h.short y h1
  ·obtain rfl : y = x := by simpa using h1
   exact hx
 ·simp only [hs, Bool.and_eq_true, Bool.not_eq_true', decide_eq_false_iff_not] at e
  obtain ⟨k1, k2⟩ := h.sub y hy e.1
  exact ⟨k1, by simp [k2, e.2]⟩
 ·rcases h.all y hy e with h1 | h1
  ·exact .inl (List.mem_append.2 (.inl h1))
  ·by_cases ex : y = x
   ·exact .inl (by simp [ex])
   ·exact .inr (by simp [hs, h1, ex])
 ·rcases List.mem_append.1 hy with h1 | h1
  ·exact h.got y h1
  ·obtain rfl : y = x := by simpa using h1
   exact hk
theorem Gone.done {K : Qm.W → Bool} {l : List Qm.W} {left : Lit → Bool} (h : Gone K l left) (h0 : ∀ kl, left kl = false) {x : Qm.W} (hx : x.length ≤ maxLen) : x ∈ l ↔ K x = true :=
 ⟨h.got x, fun e => (h.all x hx e).resolve_right (by rw [h0]; simp)⟩
end Go.Proofs.YtedbhlgjcnnknaaGreatDoor

namespace Go.Proofs.YtedbhlgjcnnknaaGreatDoor
open Go.RowKit Qm
open Go.Maps (Keyed)
theorem wpList_next_ranges_sb {P : Program} (w : World) {ops : Array Oper} {rest : List Oper} {o : Oper} {a : Act} {Q : Exit → Act → World → Prop}
  (hg : o.guard = none) (it : Operand) (hop : o.op = Op.next it false) (k e : TypeId) (K : Keyed P k) (hk : P.underlying k = some .string) (he : P.underlying e = some .bool)
  (b r n : Nat) (D : DataW Unit) (left : Lit → Bool) (cnt : Nat) (hit : a.eval it = .pointer (some ⟨r, 0, none⟩)) (h : w.ranges P k (plainElem P e) b r n D left cnt)
  (hDone : cnt = 0 → (∀ kl, left kl = false) → wpList P ops Q rest (a.put o.dst (.tuple #[.bool false])) w)
  (hMore : ∀ (x : Qm.W) (c : Value) (w' : World) (cnt' : Nat), x.length ≤ maxLen → left (.string x) = true → w'.ranges P k (plainElem P e) b r n D (fun z => left z && !z.sameKey (.string x)) cnt' → cnt' < cnt →
   w.grownBy w' (some r) → w'.heap.size = w.heap.size → (Instr.entry (.pointer (some ⟨r, 0, none⟩))).run P w' = .ok (.tuple #[.string ⟨x.toArray⟩, c]) w' → wpList P ops Q rest (a.put o.dst (.tuple #[.bool true, .string ⟨x.toArray⟩, c])) w') :
  wpList P ops Q (o :: rest) a w :=
 wpList_next_ranges w hg it hop k K (plainElem P e) Value.string Value.bool (fun key kl hkey => by obtain ⟨x, rfl, _⟩ := WideMaps.string_of_keyOf hk hkey; exact ⟨x, rfl⟩)
  (fun v y hv => by
   unfold plainElem at hv
   rw [he] at hv
   cases v <;> simp at hv
   exact ⟨_, rfl⟩)
  b r n D left cnt hit h hDone (fun x c kl y w' cnt' hkey hlk hv hat hrg hlt hgr hsz hen => by
   obtain ⟨x', ex, rfl, hwx⟩ := WideMaps.string_of_keyOf hk hkey
   cases ex
   have e1 : (⟨x.data.toList.toArray⟩ : ByteArray) = x := by simp
   have hm := hMore x.data.toList (.bool c) w' cnt' (by rw [← Lib.size_eq]; exact hwx) hlk hrg hlt hgr hsz
   rw [e1] at hm
   exact hm hen)
end Go.Proofs.YtedbhlgjcnnknaaGreatDoor

namespace Go.Proofs.YtedbhlgjcnnknaaGreatDoor
open Go.RowKit Qm
open Go.Maps (Keyed)
structure Fz (w : World) (b r m : Nat) (D : DataW Unit) (K : Qm.W → Bool) (l : List Qm.W) (A : Option Addr) (c : Nat) (left : Lit → Bool) (cnt : Nat) (wr : World) : Prop where
 rg : wr.ranges Tryz.prog 9 (plainElem Tryz.prog 4) b r m D left cnt
 gone : Gone K l left
 own : wr.ownsRow (r + 1) 9 1 (.slice A l.length c) l.length (strs l)
 bel : Below w.heap.size w wr
 lb : w.heap.size ≤ b ∧ w.heap.size ≤ r
 cnt_ : l.length + cnt ≤ m
theorem strs_snoc (l : List Qm.W) (x : Qm.W) : strs (l ++ [x]) = strs l ++ [.string ⟨x.toArray⟩] := by simp [strs]
theorem Fz.step {w wr w1 w2 : World} {b r m : Nat} {D : DataW Unit} {K : Qm.W → Bool} {l : List Qm.W} {A A' : Option Addr} {c c' : Nat} {left : Lit → Bool} {cnt cnt' : Nat} (h : Fz w b r m D K l A c left cnt wr) {x : Qm.W} (hx : x.length ≤ maxLen) (hl : left (.string x) = true)
  (hrg : w1.ranges Tryz.prog 9 (plainElem Tryz.prog 4) b r m D (fun z => left z && !z.sameKey (.string x)) cnt') (hlt : cnt' < cnt) (hg : wr.grownBy w1 (some r)) (hsz : w1.heap.size = wr.heap.size)
  (hown : w2.ownsRow (r + 1) 9 1 (.slice A' (l.length + 1) c') (l.length + 1) (strs l ++ [.string ⟨x.toArray⟩])) (o : Obj) (hg2 : (w1.alloc o).grownBy w2 (Value.slice A l.length c).ownBlock) :
  Fz w b r m D K (l ++ [x]) A' c' (fun z => left z && !z.sameKey (.string x)) cnt' w2 := by
 have hr := h.rg.lt
 have hb := h.rg.owns.lt
 have hne := h.rg.ne
 have hob : ∀ i, (Value.slice A l.length c).ownBlock = some i → r + 1 ≤ i := fun i e => (h.own.lt i e).1
 have hbne : some b ≠ (Value.slice A l.length c).ownBlock := fun e => by
  rcases h.own.2 with ⟨e0, _⟩ | ⟨g, cap, cur, hv, hg1, hg2, _⟩
  ·rw [e0] at e; cases e
  ·rw [hv] at e
   simp only [Value.ownBlock] at e
   injection e with e
   subst e
   obtain ⟨es, clock, _, _, _, hbb, _⟩ := h.rg
   rw [hbb] at hg2
   cases hg2
 have hrne : some r ≠ (Value.slice A l.length c).ownBlock := fun e => by have := hob r e.symm; omega
 refine ⟨(hrg.alloc o).kept hg2 hbne hrne, h.gone.step hx hl, ?_, ?_, h.lb, ?_⟩
 ·rw [strs_snoc]; simpa using hown
 ·have b1 : Below w.heap.size wr w1 := below_of_grown hg (qlt h.bel.size (qr _)) fun i e => by injection e with e; have := h.lb.2; omega
  have b2 : Below w.heap.size w1 (w1.alloc o) := (Below.refl _ _).alloc (by have := h.bel.size; omega) _
  have b3 : Below w.heap.size (w1.alloc o) w2 := below_of_grown hg2 (by simp; have := h.bel.size; omega) fun i e => by have := hob i e; have := h.lb.2; omega
  exact ((h.bel.trans b1).trans b2).trans b3
 ·simp only [List.length_append, List.length_cons, List.length_nil]; have := h.cnt_; omega
theorem new1 (w : World) (x : Value) (t : TypeId) : ∀ j u, [x][j]? = some u → (w.alloc (.cells #[x] t)).cell? ((⟨w.heap.size, 0, none⟩ : Addr).add j) = some u := by
 intro j u hj
 have h := (Whole.new w w.heap.size t [x] rfl).cell j
 have hadd : (⟨w.heap.size, 0, none⟩ : Addr).add j = ⟨w.heap.size, j, none⟩ := by unfold Addr.add; split <;> simp_all
 rw [hadd, ← hj, ← h]
theorem RKids.each {w : World} {S : Nat → Prop} {A : Option Addr} {n : Nat} {ks : List Nd} (h : RKids w S A n ks) : ∀ y ∈ ks, ∃ x, RNd w S x y := by
 intro y hy
 obtain ⟨j, hj, e⟩ := List.mem_iff_getElem.1 hy
 obtain ⟨b, o, x, y', _, _, hy', hr, _⟩ := h.at_ (j := j) (by rw [← h.len]; exact hj)
 rw [qge hj, e] at hy'
 injection hy' with hy'
 subst hy'
 exact ⟨x, hr⟩
theorem RNd.flags_len {w : World} {S : Nat → Prop} : ∀ (y : Nd) (x : List Value), RNd w S x y → ∀ f ∈ flagsN y, f.length ≤ maxLen := by
 refine Nd.ind fun k a f no ks ih => ?_
 intro x h
 obtain ⟨A, n, c, rfl, _, _, _, _, h3, hK⟩ := h.open_
 have hL : ∀ (l : List Nd), (∀ y ∈ l, ∀ g ∈ flagsN y, g.length ≤ maxLen) → ∀ g ∈ flagsL l, g.length ≤ maxLen := by
  intro l
  induction l with
  | nil => intro _ g hg; simp [flagsL] at hg
  | cons k r ihr =>
   intro hh g hg
   simp only [flagsL, List.mem_append] at hg
   rcases hg with hg | hg
   ·exact hh k (List.mem_cons_self ..) g hg
   ·exact ihr (fun y hy => hh y (List.mem_cons_of_mem _ hy)) g hg
 intro g hg
 have hfn : flagsN (.mk k a f no ks) = (if k = 5 then [f] else []) ++ flagsL ks := rfl
 rw [hfn, List.mem_append] at hg
 rcases hg with hg | hg
 ·split at hg
  ·simp only [List.mem_singleton] at hg; subst hg; exact h3
  ·simp at hg
 ·exact hL ks (fun y hy => by obtain ⟨x, hx⟩ := hK.each y hy; exact ih y hy x hx) g hg
theorem sortStrings_nil (w : World) : Calls Tryz.prog 121 #[.slice none 0 0] w fun e w' => e = .returned (.tuple #[]) ∧ w' = w := by
 have hs1 := Tryz.slices_Sort_string_none none 0 w
 go_enter Tryz.func121, Tryz.ntmps121
 go_wp2_with (first | (go_at_call 140; refine hs1.mono ?_; rintro e w1 ⟨rfl, rfl⟩))
 go_end0
 exact ⟨rfl, rfl⟩
def RFlagsPost (w : World) (y : Nd) (e : Ending) (w' : World) : Prop :=
 ∃ A c, e = .returned (.slice A (Lib.compact (sortW (flagsN y))).length c) ∧ Row w' (fun i => w.heap.size ≤ i ∧ i < w'.heap.size) A (Lib.compact (sortW (flagsN y))).length (strs (Lib.compact (sortW (flagsN y)))) ∧ (Lib.compact (sortW (flagsN y))).length ≤ c ∧ c ≤ maxLen ∧ Below w.heap.size w w'
theorem str_info : (Tryz.prog.info? 9).map (fun i => (i.zero, i.size, i.bytes)) = some (some (.string ⟨#[]⟩), 1, 16) := by kernel_rfl
theorem rflags_any (y : Nd) (S : Nat → Prop) (x : List Value) (w : World) (hR : RNd w S x y) (hS : ∀ k, S k → k < w.heap.size) (hlen : (flagsN y).length ≤ 10000) :
  Calls Tryz.prog 91 #[.agg x.toArray] w (RFlagsPost w y) := by
 have Hfc := qh (fun BM BF b wx h1 h2 h3 => rflagsC_any y S x BM BF b (fun _ => false) 0 wx h1 h2 h3 (by omega))
 unfold RFlagsPost
 have HFL := qh (hR.flags_len)
 obtain ⟨fs, hfs⟩ : ∃ fs, flagsN y = fs := ⟨_, rfl⟩
 rw [hfs] at Hfc hlen HFL ⊢
 obtain ⟨k, a, f, no, ks⟩ := y
 obtain ⟨A, n, c, rfl, -⟩ := hR.open_
 have HR := qh hR; have HS := qh hS
 clear hR hS hfs
 obtain ⟨nm, op, ver, slot, fl, on⟩ := a
 unfold ndRow at Hfc HR ⊢
 have henter : ∀ (args : Array Value) (W : World), (callFunc 120 args).run Tryz.prog W = .ok (.enter 120 args) W := fun args W => by kernel_rfl
 obtain ⟨i0, hi, hz0, hz1, hz2⟩ : ∃ i0, Tryz.prog.info? 9 = some i0 ∧ i0.zero = some (.string ⟨#[]⟩) ∧ i0.size = 1 ∧ i0.bytes = 16 := by
  have h := str_info
  cases hh : Tryz.prog.info? 9 with
  | none => rw [hh] at h; simp at h
  | some i => rw [hh] at h; simp at h; exact ⟨i, rfl, h.1, h.2.1, h.2.2⟩
 have Hi := qh hi; have Hz0 := qh hz0; have Hz1 := qh hz1; have Hz2 := qh hz2
 clear hi hz0 hz1 hz2
 have hmm := @run_makeMap Tryz.prog
 have hb4 : Below w.heap.size w ((((w.alloc (.cells #[.int .i64 k, .string ⟨nm.toArray⟩, .int .i64 op, .int .i64 ver, .int .i64 slot, .string ⟨fl.toArray⟩, .bool on, .string ⟨f.toArray⟩, .bool no, .slice A n c] 99)).alloc (.map #[] 0)).alloc (.cells #[.map (some (w.heap.size + 1))] 150)).alloc (.cells #[.func (.func 120) #[] #[.pointer (some ⟨w.heap.size + 1 + 1, 0, none⟩), .pointer (some ⟨w.heap.size + 1 + 1 + 1, 0, none⟩)]] 170)) := (((Below.refl _ w).alloc (qr _) _).alloc (by simp) _).alloc (by simp; omega) _ |>.alloc (by simp; omega) _
 have hF0 : Fm (w.heap.size + 1 + 1) (w.heap.size + 1 + 1 + 1) (w.heap.size + 1) (fun _ => false) 0 ((((w.alloc (.cells #[.int .i64 k, .string ⟨nm.toArray⟩, .int .i64 op, .int .i64 ver, .int .i64 slot, .string ⟨fl.toArray⟩, .bool on, .string ⟨f.toArray⟩, .bool no, .slice A n c] 99)).alloc (.map #[] 0)).alloc (.cells #[.map (some (w.heap.size + 1))] 150)).alloc (.cells #[.func (.func 120) #[] #[.pointer (some ⟨w.heap.size + 1 + 1, 0, none⟩), .pointer (some ⟨w.heap.size + 1 + 1 + 1, 0, none⟩)]] 170)) := by
  refine ⟨(Whole.new _ _ _ [.map (some (w.heap.size + 1))] (by simp)).alloc _, Whole.new _ _ _ [_] (by simp), ?_, by omega, by omega⟩
  have hset := StrSet.made Tryz.prog (w.alloc (.cells #[.int .i64 k, .string ⟨nm.toArray⟩, .int .i64 op, .int .i64 ver, .int .i64 slot, .string ⟨fl.toArray⟩, .bool on, .string ⟨f.toArray⟩, .bool no, .slice A n c] 99))
  rw [show (w.alloc (.cells #[.int .i64 k, .string ⟨nm.toArray⟩, .int .i64 op, .int .i64 ver, .int .i64 slot, .string ⟨fl.toArray⟩, .bool on, .string ⟨f.toArray⟩, .bool no, .slice A n c] 99)).heap.size = w.heap.size + 1 by simp] at hset
  exact (hset.kept (World.grownBy_alloc _ _ none) (by simp)).kept (World.grownBy_alloc _ _ none) (by simp)
 have Hcall := qh (Hfc.out _ _ _ _ (HR.out.under hb4 HS.out) (fun q hq => ⟨ql (HS.out q hq) hb4.size, by have := HS.out q hq; omega⟩) hF0)
 have HB4 := qh hb4
 clear hb4 hF0 Hfc HR
 go_enter Tryz.func91, Tryz.ntmps91
 go_wp2_with (first | (go_at_call 120; refine Hcall.out.mono ?_; rintro e w1 ⟨K, m, rfl, hF1, hf1, hk1, hm1⟩; refine Hid.out ?_))
 refine qh ?_
 have HB1 : Hid (Below w.heap.size w w1) := qh (HB4.out.trans (hf1.below HB4.out.size fun i e => by omega))
 have HK1 := qh hk1
 obtain ⟨D, hown, hsz, hD⟩ := hF1.set
 have HO := qh hown
 have HG : Hid (Gone K [] (Maps.has D)) := qh (Gone.start fun x hx => (hD x hx).1)
 have HZ := qh hsz
 have HM1 := qh hm1
 have m0 := hF1.mp.cell 0
 have m1 := hF1.mp.lt
 simp only [qgz] at m0
 clear Hcall HB4 hF1 hf1 hk1 hm1 hown hsz hD hmm henter
 go_wp2_with (first
  | (at_range; refine wpList_range_own _ rfl _ 150 rfl 9 4 (Maps.string_keyed Tryz.underlying9) Tryz.underlying150 _ (w.heap.size + 1) m D rfl HO.out ?_; intro w0 hrg0 hg0 hs0)
  | go_in)
 go_frame
 have HRG := qh hrg0
 have HB0 : Hid (Below w.heap.size w w0) := qh (HB1.out.trans (below_of_grown hg0 HB1.out.size fun i e => by cases e))
 clear hrg0 hg0 hs0 m0 m1
 go_loopw [5, 6] (fun lv _ wr => ∃ (l : List Qm.W) (A' : Option Addr) (c' : Nat) (left : Lit → Bool) (cnt : Nat), Hid (Fz w (w.heap.size + 1) w1.heap.size m D K l A' c' left cnt wr) ∧ lv = .slice A' l.length c') (fun _ _ wr => wr.rangeLeft (w.heap.size + 1) w1.heap.size)
 case atStart =>
  refine ⟨[], none, 0, _, _, qh ⟨HRG.out, HG.out, World.ownsRow_nil _ _ _ _, HB0.out, ⟨by omega, HB1.out.size⟩, ?_⟩, rfl⟩
  rw [HZ.out]; simp
 case round =>
  obtain ⟨l, A', c', left, cnt, HF, rfl⟩ := hrel
  have hrg := HF.out.rg
  have hrlt := hrg.lt
  go_wp2_with (first
   | (at_next; refine wpList_next_ranges_sb _ rfl _ rfl 9 4 (Maps.string_keyed Tryz.underlying9) Tryz.underlying9 Tryz.underlying4 (w.heap.size + 1) w1.heap.size m D left cnt rfl hrg ?_ ?_)
   | go_in)
  ·intro hc0 hl0
   have hdone : Hid (∀ x : Qm.W, x.length ≤ maxLen → (x ∈ l ↔ K x = true)) := qh fun x hx => HF.out.gone.done hl0 hx
   have hcl : Hid (l.length ≤ m) := qh (by have := HF.out.cnt_; omega)
   have hsame : Hid (Lib.compact (sortW fs) = sortW l) := qh (flags_same HF.out.gone.nodup fun x => ⟨fun h => by
    have h1 := HF.out.gone.got x h
    rw [HK1.out] at h1
    simpa using h1, fun h => (hdone.out x (HFL.out x h)).2 (by rw [HK1.out]; simpa using h)⟩).symm
   have hsl : (sortW l).length = l.length := by unfold sortW; rw [List.length_mergeSort]
   clear hrg
   rcases HF.out.own.2 with ⟨hv, hn0⟩ | ⟨g, cap, cur, hv, hg1, hg2, hg3⟩
   ·injection hv with e1 e2 e3
    subst e1 e3
    obtain rfl : l = [] := List.eq_nil_of_length_eq_zero e2
    clear hn0 e2
    have hs1 := sortStrings_nil wr
    simp only [List.length_nil]
    go_wp2_with (first | (go_at_call 121; refine hs1.mono ?_; rintro e w5 ⟨rfl, rfl⟩))
    go_ret
    refine ⟨none, 0, ?_, ?_, ?_, Nat.zero_le _, ?_⟩
    ·rw [hsame.out, hsl]; rfl
    ·have h0 : sortW ([] : List Qm.W) = [] := List.eq_nil_of_length_eq_zero hsl
     rw [hsame.out, h0]; exact Row.nil_
    ·rw [hsame.out, hsl]; exact qr _
    ·exact HF.out.bel
   ·injection hv with e1 e2 e3
    subst e1 e3
    clear hg2 hg3
    have Hso := qh (sortStrings_any (w1.heap.size + 1) g l.length c' l wr HF.out.own (by have := hcl.out; have := HM1.out; simp at this; omega))
    go_wp2_with (first | (go_at_call 121; refine Hso.out.mono ?_; rintro e w5 ⟨rfl, hown5, hf5⟩; refine Hid.out ?_))
    refine qh ?_
    go_wp2
    go_ret
    obtain ⟨_, _, he, h1, h2, _⟩ := own_form hown5
    injection he with _ _ he
    subst he
    have hb5 : Below w.heap.size w w5 := HF.out.bel.trans (hf5.below HF.out.bel.size fun i e => by have := HF.out.lb.2; omega)
    refine ⟨some ⟨g, 0, none⟩, c', ?_, ?_, ?_, h2, hb5⟩
    ·rw [hsame.out, hsl]; rfl
    ·rw [hsame.out, hsl]; exact (own_row hown5).more fun i hi => by have := HF.out.lb.2; omega
    ·rw [hsame.out, hsl]; exact h1
  ·intro x cv w2 cnt2 hx hlx hrg2 hlt2 hg2 hs2 hen
   have HO2 : Hid (w2.ownsRow (w1.heap.size + 1) 9 1 (.slice A' l.length c') l.length (strs l)) := qh (HF.out.own.kept hg2 (by
    by_cases h : (Value.slice A' l.length c').ownBlock = some w1.heap.size
    ·have := (HF.out.own.lt _ h).1; omega
    ·exact .inr h))
   have hl10 : l.length + 1 ≤ 100000 := by have := HF.out.cnt_; have := HM1.out; simp at this; omega
   have HRG2 := qh hrg2; have HLX := qh hlx; have HG2 := qh hg2; have HS2 := qh hs2; have HX := qh hx
   have hw2 : w1.heap.size + 1 ≤ w2.heap.size := by omega
   clear hrg2 hrg hg2 hs2 hlx hx
   go_wp2_with (first
    | (at_builtin; refine wpList_append_own_at _ rfl (.tmp 18) (.tmp 20) 96 rfl (w1.heap.size + 1) 9 i0 (.string ⟨#[]⟩) 1 16 Tryz.underlying96 Hi.out Hz0.out Hz1.out Hz2.out rfl (by decide) (.slice A' l.length c') l.length (strs l) rfl (HO2.out.kept (World.grownBy_alloc _ _ none) (by cases hv : (Value.slice A' l.length c').ownBlock <;> simp)) ⟨w2.heap.size, 0, none⟩ 1 1 [.string ⟨x.toArray⟩] rfl rfl (new1 _ _ _) (by simp [Value.oneCell']) (by unfold maxLen; omega) (by omega) (by simp; omega) ?_)
    | go_in)
   intro v' w3 hown3 hg3 _ _
   obtain ⟨A3, c3, rfl, _⟩ := own_formK hown3
   have HF3 := qh (HF.out.step HX.out HLX.out HRG2.out hlt2 HG2.out HS2.out hown3 _ hg3)
   clear hown3 hg3
   go_wp2_with fail
   go_roundw
   case rel => exact ⟨l ++ [x], A3, c3, _, cnt2, HF3, by simp⟩
   case measure => rw [HF3.out.rg.left_eq, HF.out.rg.left_eq]; exact hlt2
end Go.Proofs.YtedbhlgjcnnknaaGreatDoor

namespace Qm
open Go
structure Fr where
 k : Int
 f : W
 no : Bool
 ys : List Nd
end Qm

namespace Go.Proofs.YtedbhlgjcnnknaaGreatDoor
open Go.RowKit Qm
abbrev Hd := Option Addr × Nat
def obs (A : Option Addr) (hs : List Hd) : List Nat := (A :: hs.map (·.1)).filterMap fun a => a.map (·.block)
def frow (g : Fr) (h : Hd) : List Value := ndRow g.k At.zero g.f g.no h.1 g.ys.length h.2
def frows : List Fr → List Hd → List Value
 | g :: gs, h :: hs => frows gs hs ++ frow g h
 | _, _ => []
def KidOk (wx : World) (B : Nat) (F : Nat → Prop) (g : Fr) (h : Hd) : Prop :=
 ∃ cs : List (List Value), cs.length = g.ys.length ∧ wx.ownsRow B 99 10 (.slice h.1 g.ys.length h.2) g.ys.length cs.flatten ∧
  (∀ (i : Nat) (x : List Value) (y : Nd), cs[i]? = some x → g.ys[i]? = some y → RNd wx F x y) ∧ g.f.length ≤ maxLen
def KidsOk (wx : World) (B : Nat) (F : Nat → Prop) : List Fr → List Hd → Prop
 | [], [] => True
 | g :: gs, h :: hs => KidOk wx B F g h ∧ KidsOk wx B F gs hs
 | _, _ => False
def Fre (wx : World) (B : Nat) (A : Option Addr) (hs : List Hd) (i : Nat) : Prop := B ≤ i ∧ i < wx.heap.size ∧ i ∉ obs A hs
structure Op (B : Nat) (fs : List Fr) (hs : List Hd) (A : Option Addr) (c : Nat) (wx : World) : Prop where
 own : wx.ownsRow B 99 10 (.slice A fs.length c) fs.length (frows fs hs)
 kids : KidsOk wx B (Fre wx B A hs) fs hs
 nodup : (obs A hs).Nodup
section
variable {wx wy : World} {B : Nat} {F F' : Nat → Prop} {g : Fr} {gs fs : List Fr} {h : Hd} {hs : List Hd} {A : Option Addr} {c : Nat}
end
end Go.Proofs.YtedbhlgjcnnknaaGreatDoor

namespace Go.Proofs.YtedbhlgjcnnknaaGreatDoor
open Go.RowKit Qm
section
variable {B BO BW c : Nat} {fs : List Fr} {hs : List Hd} {A : Option Addr} {wh : Value} {w w' : World}
end
structure Aft (B BO BW : Nat) (g : Fr) (gs : List Fr) (hd : Hd) (hs : List Hd) (b c : Nat) (wh : Value) (w wx w8 : World) : Prop where
 op : Op B (g :: gs) (hd :: hs) (some ⟨b, 0, none⟩) c wx
 lt : b < w8.heap.size
 cell : w8.cell? ⟨b, gs.length * 10 + 9, none⟩ = some (.slice hd.1 g.ys.length hd.2)
 free : w8.frozen? ⟨b, gs.length * 10 + 9, none⟩ = false
 far : Far (fun i => B ≤ i) w w8
end Go.Proofs.YtedbhlgjcnnknaaGreatDoor

namespace Go.Proofs.YtedbhlgjcnnknaaGreatDoor
open Go.RowKit Qm
end Go.Proofs.YtedbhlgjcnnknaaGreatDoor

namespace Go.Proofs.YtedbhlgjcnnknaaGreatDoor
open Go.RowKit Qm Go.ChangeMaps
end Go.Proofs.YtedbhlgjcnnknaaGreatDoor

namespace Go.Proofs.YtedbhlgjcnnknaaGreatDoor
open Go.RowKit Qm
end Go.Proofs.YtedbhlgjcnnknaaGreatDoor

namespace Go.Proofs.YtedbhlgjcnnknaaGreatDoor
open Go.RowKit Qm
section
variable {w wx : World} {op ver slot : Int} {f : ByteArray} {on : Bool}
end
end Go.Proofs.YtedbhlgjcnnknaaGreatDoor

namespace Go.Proofs.YtedbhlgjcnnknaaGreatDoor
open Go.RowKit Qm
structure Rw (w : World) (ws : List Qm.W) (wx : World) : Prop where
 res : Whole wx w.heap.size 99 [.int .i64 0, .string ⟨#[]⟩, .int .i64 0, .int .i64 0, .int .i64 0, .string ⟨#[]⟩, .bool false, .string ⟨#[]⟩, .bool false, .slice none 0 0]
 words : Whole wx (w.heap.size + 1 + 1 + 1) 9 (strs ws)
 bel : Below w.heap.size w wx
 sz : w.heap.size + 1 + 1 + 1 + 1 ≤ wx.heap.size
section
variable {w wx wy : World} {ws : List Qm.W}
end
structure Oaf (BO b8 m nb : Nat) (v : Value) (row : List Value) (w8 : World) : Prop where
 cell : ∀ i, i < 10 → w8.cell? ⟨b8, m * 10 + i, none⟩ = ([.int .i64 0, .string ⟨#[]⟩, .int .i64 0, .int .i64 0, .int .i64 0, .string ⟨#[]⟩, .bool false, .string ⟨#[]⟩, .bool false, .slice none 0 0] : List Value)[i]? ∧ w8.frozen? ⟨b8, m * 10 + i, none⟩ = false
 lt : b8 < w8.heap.size
 n : Whole w8 nb 99 row
 o : Whole w8 BO 97 [v]
 ne : b8 ≠ BO
end Go.Proofs.YtedbhlgjcnnknaaGreatDoor

namespace Go.Proofs.YtedbhlgjcnnknaaGreatDoor
open Go.RowKit Qm
def loopIn : Code → Option Code
 | .loop b => some b
 | .seq a b => match loopIn a with | some x => some x | none => loopIn b
 | .block _ c => loopIn c
 | .cond _ a b => match loopIn a with | some x => some x | none => loopIn b
 | .scope c => loopIn c
 | _ => none
def roundOf (f : Func) : Code := match f.body with | some c => (match loopIn c with | some b => b | none => .skip) | none => .skip
end Go.Proofs.YtedbhlgjcnnknaaGreatDoor

namespace Go.Proofs.YtedbhlgjcnnknaaGreatDoor
open Go.RowKit Qm
def ctFrame (w : World) (A : Option Addr) (n c : Nat) (u2 u3 u4 u5 u6 u7 u8 u10 u11 u19 u20 u21 u22 u23 u24 u25 u26 u27 u28 u29 u30 u31 u32 u33 u34 u35 u36 u37 u38 u39 u40 u41 u42 u43 u44 u45 u46 u47 u48 u49 u50 u51 u52 u53 u54 u55 u56 u57 u58 u59 u60 u61 u62 u63 u64 u65 u66 u67 u68 u69 u70 u71 u72 u73 u74 u75 u76 u77 u78 u79 u80 u81 u82 u83 u84 u85 u86 u87 u88 u89 u90 u91 u92 u93 u94 u95 u96 u97 u98 u99 u100 u101 u102 u103 u104 u105 u106 u107 u108 u109 u110 u111 u112 u113 u114 u115 u116 u117 u118 u119 u120 u121 u122 u123 u124 u125 u126 u127 u128 u129 u130 u131 u132 u133 u134 u135 u136 u137 u138 u139 : Value) : Act := { tmps := #[Value.agg #[Value.slice A n c], Value.pointer (some { block := w.heap.size, off := 0 }), u2, u3, u4, u5, u6, u7, u8, undef, u10, u11, Value.pointer (some { block := w.heap.size, off := 0 }), Value.slice A n c, Value.int IntKind.i64 ↑n, Value.bool false, Value.pointer (some { block := w.heap.size, off := 0 }), Value.slice A n c, Value.int IntKind.i64 ↑n, u19, u20, u21, u22, u23, u24, u25, u26, u27, u28, u29, u30, u31, u32, u33, u34, u35, u36, u37, u38, u39, u40, u41, u42, u43, u44, u45, u46, u47, u48, u49, u50, u51, u52, u53, u54, u55, u56, u57, u58, u59, u60, u61, u62, u63, u64, u65, u66, u67, u68, u69, u70, u71, u72, u73, u74, u75, u76, u77, u78, u79, u80, u81, u82, u83, u84, u85, u86, u87, u88, u89, u90, u91, u92, u93, u94, u95, u96, u97, u98, u99, u100, u101, u102, u103, u104, u105, u106, u107, u108, u109, u110, u111, u112, u113, u114, u115, u116, u117, u118, u119, u120, u121, u122, u123, u124, u125, u126, u127, u128, u129, u130, u131, u132, u133, u134, u135, u136, u137, u138, u139], defers := [] }
def ctJ (w : World) (A : Option Addr) (n c : Nat) (ps : List Pk) (J : Nat → Act → World → Prop) : Prop := ∀ (k : Nat) (a' : Act) (w' : World), (∃ u2 u3 u4 u5 u6 u7 u8 u10 u11 u19 u20 u21 u22 u23 u24 u25 u26 u27 u28 u29 u30 u31 u32 u33 u34 u35 u36 u37 u38 u39 u40 u41 u42 u43 u44 u45 u46 u47 u48 u49 u50 u51 u52 u53 u54 u55 u56 u57 u58 u59 u60 u61 u62 u63 u64 u65 u66 u67 u68 u69 u70 u71 u72 u73 u74 u75 u76 u77 u78 u79 u80 u81 u82 u83 u84 u85 u86 u87 u88 u89 u90 u91 u92 u93 u94 u95 u96 u97 u98 u99 u100 u101 u102 u103 u104 u105 u106 u107 u108 u109 u110 u111 u112 u113 u114 u115 u116 u117 u118 u119 u120 u121 u122 u123 u124 u125 u126 u127 u128 u129 u130 u131 u132 u133 u134 u135 u136 u137 u138 u139 : Value, (∃ j m : Nat, Hid (j + k = n) ∧ u19 = Value.int IntKind.i64 ↑j ∧ u3 = Value.int IntKind.i64 ↑m ∧ n + m ≤ 14 ∧ Hid (ckT none n ps = ckT (prevOf ps j) (n + m) (ps.drop j)) ∧ Hid (Tx w A n c w')) ∧ a' = ctFrame w A n c u2 u3 u4 u5 u6 u7 u8 u10 u11 u19 u20 u21 u22 u23 u24 u25 u26 u27 u28 u29 u30 u31 u32 u33 u34 u35 u36 u37 u38 u39 u40 u41 u42 u43 u44 u45 u46 u47 u48 u49 u50 u51 u52 u53 u54 u55 u56 u57 u58 u59 u60 u61 u62 u63 u64 u65 u66 u67 u68 u69 u70 u71 u72 u73 u74 u75 u76 u77 u78 u79 u80 u81 u82 u83 u84 u85 u86 u87 u88 u89 u90 u91 u92 u93 u94 u95 u96 u97 u98 u99 u100 u101 u102 u103 u104 u105 u106 u107 u108 u109 u110 u111 u112 u113 u114 u115 u116 u117 u118 u119 u120 u121 u122 u123 u124 u125 u126 u127 u128 u129 u130 u131 u132 u133 u134 u135 u136 u137 u138 u139) → J k a' w'
theorem badPk_lt {u p : Pk} (h : p.nm < u.nm) : badPk (some u) p = true := by
 have h1 : ¬ u.nm < p.nm := List.not_lt.2 (List.le_of_lt h)
 have h2 : u.nm ≠ p.nm := fun e => List.lt_irrefl _ (e ▸ h)
 simp [badPk, beforeP, h1, h2]
theorem badPk_eq {u p : Pk} (h : p.nm = u.nm) : badPk (some u) p = decide (p.ver ≤ u.ver) := by
 have h1 : ¬ u.nm < p.nm := by rw [h]; exact List.lt_irrefl _
 have e : decide (u.nm = p.nm) = true := qdt h.symm
 simp only [badPk, beforeP, e, qdf h1, Bool.false_or, Bool.true_and]
 by_cases hv : u.ver < p.ver
 ·rw [qdt hv, qdf (by omega)]; rfl
 ·rw [qdf hv, qdt (by omega)]; rfl
theorem badPk_gt {u p : Pk} (h1 : ¬ p.nm < u.nm) (h2 : p.nm ≠ u.nm) : badPk (some u) p = false := by
 have h : u.nm < p.nm := by
  refine Classical.byContradiction fun hn => h2 (List.le_antisymm (List.not_lt.1 hn) (List.not_lt.1 h1))
 simp [badPk, beforeP, h]
end Go.Proofs.YtedbhlgjcnnknaaGreatDoor
