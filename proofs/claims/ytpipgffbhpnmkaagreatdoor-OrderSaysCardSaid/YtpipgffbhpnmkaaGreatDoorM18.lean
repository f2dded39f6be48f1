/- Parts of the proof: walks and plain laws, side by side. -/
import Derived.Test.YtpipgffbhpnmkaaGreatDoorM17
import Derived.Deep.OwnRows
import Derived.BigRegion
import Derived.Test.YtpipgffbhpnmkaaGreatDoorM3
import Derived.WalkSpells
import Derived.Test.YtpipgffbhpnmkaaGreatDoorProg
import Derived.Test.YtpipgffbhpnmkaaGreatDoorM13
set_option linter.unusedVariables false
set_option linter.unusedSimpArgs false
set_option linter.unusedSectionVars false
namespace Go.Proofs.YtpipgffbhpnmkaaGreatDoor
/- order.reach, walked. -/
section
open Go.RowKit Qm

theorem range_map_set {α : Type} (f : Nat → α) (n i : Nat) (v : α) : ((List.range n).map f).set i v = (List.range n).map fun r => if r = i then v else f r := by
 apply List.ext_getElem (by simp)
 intro k h1 h2
 simp only [List.length_set, List.length_map, List.length_range] at h1
 rw [List.getElem_set]
 simp only [List.getElem_map, List.getElem_range]
 by_cases h : i = k
 ·rw [if_pos h, if_pos h.symm]
 ·rw [if_neg h, if_neg fun e => h e.symm]
structure Mt (w : World) (b n d : Nat) (M : Nat → Nat → Bool) : Prop where
 o : Whole w b 31 ((List.range n).map fun i => if i < d then .slice (some ⟨b + 1 + i, 0, none⟩) n n else .slice none 0 0)
 r : ∀ i, i < d → Whole w (b + 1 + i) 4 ((List.range n).map fun j => .bool (M i j))
section
variable {w : World} {b n d : Nat} {M : Nat → Nat → Bool}
theorem Mt.hdr (h : Mt w b n d M) {i : Nat} (hi : i < d) (hn : i < n) : w.cell? ⟨b, i, none⟩ = some (.slice (some ⟨b + 1 + i, 0, none⟩) n n) := by
 rw [h.o.cell i, List.getElem?_map, List.getElem?_range hn]
 simp only [Option.map_some, if_pos hi]
theorem Mt.nilRow (h : Mt w b n d M) {i : Nat} (hi : ¬ i < d) (hn : i < n) : w.cell? ⟨b, i, none⟩ = some (.slice none 0 0) := by
 rw [h.o.cell i, List.getElem?_map, List.getElem?_range hn]
 simp only [Option.map_some, if_neg hi]
theorem Mt.cell (h : Mt w b n d M) {i j : Nat} (hi : i < d) (hj : j < n) : w.cell? ⟨b + 1 + i, j, none⟩ = some (.bool (M i j)) := by
 rw [(h.r i hi).cell j, List.getElem?_map, List.getElem?_range hj]; rfl
theorem Mt.free (h : Mt w b n d M) {i : Nat} (hi : i < d) (j : Nat) : w.frozen? ⟨b + 1 + i, j, none⟩ = false := (h.r i hi).free j
theorem Mt.ofree (h : Mt w b n d M) (j : Nat) : w.frozen? ⟨b, j, none⟩ = false := h.o.free j
theorem Mt.set (h : Mt w b n d M) {i j : Nat} (hi : i < d) (hj : j < n) (v : Bool) : Mt (w.setCell ⟨b + 1 + i, j, none⟩ (.bool v)) b n d (fun a c => if a = i ∧ c = j then v else M a c) := by
 refine ⟨h.o.far (by show b ≠ b + 1 + i; omega) _, fun a ha => ?_⟩
 by_cases e : a = i
 ·subst e
  have := (h.r a ha).set_ j (.bool v)
  rw [range_map_set] at this
  have he : (fun r => if r = j then Value.bool v else .bool (M a r)) = fun r => Value.bool (if a = a ∧ r = j then v else M a r) := by
   funext r
   by_cases hr : r = j
   ·rw [if_pos hr, if_pos ⟨rfl, hr⟩]
   ·rw [if_neg hr, if_neg fun e => hr e.2]
  rw [he] at this
  exact this
 ·have := (h.r a ha).far (p := ⟨b + 1 + i, j, none⟩) (by show b + 1 + a ≠ b + 1 + i; omega) (.bool v)
  have he : (fun r => Value.bool (M a r)) = fun r => Value.bool (if a = i ∧ r = j then v else M a r) := by
   funext r; rw [if_neg fun h => e h.1]
  rw [he] at this
  exact this
theorem Mt.congr (h : Mt w b n d M) {M' : Nat → Nat → Bool} (e : ∀ i j, i < d → j < n → M i j = M' i j) : Mt w b n d M' := by
 refine ⟨h.o, fun i hi => ?_⟩
 have := h.r i hi
 have he : (List.range n).map (fun j => Value.bool (M i j)) = (List.range n).map fun j => .bool (M' i j) := List.map_congr_left fun j hj => by rw [e i j hi (List.mem_range.1 hj)]
 rw [he] at this; exact this
theorem Mt.drew (h : Mt w b n d M) : Mt w.drew b n d M := ⟨h.o.drew, fun i hi => (h.r i hi).drew⟩
theorem Mt.row (h : Mt w b n d M) (hd : d < n) (hsz : w.heap.size = b + 1 + d) : Mt ((w.setCell ⟨b, d, none⟩ (.slice (some ⟨b + 1 + d, 0, none⟩) n n)).alloc (.cells ((List.range n).map fun _ => Value.bool false).toArray 4)) b n (d + 1) (fun a c => if a = d then false else M a c) := by
 have hs2 : (w.setCell ⟨b, d, none⟩ (.slice (some ⟨b + 1 + d, 0, none⟩) n n)).heap.size = b + 1 + d := by simp [World.setCell, hsz]
 refine ⟨?_, fun i hi => ?_⟩
 ·have := (h.o.set_ d (.slice (some ⟨b + 1 + d, 0, none⟩) n n)).alloc (.cells ((List.range n).map fun _ => Value.bool false).toArray 4)
  rw [range_map_set] at this
  have he : (fun r => if r = d then Value.slice (some ⟨b + 1 + d, 0, none⟩) n n else if r < d then .slice (some ⟨b + 1 + r, 0, none⟩) n n else .slice none 0 0) = fun r => if r < d + 1 then Value.slice (some ⟨b + 1 + r, 0, none⟩) n n else .slice none 0 0 := by
   funext r
   by_cases hr : r = d
   ·subst hr; rw [if_pos rfl, if_pos (by omega)]
   ·rw [if_neg hr]
    by_cases h2 : r < d
    ·rw [if_pos h2, if_pos (by omega)]
    ·rw [if_neg h2, if_neg (by omega)]
  rw [he] at this
  exact this
 ·by_cases e : i = d
  ·subst e
   have := Whole.new (w.setCell ⟨b, i, none⟩ (.slice (some ⟨b + 1 + i, 0, none⟩) n n)) (b + 1 + i) 4 ((List.range n).map fun _ => Value.bool false) hs2.symm
   have he : (fun j : Nat => Value.bool (if i = i then false else M i j)) = fun _ => Value.bool false := by funext r; rw [if_pos rfl]
   rw [he]
   exact this
  ·have := ((h.r i (by omega)).far (p := ⟨b, d, none⟩) (by show b + 1 + i ≠ b; omega) (.slice (some ⟨b + 1 + d, 0, none⟩) n n)).alloc (.cells ((List.range n).map fun _ => Value.bool false).toArray 4)
   have he : (fun j => Value.bool (M i j)) = fun j => Value.bool (if i = d then false else M i j) := by funext r; rw [if_neg e]
   rw [he] at this
   exact this
end
def ReachPost (w : World) (n : Nat) (R : Nat → Nat → Bool) (e : Ending) (w' : World) : Prop :=
 ∃ b, e = .returned (.slice (some ⟨b, 0, none⟩) n n) ∧ Mt w' b n n R ∧ w.heap.size ≤ b ∧ b + 1 + n ≤ w'.heap.size ∧ Below w.heap.size w w'
theorem made_list (z : Value) (n : Nat) : madeCells #[z] n = ((List.range n).map fun _ => z).toArray := by
 apply Array.ext'
 rw [toList_madeCells_one]
 apply List.ext_getElem (by simp)
 intro k h1 h2
 simp
theorem bool_infoO : (Tryz.prog.info? 4).map (fun i => (i.zero, i.size, i.bytes)) = some (some (.bool false), 1, 1) := by kernel_rfl
theorem bools_infoO : (Tryz.prog.info? 31).map (fun i => (i.zero, i.size, i.bytes)) = some (some (.slice none 0 0), 1, 24) := by kernel_rfl
theorem make_rows (n : Nat) (hn : n ≤ 100000) (w : World) : (Instr.makeSlice 75 (.int .i64 (n : Int)) (.int .i64 (n : Int))).run Tryz.prog w = .ok (.slice (some ⟨w.heap.size, 0, none⟩) n n) (w.alloc (.cells ((List.range n).map fun _ => Value.slice none 0 0).toArray 31)) := by
 rw [run_make_row' 75 31 (.slice none 0 0) 24 Tryz.underlying75 bools_infoO rfl .i64 .i64 n (by omega) (by omega) w, made_list]
theorem make_bools (n : Nat) (hn : n ≤ 100000) (w : World) : (Instr.makeSlice 31 (.int .i64 (n : Int)) (.int .i64 (n : Int))).run Tryz.prog w = .ok (.slice (some ⟨w.heap.size, 0, none⟩) n n) (w.alloc (.cells ((List.range n).map fun _ => Value.bool false).toArray 4)) := by
 rw [run_make_row' 31 4 (.bool false) 1 Tryz.underlying31 bool_infoO rfl .i64 .i64 n (by omega) (by omega) w, made_list]
def stepM (ls : Nat → List Nat) (i k : Nat) (a c : Nat) : Bool := if a < i then (ls a).contains c else if a = i then ((ls i).take k).contains c else false
theorem stepM_next {ls : Nat → List Nat} {i k x : Nat} (h : (ls i)[k]? = some x) (a c : Nat) : (if a = i ∧ c = x then true else stepM ls i k a c) = stepM ls i (k + 1) a c := by
 obtain ⟨hk, rfl⟩ := List.getElem?_eq_some_iff.1 h
 unfold stepM
 by_cases h1 : a < i
 ·rw [if_pos h1, if_pos h1, if_neg (fun e => by omega)]
 ·rw [if_neg h1, if_neg h1]
  by_cases h2 : a = i
  ·subst h2
   rw [if_pos rfl, if_pos rfl, List.take_succ_eq_append_getElem hk]
   by_cases h3 : c = (ls a)[k]
   ·rw [if_pos ⟨rfl, h3⟩, h3]; symm; rw [List.contains_iff_mem, ← List.take_succ_eq_append_getElem hk]; exact List.mem_take_iff_getElem.2 ⟨k, by omega, rfl⟩
   ·rw [if_neg (fun e => h3 e.2), Bool.eq_iff_iff, List.contains_iff_mem, List.contains_iff_mem, List.mem_append, List.mem_singleton]
    exact ⟨.inl, fun g => g.resolve_right h3⟩
  ·rw [if_neg h2, if_neg h2, if_neg (fun e => h2 e.1)]
theorem stepM_row {ls : Nat → List Nat} {i n : Nat} (h : (ls i).length ≤ n) (a c : Nat) : stepM ls i n a c = stepM ls (i + 1) 0 a c := by
 unfold stepM
 by_cases h1 : a < i
 ·rw [if_pos h1, if_pos (by omega)]
 ·rw [if_neg h1]
  by_cases h2 : a = i
  ·subst h2; rw [if_pos rfl, if_pos (by omega), List.take_of_length_le h]
  ·rw [if_neg h2, if_neg (by omega)]
   by_cases h3 : a = i + 1
   ·rw [if_pos h3]; simp
   ·rw [if_neg h3]
theorem stepM_zero {ls : Nat → List Nat} {i : Nat} (a c : Nat) : (if a = i then false else stepM ls i 0 a c) = stepM ls i 0 a c := by
 unfold stepM
 by_cases h : a = i
 ·subst h; simp
 ·rw [if_neg h]
def midM (e : Nat → Nat → Bool) (k i j : Nat) (a c : Nat) : Bool := if a < i ∨ (a = i ∧ c < j) then RB e (k + 1) a c else RB e k a c
theorem midM_next {e : Nat → Nat → Bool} {k i j : Nat} (a c : Nat) : (if a = i ∧ c = j then RB e (k + 1) i j else midM e k i j a c) = midM e k i (j + 1) a c := by
 unfold midM
 by_cases h : a = i ∧ c = j
 ·rw [if_pos h, if_pos (.inr ⟨h.1, by omega⟩), h.1, h.2]
 ·rw [if_neg h]
  by_cases h2 : a < i ∨ (a = i ∧ c < j)
  ·rw [if_pos h2, if_pos (by omega)]
  ·rw [if_neg h2, if_neg (by omega)]
theorem midM_row {e : Nat → Nat → Bool} {k i n : Nat} (a c : Nat) (hc : c < n) : midM e k i n a c = midM e k (i + 1) 0 a c := by
 unfold midM
 by_cases h : a < i ∨ (a = i ∧ c < n)
 ·rw [if_pos h, if_pos (by omega)]
 ·rw [if_neg h, if_neg (by omega)]
theorem midM_end {e : Nat → Nat → Bool} {k n : Nat} (a c : Nat) (ha : a < n) : midM e k n 0 a c = midM e (k + 1) 0 0 a c := by
 unfold midM
 rw [if_pos (.inl ha), if_neg (by omega)]
theorem midM_at {e : Nat → Nat → Bool} {k i j : Nat} : midM e k i j i j = RB e k i j ∧ midM e k i j i k = RB e k i k ∧ midM e k i j k j = RB e k k j := by
 unfold midM
 refine ⟨by rw [if_neg (by omega)], ?_, ?_⟩
 ·by_cases h : i < i ∨ (i = i ∧ k < j)
  ·rw [if_pos h, RB_row]
  ·rw [if_neg h]
 ·by_cases h : k < i ∨ (k = i ∧ j < j)
  ·rw [if_pos h, RB_col]
  ·rw [if_neg h]
set_option maxRecDepth 100000 in
set_option maxHeartbeats 6400000 in
theorem oreach_any (e : Nat → Nat → Bool) (ls : Nat → List Nat) (n : Nat) (hn : n ≤ 100000) (hls : ∀ i, i < n → ∀ k ∈ ls i, k < n) (hlen : ∀ i, i < n → (ls i).length ≤ n) (he : ∀ i c, i < n → c < n → e i c = (ls i).contains c) (S : Nat → Prop) (A : Option Addr) (ca : Nat) (cs : List (List Int)) (hcs : ∀ i, i < n → cs.getD i [] = (ls i).map fun (k : Nat) => (k : Int)) (w : World) (hR : RClauses w S A n cs) (hS : ∀ k, S k → k < w.heap.size) :
  Calls Tryz.prog 31 #[.slice A n ca] w (ReachPost w n (RB e n)) := by
 have HR := qh hR; have HS := qh hS; have HLS := qh hls; have HCS := qh hcs; have HLN := qh hlen
 have hm1 := fun wx => make_rows n hn wx
 have hm2 := fun wx => make_bools n hn wx
 have HM0 : Hid (Mt (w.alloc (.cells ((List.range n).map fun _ => Value.slice none 0 0).toArray 31)) w.heap.size n 0 (stepM ls 0 0)) := qh ⟨by
  have h := Whole.new w w.heap.size 31 ((List.range n).map fun _ => Value.slice none 0 0) rfl
  have he : (fun _ : Nat => Value.slice none 0 0) = fun i => if i < 0 then .slice (some ⟨w.heap.size + 1 + i, 0, none⟩) n n else .slice none 0 0 := by funext r; rw [if_neg (by omega)]
  rw [he] at h
  rw [← he] at h ⊢
  exact h, fun i hi => by omega⟩
 have HB0 : Hid (Below w.heap.size w (w.alloc (.cells ((List.range n).map fun _ => Value.slice none 0 0).toArray 31))) := qh ((Below.refl _ _).alloc (qr _) _)
 have HE := qh he
 clear hR hS hls hcs he hlen
 go_enter Tryz.func31, Tryz.ntmps31
 go_wp2
 obtain ⟨w1, hw1⟩ : ∃ x, x = w.alloc (.cells ((List.range n).map fun _ => Value.slice none 0 0).toArray 31) := ⟨_, rfl⟩
 have HZ1 : Hid (w1.heap.size = w.heap.size + 1) := qh (by rw [hw1]; simp)
 rw [← hw1] at HM0 HB0 ⊢
 clear hw1
 obtain ⟨b, hb⟩ : ∃ x, x = w.heap.size := ⟨_, rfl⟩
 rw [← hb] at HM0 HZ1 ⊢
 have HBZ := qh hb
 clear hb
 go_loopg [16] n (fun g iv wr => ∃ i : Nat, Hid (i + g = n) ∧ iv = .int .i64 i ∧ Hid (Mt wr b n i (stepM ls i 0)) ∧ Hid (wr.heap.size = b + 1 + i) ∧ Hid (Below w.heap.size w wr))
 case atStart => exact ⟨0, qh (Nat.zero_add _), rfl, HM0, HZ1, HB0⟩
 case round =>
  obtain ⟨i, Hi, rfl, HM, HZ, HB⟩ := hrel
  clear HM0 HZ1 HB0
  by_cases hi : i < n
  ·obtain ⟨bi, oi, Ai, ni, ci, rfl, hbS, hcell, hri, hni, hci⟩ := (HR.out.below HB.out HS.out).at_ hi
   rw [HCS.out i hi] at hri
   have HRI := qh (RInts.keep hri (w' := w) fun p hp => (HB.out.cell (HS.out _ hp)).symm)
   have hnl : (ls i).length = ni := by have := hri.len; simpa using this
   have hli := HLN.out i hi
   have hbl : bi < wr.heap.size := ql (HS.out _ hbS) HB.out.size
   have hfr := HM.out.ofree i
   have hcd := HM.out.nilRow (Nat.lt_irrefl i) hi
   have holt := HM.out.o.lt
   have hsz := HZ.out
   have HMr := qh (HM.out.row hi HZ.out)
   have HBr : Hid (Below w.heap.size w ((wr.setCell ⟨b, i, none⟩ (.slice (some ⟨b + 1 + i, 0, none⟩) n n)).alloc (.cells ((List.range n).map fun _ => Value.bool false).toArray 4))) := qh ((HB.out.setCell (by rw [HBZ.out]; exact qr _) _).alloc (by simpa [World.setCell] using HB.out.size) _)
   rw [← HZ.out] at HMr HBr
   have HZr : Hid (((wr.setCell ⟨b, i, none⟩ (.slice (some ⟨wr.heap.size, 0, none⟩) n n)).alloc (.cells ((List.range n).map fun _ => Value.bool false).toArray 4)).heap.size = b + 1 + (i + 1)) := qh (by simp [World.setCell, hsz]; omega)
   clear hri hsz
   have hi1 : (i : Int) < n := by omega
   have hi0 : (0 : Int) ≤ (i : Int) := by omega
   go_wp2
   obtain ⟨w2, hw2⟩ : ∃ x, x = (wr.setCell ⟨b, i, none⟩ (.slice (some ⟨wr.heap.size, 0, none⟩) n n)).alloc (.cells ((List.range n).map fun _ => Value.bool false).toArray 4) := ⟨_, rfl⟩
   rw [← hw2] at HMr HBr HZr ⊢
   clear hw2 hcell hbl hfr holt hcd
   have HM2 : Hid (Mt w2 b n (i + 1) (stepM ls i 0)) := qh (HMr.out.congr fun a c _ _ => stepM_zero a c)
   clear HM HMr HZ HB
   obtain ⟨g9, rfl⟩ : ∃ x : Nat, x = gk := ⟨_, rfl⟩
   go_loopg [29] ni (fun g iv wr => ∃ k : Nat, Hid (k + g = ni) ∧ iv = .int .i64 k ∧ Hid (Mt wr b n (i + 1) (stepM ls i k)) ∧ Hid (wr.heap.size = b + 1 + (i + 1)) ∧ Hid (Below w.heap.size w wr))
   case atStart => exact ⟨0, qh (Nat.zero_add _), rfl, HM2, HZr, HBr⟩
   case round =>
    obtain ⟨k, Hk, rfl, HM, HZ, HB⟩ := hrel
    clear HM2 HZr HBr
    by_cases hk : k < ni
    ·obtain ⟨b5, o5, rfl, hb5, hc5⟩ := (RInts.below HRI.out HB.out HS.out).at_ hk
     have hkx : (ls i)[k]? = some ((ls i)[k]'(by omega)) := List.getElem?_eq_getElem _
     generalize (ls i)[k]'(by omega) = x at hkx
     have hxn := HLS.out i hi x (List.mem_of_getElem? hkx)
     have hgx : ((ls i).map fun (k : Nat) => (k : Int)).getD k 0 = (x : Int) := by rw [List.getD_eq_getElem?_getD, List.getElem?_map, hkx]; rfl
     rw [hgx] at hc5
     have hl5 : b5 < wr.heap.size := ql (HS.out _ hb5) HB.out.size
     have hh := HM.out.hdr (i := i) (by omega) hi
     have hcx := HM.out.cell (i := i) (j := x) (by omega) hxn
     have hfx := HM.out.free (i := i) (by omega) x
     have holt := HM.out.o.lt
     have hrlt := (HM.out.r i (by omega)).lt
     have HN := qh ((HM.out.set (i := i) (j := x) (by omega) hxn true).congr fun a c _ _ => stepM_next hkx a c)
     have HZN : Hid ((wr.setCell ⟨b + 1 + i, x, none⟩ (.bool true)).heap.size = b + 1 + (i + 1)) := qh (by simpa [World.setCell] using HZ.out)
     have HBN := qh (HB.out.setCell (p := ⟨b + 1 + i, x, none⟩) (by have := HBZ.out; show w.heap.size ≤ b + 1 + i; omega) (.bool true))
     have hx1 : (x : Int) < n := by omega
     have hx0 : (0 : Int) ≤ (x : Int) := by omega
     clear hgx hkx
     go_wp2
     go_roundg (gk - 1)
     case measure => have := Hk.out; omega
     case rel => exact ⟨k + 1, qh (by have := Hk.out; omega), by go_num, HN, HZN, HBN⟩
    ·obtain rfl : ni = k := by have := Hk.out; omega
     have HN := qh (HM.out.congr fun a c _ _ => stepM_row (ls := ls) (i := i) (n := ni) (by omega) a c)
     go_wp2
     go_roundg (g9 - 1)
     case measure => have := Hi.out; omega
     case rel => exact ⟨i + 1, qh (by have := Hi.out; omega), by go_num, HN, HZ, HB⟩
  ·obtain rfl : n = i := by have := Hi.out; omega
   have HK0 : Hid (Mt wr b n n (midM e 0 0 0)) := qh (HM.out.congr fun a c ha hc => by
    unfold stepM midM
    rw [if_pos ha, if_neg (by omega)]
    exact (HE.out a c ha hc).symm)
   have HZ0 : Hid (b + 1 + n ≤ wr.heap.size) := qh (by rw [HZ.out]; exact qr _)
   clear HM HZ
   go_wp2
   go_loopg [43] n (fun g iv wr => ∃ k : Nat, Hid (k + g = n) ∧ iv = .int .i64 k ∧ Hid (Mt wr b n n (midM e k 0 0)) ∧ Hid (b + 1 + n ≤ wr.heap.size) ∧ Hid (Below w.heap.size w wr))
   case atStart => exact ⟨0, qh (Nat.zero_add _), rfl, HK0, HZ0, HB⟩
   case round =>
    obtain ⟨k, Hk, rfl, HM3, HZ3, HB3⟩ := hrel
    clear HK0 HZ0 HB
    by_cases hk : k < n
    ·have hk1 : (k : Int) < n := by omega
     have hk0 : (0 : Int) ≤ (k : Int) := by omega
     go_wp2
     obtain ⟨g3, rfl⟩ : ∃ x : Nat, x = gk := ⟨_, rfl⟩
     go_loopg [48] n (fun g iv wr => ∃ i : Nat, Hid (i + g = n) ∧ iv = .int .i64 i ∧ Hid (Mt wr b n n (midM e k i 0)) ∧ Hid (b + 1 + n ≤ wr.heap.size) ∧ Hid (Below w.heap.size w wr))
     case atStart => exact ⟨0, qh (Nat.zero_add _), rfl, HM3, HZ3, HB3⟩
     case round =>
      obtain ⟨i, Hi4, rfl, HM4, HZ4, HB4⟩ := hrel
      clear HM3 HZ3 HB3
      by_cases hi : i < n
      ·have hi1 : (i : Int) < n := by omega
       have hi0 : (0 : Int) ≤ (i : Int) := by omega
       go_wp2
       obtain ⟨g4, rfl⟩ : ∃ x : Nat, x = gk := ⟨_, rfl⟩
       go_loopg [53] n (fun g iv wr => ∃ j : Nat, Hid (j + g = n) ∧ iv = .int .i64 j ∧ Hid (Mt wr b n n (midM e k i j)) ∧ Hid (b + 1 + n ≤ wr.heap.size) ∧ Hid (Below w.heap.size w wr))
       case atStart => exact ⟨0, qh (Nat.zero_add _), rfl, HM4, HZ4, HB4⟩
       case round =>
        obtain ⟨j, Hj, rfl, HM5, HZ5, HB5⟩ := hrel
        clear HM4 HZ4 HB4
        by_cases hj : j < n
        ·have hj1 : (j : Int) < n := by omega
         have hj0 : (0 : Int) ≤ (j : Int) := by omega
         have hhi := HM5.out.hdr hi hi
         have hhk := HM5.out.hdr hk hk
         have hx := HM5.out.cell hi hj
         have hy := HM5.out.cell hi hk
         have hz := HM5.out.cell hk hj
         rw [midM_at.1] at hx
         rw [midM_at.2.1] at hy
         rw [midM_at.2.2] at hz
         have hfx := HM5.out.free hi j
         have holt := HM5.out.o.lt
         have hrlt := (HM5.out.r i hi).lt
         have hklt := (HM5.out.r k hk).lt
         have HN := qh ((HM5.out.set hi hj (RB e (k + 1) i j)).congr fun a c _ _ => midM_next a c)
         rw [show RB e (k + 1) i j = (RB e k i j || (RB e k i k && RB e k k j)) from rfl] at HN
         generalize RB e k i j = x at hx HN
         generalize RB e k i k = y at hy HN
         generalize RB e k k j = z at hz HN
         have HZN : ∀ v, Hid (b + 1 + n ≤ (wr.setCell ⟨b + 1 + i, j, none⟩ v).drew.heap.size) := fun v => qh (by simpa [World.setCell, World.drew] using HZ5.out)
         have HBN := fun v => qh (HB5.out.setCell (p := ⟨b + 1 + i, j, none⟩) (by have := HBZ.out; show w.heap.size ≤ b + 1 + i; omega) v)
         clear HM5 HZ5 HB5
         cases x
         ·cases y
          ·go_wp2
           go_region
           go_wp2
           go_roundg (gk - 1)
           case measure => have := Hj.out; omega
           case rel => exact ⟨j + 1, qh (by have := Hj.out; omega), by go_num, qh HN.out.drew, qh (HZN _).out, qh (below_drewN (HBN _).out 1)⟩
          ·cases z
           ·go_wp2
            go_region
            go_wp2
            go_roundg (gk - 1)
            case measure => have := Hj.out; omega
            case rel => exact ⟨j + 1, qh (by have := Hj.out; omega), by go_num, qh HN.out.drew, qh (HZN _).out, qh (below_drewN (HBN _).out 1)⟩
           ·go_wp2
            go_region
            go_wp2
            go_roundg (gk - 1)
            case measure => have := Hj.out; omega
            case rel => exact ⟨j + 1, qh (by have := Hj.out; omega), by go_num, qh HN.out.drew, qh (HZN _).out, qh (below_drewN (HBN _).out 1)⟩
         ·go_wp2
          go_region
          go_wp2
          go_roundg (gk - 1)
          case measure => have := Hj.out; omega
          case rel => exact ⟨j + 1, qh (by have := Hj.out; omega), by go_num, qh HN.out.drew, qh (HZN _).out, qh (below_drewN (HBN _).out 1)⟩
        ·obtain rfl : n = j := by have := Hj.out; omega
         have HN := qh (HM5.out.congr fun a c _ hc => midM_row (e := e) (k := k) (i := i) (n := n) a c hc)
         go_wp2
         go_roundg (g4 - 1)
         case measure => have := Hi4.out; omega
         case rel => exact ⟨i + 1, qh (by have := Hi4.out; omega), by go_num, HN, HZ5, HB5⟩
      ·obtain rfl : n = i := by have := Hi4.out; omega
       have HN := qh (HM4.out.congr fun a c ha _ => midM_end (e := e) (k := k) (n := n) a c ha)
       go_wp2
       go_roundg (g3 - 1)
       case measure => have := Hk.out; omega
       case rel => exact ⟨k + 1, qh (by have := Hk.out; omega), by go_num, HN, HZ4, HB4⟩
    ·obtain rfl : n = k := by have := Hk.out; omega
     have HP : Hid (ReachPost w n (RB e n) (.returned (.slice (some ⟨b, 0, none⟩) n n)) wr) := qh ⟨b, rfl, HM3.out.congr fun a c _ _ => by unfold midM; rw [if_neg (by omega)], by rw [HBZ.out]; exact qr _, HZ3.out, HB3.out⟩
     go_wp2
     go_ret
     exact HP.out
end
/- slices.Clone of []bool, walked. -/
section
open Go.RowKit

theorem bool_infoC : (Tryz.prog.info? 4).map (fun i => (i.zero, i.size, i.bytes)) = some (some (.bool false), 1, 1) := by kernel_rfl
theorem info_partsC {t : TypeId} {z : Value} {size bytes : Nat} (h : (Tryz.prog.info? t).map (fun i => (i.zero, i.size, i.bytes)) = some (some z, size, bytes)) : ∃ i : TypeInfo, Tryz.prog.info? t = some i ∧ i.zero = some z ∧ i.size = size ∧ i.bytes = bytes := by
 cases hh : Tryz.prog.info? t with
 | none => rw [hh] at h; simp at h
 | some i => rw [hh] at h; simp at h; exact ⟨i, rfl, h.1, h.2.1, h.2.2⟩
def CloneBPost (w : World) (E : TypeId) (n : Nat) (vs : List Value) (e : Ending) (w' : World) : Prop :=
 ∃ (A : Option Addr) (c : Nat), e = .returned (.slice A n c) ∧ n ≤ c ∧ c ≤ maxLen ∧ w'.ownsRow w.heap.size E 1 (.slice A n c) n vs ∧ Below w.heap.size w w'
set_option maxRecDepth 100000 in
set_option maxHeartbeats 1600000 in
theorem cloneB_any (A : Option Addr) (n c : Nat) (vs : List Value) (w : World) (S : Nat → Prop) (hr : Row w S A n vs) (hone : ∀ u ∈ vs, u.oneCell' = true) (hS : ∀ k, S k → k < w.heap.size) (hn : n * 1 ≤ 140737488355328) :
  Calls Tryz.prog 35 #[.slice A n c] w (CloneBPost w 4 n vs) := by
 obtain ⟨i0, hi, hz0, hz1, hz2⟩ := info_partsC bool_infoC
 have q : ∀ (w : World) (a : Option Addr) (n c n' c' : Nat), (binOp .eql 31 (.slice a n c) (.slice none n' c')).run Tryz.prog w = .ok (.bool a.isNone) w := fun w a n c n' c' => Lib.run_eql_slice_nil w _ _ a n c n' c' Tryz.underlying31
 have Hr := qh hr; have Hone := qh hone
 clear hr hone
 by_cases hA : A = none
 ·subst hA
  obtain rfl : n = 0 := by
   by_cases h0 : 0 < n
   ·obtain ⟨b, o, e, _⟩ := Hr.out.some_lit h0; cases e
   ·omega
  obtain rfl : vs = [] := List.eq_nil_of_length_eq_zero Hr.out.len
  go_enter Tryz.func35, Tryz.ntmps35
  go_wp2_with fail
  go_ret
  exact ⟨none, 0, rfl, qr _, Nat.zero_le _, World.ownsRow_nil _ _ _ _, Below.refl _ _⟩
 ·obtain ⟨ad, rfl⟩ : ∃ ad, A = some ad := by cases A with | none => exact absurd rfl hA | some a => exact ⟨a, rfl⟩
  clear hA
  have hb0 : Below w.heap.size w (w.alloc (.cells #[] 4)) := (Below.refl _ _).alloc (qr _) _
  have hnews : ∀ j u, vs[j]? = some u → (w.alloc (.cells #[] 4)).cell? (ad.add j) = some u := by
   intro j u hj
   have hjn : j < n := by have := (List.getElem?_eq_some_iff.1 hj).1; rw [Hr.out.len] at this; exact this
   obtain ⟨b, o, e, _⟩ := Hr.out.some_lit (by omega)
   injection e with e
   subst e
   exact news_of_row (Hr.out.below hb0 hS) j u hj
  have Hnews := qh hnews; clear hnews hb0
  have Hl := qh Hr.out.len
  go_enter Tryz.func35, Tryz.ntmps35
  go_wp2_with (at_builtin; refine wpList_append_own _ rfl _ _ 31 rfl w.heap.size 4 i0 (.bool false) 1 1 Tryz.underlying31 hi hz0 hz1 hz2 rfl (by decide) _ _ _ rfl (World.ownsRow_made w #[] 0 (qr _) (Nat.zero_le _) rfl) ad n c vs rfl ?c1 Hnews.out Hone.out ?c3 ?c4 ?c5 ?_)
  case c1 => rw [Hl.out, Nat.mul_one]
  case c3 => unfold maxLen; omega
  case c4 => omega
  case c5 => simp
  intro v' w1 hown hgrow hnil
  go_wp2_with fail
  go_ret
  have hown' : w1.ownsRow w.heap.size 4 1 v' n vs := by simpa using hown
  obtain ⟨A', c', rfl, h1, h2, _⟩ := own_form hown'
  exact ⟨A', c', rfl, h1, h2, hown', ((Below.refl _ w).alloc (qr _) _).grown hgrow (by simp) (by intro k hk; simp [Value.ownBlock] at hk; omega)⟩
end
/- slices.Equal of []bool, walked. -/
section
open Go.RowKit

set_option maxHeartbeats 400000 in
theorem equalB_any (A A' : Option Addr) (n n' c c' : Nat) (xs ys : List Bool) (w : World) (S : Nat → Prop) (hx : RBools w S A n xs) (hy : RBools w S A' n' ys) (hn : n ≤ maxLen) (hn' : n' ≤ maxLen) :
    Calls Tryz.prog 40 #[.slice A n c, .slice A' n' c'] w fun e w' => e = .returned (.bool (xs == ys)) ∧ ∃ nq, w' = w.drewN nq := by
  unfold maxLen at hn hn'
  have hl := qh hx.len
  have hl' := qh hy.len
  by_cases hne : n = n'
  · subst hne
    have h0 : ((n : Int) != (n : Int)) = false := by simp
    go_enter Tryz.func40, Tryz.ntmps40
    go_wp2
    go_loopw [13] (fun i wr => ∃ k : Nat, k ≤ n ∧ i = .int .i64 k ∧ Hid (xs.take k = ys.take k) ∧ ∃ nq, wr = w.drewN nq) (fun i _ => n - (intOf i).toNat)
    case atStart => exact ⟨0, Nat.zero_le _, rfl, by exact rfl, 0, rfl⟩
    case round =>
      obtain ⟨k, hk, rfl, Ht, nq, rfl⟩ := hrel
      by_cases hlt : k < n
      · obtain ⟨b, o, rfl, hb, hc⟩ := hx.at_ hlt
        obtain ⟨b', o', rfl, hb', hc'⟩ := hy.at_ hlt
        generalize hu : xs.getD k false = u at hc
        generalize hv : ys.getD k false = v at hc'
        have Hu := qh hu; clear hu
        have Hv := qh hv; clear hv
        cases u <;> cases v
        all_goals
          first
            | (have Huv : Hid (xs.getD k false = ys.getD k false) := by rw [Hu.out, Hv.out]; exact rfl
               go_wp2
               go_quiet (fail)
               go_wp2
               go_roundw
               case rel => exact ⟨k + 1, by omega, by go_num, take_eq_succ false (by rw [hl.out]; exact hlt) (by rw [hl'.out]; exact hlt) Ht.out Huv.out, _, (by first | rfl | exact World.drewN_drewN _ _ _)⟩
               case measure => simp [intOf]; omega)
            | (have Huv : Hid (xs.getD k false ≠ ys.getD k false) := by show _ ≠ _; rw [Hu.out, Hv.out]; intro h; cases h
               go_wp2
               go_quiet (fail)
               go_wp2
               go_ret
               exact ⟨ret_bool (by symm; rw [beq_eq_false_iff_ne]; exact ne_of_getD false Huv.out), _, (by first | rfl | exact World.drewN_drewN _ _ _)⟩)
      · have h1 : k = n := by omega
        subst h1
        go_wp2
        go_ret
        exact ⟨ret_bool (by symm; rw [beq_iff_eq]; exact eq_of_take_all hl.out hl'.out Ht.out), _, rfl⟩
  · have h0 : ((n : Int) != (n' : Int)) = true := by rw [bne_iff_ne]; omega
    go_enter Tryz.func40, Tryz.ntmps40
    go_wp2
    go_ret
    exact ⟨ret_bool (by symm; rw [beq_eq_false_iff_ne]; intro e; exact hne (by rw [← hl.out, ← hl'.out, e])), 0, rfl⟩

end
/- order.same, ready, loops, walked. -/
section
open Go.RowKit Qm

set_option maxRecDepth 100000 in
set_option maxHeartbeats 3200000 in
theorem osame_any (m o : Mem) (S : Nat → Prop) (A B : Option Addr) (n c k d : Nat) (w : World) (hA : RBools w S A n m.on) (hB : RBools w S B k o.on) (hn : n ≤ maxLen) (hk : k ≤ maxLen) (hS : ∀ k, S k → k < w.heap.size) :
  Calls Tryz.prog 34 #[.agg #[.int .i64 m.pl, .slice A n c], .agg #[.int .i64 o.pl, .slice B k d]] w fun e w' => e = .returned (.bool (decide (m = o))) ∧ Below w.heap.size w w' := by
 have hb2 : Below w.heap.size w ((w.alloc (.cells #[.int .i64 m.pl, .slice A n c] 33)).alloc (.cells #[.int .i64 o.pl, .slice B k d] 33)) := ((Below.refl _ w).alloc (qr _) _).alloc (by simp) _
 have HB := qh hb2
 have Heq := qh (fun wx (hb : Below w.heap.size w wx) => equalB_any A B n k c d m.on o.on wx S (Row.below hA hb hS) (Row.below hB hb hS) hn hk)
 obtain ⟨pl, on⟩ := m
 obtain ⟨pl2, on2⟩ := o
 have HD : Hid (decide ((⟨pl, on⟩ : Mem) = ⟨pl2, on2⟩) = (decide (pl = pl2) && (on == on2))) := qh (by
  rw [Bool.eq_iff_iff, Bool.and_eq_true, decide_eq_true_eq, decide_eq_true_eq, beq_iff_eq, Mem.mk.injEq])
 generalize decide ((⟨pl, on⟩ : Mem) = ⟨pl2, on2⟩) = r at HD ⊢
 dsimp only at Heq ⊢ HB
 generalize (on == on2) = q at Heq HD
 clear hA hB hS hb2
 by_cases hp : pl = pl2
 ·have hp1 : (pl == pl2) = true := by simpa using hp
  have HR : Hid (r = q) := qh (by rw [HD.out, decide_eq_true hp]; rfl)
  clear hp HD
  go_enter Tryz.func34, Tryz.ntmps34
  go_wp2_with (first | (go_at_call 40; refine (Heq.out _ HB.out).mono ?_; rintro e w2 ⟨rfl, nq, rfl⟩; refine Hid.out ?_))
  refine qh ?_
  go_wp2
  go_ret
  exact ⟨ret_bool HR.out.symm, below_drewN HB.out nq⟩
 ·have hp1 : (pl == pl2) = false := by simpa using hp
  have HR : Hid (r = false) := qh (by rw [HD.out, decide_eq_false hp]; rfl)
  clear hp HD
  go_enter Tryz.func34, Tryz.ntmps34
  go_wp2
  go_ret
  exact ⟨ret_bool HR.out.symm, HB.out⟩
set_option maxRecDepth 100000 in
set_option maxHeartbeats 3200000 in
theorem oready_any (r : Nat → Nat → Bool) (n : Nat) (hn : n ≤ 100000) (done : Nat → Bool) (b : Nat) (A : Option Addr) (c k : Nat) (w : World) (S : Nat → Prop) (hD : RBools w S A n ((List.range n).map done)) (hM : Mt w b n n r) (hk : k < n) (hS : ∀ k, S k → k < w.heap.size) (hb : b + 1 + n ≤ w.heap.size) :
  Calls Tryz.prog 36 #[.int .i64 (k : Int), .slice A n c, .slice (some ⟨b, 0, none⟩) n n] w fun e w' => e = .returned (.bool (readyB r n done k)) ∧ ∃ q, w' = w.drewN q := by
 obtain ⟨R, hR⟩ : ∃ R, R = readyB r n done k := ⟨_, rfl⟩
 rw [← hR]
 have HRF : Hid (∀ i, i < n → r k i = true → r i k = false → done i = false → R = false) := qh fun i hi h1 h2 h3 => by
  cases hr : R
  ·rfl
  ·rw [hR] at hr
   have := readyB_iff.1 hr i hi h1 h2
   rw [h3] at this; cases this
 have HRT : Hid ((∀ i, i < n → r k i = true → r i k = false → done i = true) → R = true) := qh fun h => by rw [hR]; exact readyB_iff.2 h
 have HDD := qh hD; have HM := qh hM; have HS := qh hS
 have holt := hM.o.lt
 have hklt := (hM.r k hk).lt
 have hk1 : (k : Int) < n := by omega
 have hk0 : (0 : Int) ≤ (k : Int) := by omega
 clear hR hD hM hS
 go_enter Tryz.func36, Tryz.ntmps36
 go_wp2
 go_loopg [10] n (fun g iv wr => ∃ i q : Nat, Hid (i + g = n) ∧ iv = .int .i64 i ∧ Hid (∀ x, x < i → r k x = true → r x k = false → done x = true) ∧ wr = w.drewN q)
 case atStart => exact ⟨0, 0, qh (Nat.zero_add _), rfl, qh (fun x hx => by omega), rfl⟩
 case round =>
  obtain ⟨i, q, Hi, rfl, Hall, rfl⟩ := hrel
  by_cases hi : i < n
  ·obtain ⟨b5, o5, rfl, hb5, hc5⟩ := RBools.at_ (w := w) (S := S) (n := n) (xs := (List.range n).map done) (k := i) HDD.out hi
   have hg : ((List.range n).map done).getD i false = done i := by rw [List.getD_eq_getElem?_getD, List.getElem?_map, List.getElem?_range hi]; rfl
   rw [hg] at hc5
   have hl5 : b5 < w.heap.size := HS.out _ hb5
   have hhk : (w.drewN q).cell? ⟨b, k, none⟩ = some (.slice (some ⟨b + 1 + k, 0, none⟩) n n) := HM.out.hdr hk hk
   have hhi : (w.drewN q).cell? ⟨b, i, none⟩ = some (.slice (some ⟨b + 1 + i, 0, none⟩) n n) := HM.out.hdr hi hi
   have hx : (w.drewN q).cell? ⟨b + 1 + k, i, none⟩ = some (.bool (r k i)) := HM.out.cell hk hi
   have hy : (w.drewN q).cell? ⟨b + 1 + i, k, none⟩ = some (.bool (r i k)) := HM.out.cell hi hk
   have hd : (w.drewN q).cell? ⟨b5, o5 + i, none⟩ = some (.bool (done i)) := hc5
   have hi1 : (i : Int) < n := by omega
   have hi0 : (0 : Int) ≤ (i : Int) := by omega
   have holt' : b < (w.drewN q).heap.size := holt
   have hklt' : b + 1 + k < (w.drewN q).heap.size := hklt
   have hilt' : b + 1 + i < (w.drewN q).heap.size := (HM.out.r i hi).lt
   have hl5' : b5 < (w.drewN q).heap.size := hl5
   have HF := qh (HRF.out i hi)
   have HNX : Hid ((r k i = true → r i k = false → done i = true) → ∀ x, x < i + 1 → r k x = true → r x k = false → done x = true) := qh fun h x hx h1 h2 => by
    by_cases e : x = i
    ·subst e; exact h h1 h2
    ·exact Hall.out x (by omega) h1 h2
   generalize r k i = x at hx HF HNX
   generalize r i k = y at hy HF HNX
   generalize done i = z at hd HF HNX
   clear hc5 hg holt hl5 hklt
   obtain ⟨wq, hwq⟩ : ∃ x, x = w.drewN q := ⟨_, rfl⟩
   have HWQ := qh hwq
   rw [← hwq] at hhk hhi hx hy hd holt' hklt' hilt' hl5' ⊢
   clear hwq
   cases x
   ·have HN := qh (HNX.out (fun h => by cases h))
    go_wp2
    go_roundg (gk - 1)
    case measure => have := Hi.out; omega
    case rel => exact ⟨i + 1, q, qh (by have := Hi.out; omega), by go_num, HN, HWQ.out⟩
   ·cases y
    ·cases z
     ·have HE : Hid (R = false) := qh (HF.out rfl rfl rfl)
      go_wp2
      go_ret
      exact ⟨ret_bool HE.out.symm, q, HWQ.out⟩
     ·have HN := qh (HNX.out (fun _ _ => rfl))
      go_wp2
      go_roundg (gk - 1)
      case measure => have := Hi.out; omega
      case rel => exact ⟨i + 1, q, qh (by have := Hi.out; omega), by go_num, HN, HWQ.out⟩
    ·have HN := qh (HNX.out (fun _ h => by cases h))
     go_wp2
     go_roundg (gk - 1)
     case measure => have := Hi.out; omega
     case rel => exact ⟨i + 1, q, qh (by have := Hi.out; omega), by go_num, HN, HWQ.out⟩
  ·obtain rfl : n = i := by have := Hi.out; omega
   have HE : Hid (R = true) := qh (HRT.out Hall.out)
   go_wp2
   go_ret
   exact ⟨ret_bool HE.out.symm, q, rfl⟩
set_option maxRecDepth 100000 in
set_option maxHeartbeats 3200000 in
theorem oloops_any (r : Nat → Nat → Bool) (n : Nat) (hn : n ≤ 100000) (old : Nat → Bool) (b : Nat) (A : Option Addr) (c i : Nat) (w : World) (S : Nat → Prop) (hD : RBools w S A n ((List.range n).map old)) (hM : Mt w b n n r) (hi : i < n) (hS : ∀ k, S k → k < w.heap.size) :
  Calls Tryz.prog 37 #[.int .i64 (i : Int), .slice A n c, .slice (some ⟨b, 0, none⟩) n n] w fun e w' => e = .returned (.bool (loopsB r n old i)) ∧ ∃ q, w' = w.drewN q := by
 obtain ⟨R, hR⟩ : ∃ R, R = loopsB r n old i := ⟨_, rfl⟩
 rw [← hR]
 have HRT : Hid (∀ k, k < n → k ≠ i → old k = false → r i k = true → r k i = true → R = true) := qh fun k h0 h1 h2 h3 h4 => by rw [hR]; exact loopsB_iff.2 ⟨k, h0, h1, h2, h3, h4⟩
 have HRF : Hid ((∀ k, k < n → ¬ (k ≠ i ∧ old k = false ∧ r i k = true ∧ r k i = true)) → R = false) := qh fun h => by
  cases hr : R
  ·rfl
  ·rw [hR] at hr
   obtain ⟨k, h0, h1⟩ := loopsB_iff.1 hr
   exact absurd h1 (h k h0)
 have HDD := qh hD; have HM := qh hM; have HS := qh hS
 have holt := hM.o.lt
 have hklt := (hM.r i hi).lt
 have hi1 : (i : Int) < n := by omega
 have hi0 : (0 : Int) ≤ (i : Int) := by omega
 clear hR hD hM hS
 go_enter Tryz.func37, Tryz.ntmps37
 go_wp2
 go_loopg [10] n (fun g iv wr => ∃ k q : Nat, Hid (k + g = n) ∧ iv = .int .i64 k ∧ Hid (∀ x, x < k → ¬ (x ≠ i ∧ old x = false ∧ r i x = true ∧ r x i = true)) ∧ wr = w.drewN q)
 case atStart => exact ⟨0, 0, qh (Nat.zero_add _), rfl, qh (fun x hx => by omega), rfl⟩
 case round =>
  obtain ⟨k, q, Hk, rfl, Hall, rfl⟩ := hrel
  by_cases hk : k < n
  ·obtain ⟨b5, o5, rfl, hb5, hc5⟩ := RBools.at_ (w := w) (S := S) (n := n) (xs := (List.range n).map old) (k := k) HDD.out hk
   have hg : ((List.range n).map old).getD k false = old k := by rw [List.getD_eq_getElem?_getD, List.getElem?_map, List.getElem?_range hk]; rfl
   rw [hg] at hc5
   have hl5 : b5 < w.heap.size := HS.out _ hb5
   have hhk : (w.drewN q).cell? ⟨b, k, none⟩ = some (.slice (some ⟨b + 1 + k, 0, none⟩) n n) := HM.out.hdr hk hk
   have hhi : (w.drewN q).cell? ⟨b, i, none⟩ = some (.slice (some ⟨b + 1 + i, 0, none⟩) n n) := HM.out.hdr hi hi
   have hx : (w.drewN q).cell? ⟨b + 1 + i, k, none⟩ = some (.bool (r i k)) := HM.out.cell hi hk
   have hy : (w.drewN q).cell? ⟨b + 1 + k, i, none⟩ = some (.bool (r k i)) := HM.out.cell hk hi
   have hd : (w.drewN q).cell? ⟨b5, o5 + k, none⟩ = some (.bool (old k)) := hc5
   have hk1 : (k : Int) < n := by omega
   have hk0 : (0 : Int) ≤ (k : Int) := by omega
   have holt' : b < (w.drewN q).heap.size := holt
   have hklt' : b + 1 + i < (w.drewN q).heap.size := hklt
   have hilt' : b + 1 + k < (w.drewN q).heap.size := (HM.out.r k hk).lt
   have hl5' : b5 < (w.drewN q).heap.size := hl5
   have HT := qh (HRT.out k hk)
   have HNX : Hid (¬ (k ≠ i ∧ old k = false ∧ r i k = true ∧ r k i = true) → ∀ x, x < k + 1 → ¬ (x ≠ i ∧ old x = false ∧ r i x = true ∧ r x i = true)) := qh fun h x hx => by
    by_cases e : x = k
    ·subst e; exact h
    ·exact Hall.out x (by omega)
   generalize r i k = x at hx HT HNX
   generalize r k i = y at hy HT HNX
   generalize old k = z at hd HT HNX
   clear hc5 hg holt hl5 hklt
   obtain ⟨wq, hwq⟩ : ∃ x, x = w.drewN q := ⟨_, rfl⟩
   have HWQ := qh hwq
   rw [← hwq] at hhk hhi hx hy hd holt' hklt' hilt' hl5' ⊢
   clear hwq
   by_cases hki : k = i
   ·have hb0 : ((k : Int) != (i : Int)) = false := by simp; omega
    have HN := qh (HNX.out (fun h => h.1 hki))
    clear hki
    go_wp2
    go_roundg (gk - 1)
    case measure => have := Hk.out; omega
    case rel => exact ⟨k + 1, q, qh (by have := Hk.out; omega), by go_num, HN, HWQ.out⟩
   ·have hb0 : ((k : Int) != (i : Int)) = true := by simp; omega
    have HKI := qh hki
    clear hki
    cases z
    ·cases x
     ·have HN := qh (HNX.out (fun h => by cases h.2.2.1))
      go_wp2
      go_roundg (gk - 1)
      case measure => have := Hk.out; omega
      case rel => exact ⟨k + 1, q, qh (by have := Hk.out; omega), by go_num, HN, HWQ.out⟩
     ·cases y
      ·have HN := qh (HNX.out (fun h => by cases h.2.2.2))
       go_wp2
       go_roundg (gk - 1)
       case measure => have := Hk.out; omega
       case rel => exact ⟨k + 1, q, qh (by have := Hk.out; omega), by go_num, HN, HWQ.out⟩
      ·have HE : Hid (R = true) := qh (HT.out HKI.out rfl rfl rfl)
       go_wp2
       go_ret
       exact ⟨ret_bool HE.out.symm, q, HWQ.out⟩
    ·have HN := qh (HNX.out (fun h => by cases h.2.1))
     go_wp2
     go_roundg (gk - 1)
     case measure => have := Hk.out; omega
     case rel => exact ⟨k + 1, q, qh (by have := Hk.out; omega), by go_num, HN, HWQ.out⟩
  ·obtain rfl : n = k := by have := Hk.out; omega
   have HE : Hid (R = false) := qh (HRF.out Hall.out)
   go_wp2
   go_ret
   exact ⟨ret_bool HE.out.symm, q, rfl⟩
end
end Go.Proofs.YtpipgffbhpnmkaaGreatDoor
