/- Parts of the proof: walks and plain laws, side by side. -/
import Derived.Test.YtpipgffbhpnmkaaGreatDoorM19
import Derived.Test.YtpipgffbhpnmkaaGreatDoorM17
set_option linter.unusedVariables false
set_option linter.unusedSimpArgs false
set_option linter.unusedSectionVars false
namespace Go.Proofs.YtpipgffbhpnmkaaGreatDoor
/- order.Plan, walked. -/
section
open Go.RowKit Qm

def planR (ps : List Pk) (there l : List Mem) : List Ac := if planE ps there l = 0 then planL ps there l else []
def PlanPost (w : World) (ps : List Pk) (there l : List Mem) (e : Ending) (w' : World) : Prop :=
 ∃ v cs B, e = .returned (.tuple #[v, .int .i64 (planE ps there l)]) ∧ w.heap.size ≤ B ∧ Gs B v cs (planR ps there l) w' ∧ Below w.heap.size w w'
theorem PlanPost.err {w w' : World} {ps : List Pk} {there l : List Mem} {z : Int} (hz : z ≠ 0) (he : planE ps there l = z) (hb : Below w.heap.size w w') : PlanPost w ps there l (.returned (.tuple #[.slice none 0 0, .int .i64 z])) w' := by
 have hl : planR ps there l = [] := by unfold planR; rw [if_neg (by rw [he]; exact hz)]
 exact ⟨_, [], w'.heap.size, by rw [he], hb.size, by rw [hl]; exact Gs.nil_, hb⟩
structure O1 (w5 : World) (q : Nat) (old : Nat → Bool) (j : Nat) (wr : World) : Prop where
 b : Below w5.heap.size w5 wr
 o : Whole wr w5.heap.size 4 ((List.range q).map fun k => .bool (decide (k < j) && old k))
theorem O1.zero {w5 : World} {q : Nat} {old : Nat → Bool} : O1 w5 q old 0 (w5.alloc (.cells ((List.range q).map fun _ => Value.bool false).toArray 4)) :=
 ⟨(Below.refl _ w5).alloc (qr _) _, by
  have h := Whole.new w5 w5.heap.size 4 ((List.range q).map fun _ => Value.bool false) rfl
  have e : ((List.range q).map fun k => Value.bool (decide (k < 0) && old k)) = (List.range q).map fun _ => Value.bool false := by simp
  rw [e]; exact h⟩
theorem O1.move {w5 : World} {q : Nat} {old : Nat → Bool} {j : Nat} {wr wy : World} (h : O1 w5 q old j wr) (hb : Below wr.heap.size wr wy) : O1 w5 q old j wy :=
 ⟨h.b.trans (hb.mono h.b.size), h.o.below hb h.o.lt⟩
theorem O1.next {w5 : World} {q : Nat} {old : Nat → Bool} {j : Nat} {wr : World} (h : O1 w5 q old j wr) : O1 w5 q old (j + 1) (wr.setCell ⟨w5.heap.size, j, none⟩ (.bool (old j))) :=
 ⟨h.b.setCell (p := ⟨w5.heap.size, j, none⟩) (qr _) _, by
  have h2 := h.o.set_ j (.bool (old j))
  rw [range_map_set] at h2
  have e : (fun k => Value.bool (decide (k < j + 1) && old k)) = fun r => if r = j then Value.bool (old j) else Value.bool (decide (r < j) && old r) := by
   funext k
   by_cases hk : k = j
   ·subst hk; simp
   ·rw [if_neg hk]; congr 2; rw [decide_eq_decide]; omega
  rw [e]; exact h2⟩
theorem O1.all {w5 : World} {q : Nat} {old : Nat → Bool} {wr : World} (h : O1 w5 q old q wr) : Whole wr w5.heap.size 4 ((List.range q).map fun k => .bool (old k)) := by
 have h2 := h.o
 have e : ((List.range q).map fun k => Value.bool (decide (k < q) && old k)) = (List.range q).map fun k => Value.bool (old k) := List.map_congr_left fun k hk => by rw [decide_eq_true (List.mem_range.1 hk), Bool.true_and]
 rwa [e] at h2
theorem Mt.move {w wy : World} {b n d : Nat} {M : Nat → Nat → Bool} (h : Mt w b n d M) (hb : Below w.heap.size w wy) : Mt wy b n d M := ⟨h.o.below hb h.o.lt, fun i hi => (h.r i hi).below hb (h.r i hi).lt⟩
theorem Mt.far {w : World} {b n d x i : Nat} {M : Nat → Nat → Bool} (h : Mt w b n d M) (hx : b + 1 + d ≤ x) (u : Value) : Mt (w.setCell ⟨x, i, none⟩ u) b n d M := ⟨h.o.far (p := ⟨x, i, none⟩) (by show b ≠ x; omega) u, fun k hk => (h.r k hk).far (p := ⟨x, i, none⟩) (by show b + 1 + k ≠ x; omega) u⟩
structure P2 (w : World) (A : Option Addr) (n c BB G rb ob db nb q : Nat) (r : Nat → Nat → Bool) (old : Nat → Bool) (sp : List Value) (v : Value) (cs : List (List Value)) (acts : List Ac) (s : PSt) (wr : World) : Prop where
 t : Tx w A n c wr
 g : Gz BB G (nb + 1) v cs acts wr
 m : Mt wr rb q q r
 o : Whole wr ob 4 ((List.range q).map fun k => .bool (old k))
 d : 0 < q → Whole wr db 4 (((List.range q).map fun k => .bool (s.done k)) ++ sp)
 num : Whole wr nb 3 ((List.range q).map fun k => .int .i64 (s.num k : Int))
structure K2 (w : World) (BB G rb ob db nb q : Nat) : Prop where
 bb : w.heap.size < BB
 wg : w.heap.size < G
 gr : G ≤ rb
 ro : rb + 1 + q ≤ ob
 on : ob < nb
 od : 0 < q → ob < db
 dn : 0 < q → db < nb
section
variable {w : World} {A : Option Addr} {n c BB G rb ob db nb q : Nat} {r : Nat → Nat → Bool} {old : Nat → Bool} {sp : List Value} {v v8 : Value} {cs : List (List Value)} {acts : List Ac} {s : PSt} {wr wy w8 : World}
theorem P2.move (h : P2 w A n c BB G rb ob db nb q r old sp v cs acts s wr) (hb : Below wr.heap.size wr wy) : P2 w A n c BB G rb ob db nb q r old sp v cs acts s wy :=
 ⟨h.t.move hb, h.g.move hb, h.m.move hb, h.o.below hb h.o.lt, fun hq => (h.d hq).below hb (h.d hq).lt, h.num.below hb h.num.lt⟩
theorem P2.dcell (h : P2 w A n c BB G rb ob db nb q r old sp v cs acts s wr) {i : Nat} (hi : i < q) : wr.cell? ⟨db, i, none⟩ = some (.bool (s.done i)) := by
 rw [(h.d (by omega)).cell i, List.getElem?_append_left (by simpa using hi), List.getElem?_map, List.getElem?_range hi]; rfl
theorem P2.ncell (h : P2 w A n c BB G rb ob db nb q r old sp v cs acts s wr) {i : Nat} (hi : i < q) : wr.cell? ⟨nb, i, none⟩ = some (.int .i64 (s.num i : Int)) := by
 rw [h.num.cell i, List.getElem?_map, List.getElem?_range hi]; rfl
theorem P2.dbools (h : P2 w A n c BB G rb ob db nb q r old sp v cs acts s wr) (hq : 0 < q) : RBools wr (fun k => k = db) (some ⟨db, 0, none⟩) q ((List.range q).map s.done) := by
 have := wholeS_row (S := fun k => k = db) (n := q) (h.d hq) rfl (by simp)
 unfold RBools; rw [List.map_map]; exact this
theorem P2.obools (h : P2 w A n c BB G rb ob db nb q r old sp v cs acts s wr) : RBools wr (fun k => k = ob) (some ⟨ob, 0, none⟩) q ((List.range q).map old) := by
 have := Whole.row (S := fun k => k = ob) (n := q) h.o rfl (by simp)
 unfold RBools; rw [List.map_map]; exact this
theorem P2.doneAt (h : P2 w A n c BB G rb ob db nb q r old sp v cs acts s wr) (K : K2 w BB G rb ob db nb q) {i : Nat} (hi : i < q) : P2 w A n c BB G rb ob db nb q r old sp v cs acts ⟨fun k => decide (k = i) || s.done k, s.num, s.cyc⟩ (wr.setCell ⟨db, i, none⟩ (.bool true)) := by
 have hq : 0 < q := by omega
 have h1 := K.wg; have h2 := K.gr; have h3 := K.ro; have h4 := K.od hq; have h5 := K.dn hq
 refine ⟨⟨h.t.below.setCell (p := ⟨db, i, none⟩) (by show _ ≤ db; omega) _, h.t.whole.far (p := ⟨db, i, none⟩) (by show _ ≠ db; omega) _⟩, h.g.set_ ⟨by omega, by omega⟩ i _, h.m.far (by omega) _, h.o.far (p := ⟨db, i, none⟩) (by show _ ≠ db; omega) _, fun _ => ?_, h.num.far (p := ⟨db, i, none⟩) (by show _ ≠ db; omega) _⟩
 have hd := (h.d hq).set_ i (.bool true)
 rw [List.set_append_left _ _ (by simpa using hi), range_map_set] at hd
 have e : (fun k => Value.bool (decide (k = i) || s.done k)) = fun x => if x = i then Value.bool true else Value.bool (s.done x) := by
  funext k
  by_cases hk : k = i
  ·subst hk; simp
  ·rw [if_neg hk, decide_eq_false hk, Bool.false_or]
 rw [e]; exact hd
theorem P2.numAt (h : P2 w A n c BB G rb ob db nb q r old sp v cs acts s wr) (K : K2 w BB G rb ob db nb q) (k z cy : Nat) : P2 w A n c BB G rb ob db nb q r old sp v cs acts ⟨s.done, fun x => if x = k then z else s.num x, cy⟩ (wr.setCell ⟨nb, k, none⟩ (.int .i64 (z : Int))) := by
 have h1 := K.wg; have h2 := K.gr; have h3 := K.ro; have h4 := K.od; have h5 := K.dn; have h6 := K.on
 refine ⟨⟨h.t.below.setCell (p := ⟨nb, k, none⟩) (by show _ ≤ nb; omega) _, h.t.whole.far (p := ⟨nb, k, none⟩) (by show _ ≠ nb; omega) _⟩, h.g.set_ ⟨by omega, by omega⟩ k _, h.m.far (by omega) _, h.o.far (p := ⟨nb, k, none⟩) (by show _ ≠ nb; omega) _, fun hq => (h.d hq).far (p := ⟨nb, k, none⟩) (by have := h5 hq; show _ ≠ nb; omega) _, ?_⟩
 have hd := h.num.set_ k (.int .i64 (z : Int))
 rw [range_map_set] at hd
 have e : (fun x => Value.int .i64 ((if x = k then z else s.num x : Nat) : Int)) = fun x => if x = k then Value.int .i64 (z : Int) else Value.int .i64 (s.num x : Int) := by
  funext x
  by_cases hx : x = k
  ·rw [if_pos hx, if_pos hx]
  ·rw [if_neg hx, if_neg hx]
 show Whole _ nb _ ((List.range q).map fun x => Value.int .i64 ((if x = k then z else s.num x : Nat) : Int))
 rw [e]; exact hd
theorem P2.congr {s' : PSt} (h : P2 w A n c BB G rb ob db nb q r old sp v cs acts s wr) (h1 : ∀ x, x < q → s'.done x = s.done x) (h2 : ∀ x, x < q → s'.num x = s.num x) : P2 w A n c BB G rb ob db nb q r old sp v cs acts s' wr :=
 ⟨h.t, h.g, h.m, h.o, fun hq => by
  rw [show ((List.range q).map fun k => Value.bool (s'.done k)) = (List.range q).map fun k => Value.bool (s.done k) from List.map_congr_left fun k hk => by rw [h1 k (List.mem_range.1 hk)]]
  exact h.d hq, by
  rw [show ((List.range q).map fun k => Value.int .i64 (s'.num k : Int)) = (List.range q).map fun k => Value.int .i64 (s.num k : Int) from List.map_congr_left fun k hk => by rw [h2 k (List.mem_range.1 hk)]]
  exact h.num⟩
def midP (r : Nat → Nat → Bool) (s : PSt) (i k : Nat) : PSt := ⟨fun x => decide (x = i) || s.done x, fun x => if x < k ∧ ringB r i x = true then s.cyc + 1 else s.num x, s.cyc + 1⟩
theorem P2.mid_skip {i k : Nat} (h : P2 w A n c BB G rb ob db nb q r old sp v cs acts (midP r s i k) wr) (hk : ringB r i k = false) : P2 w A n c BB G rb ob db nb q r old sp v cs acts (midP r s i (k + 1)) wr :=
 h.congr (fun _ _ => rfl) fun x _ => by
  show (if x < k + 1 ∧ ringB r i x = true then s.cyc + 1 else s.num x) = if x < k ∧ ringB r i x = true then s.cyc + 1 else s.num x
  by_cases hx : x = k
  ·subst hx; rw [if_neg (fun e => by rw [hk] at e; cases e.2), if_neg (fun e => by rw [hk] at e; cases e.2)]
  ·by_cases h3 : x < k ∧ ringB r i x = true
   ·rw [if_pos h3, if_pos ⟨by omega, h3.2⟩]
   ·rw [if_neg h3, if_neg (fun e => h3 ⟨by omega, e.2⟩)]
theorem P2.mid_set {i k : Nat} (h : P2 w A n c BB G rb ob db nb q r old sp v cs acts (midP r s i k) wr) (K : K2 w BB G rb ob db nb q) (hk : ringB r i k = true) : P2 w A n c BB G rb ob db nb q r old sp v cs acts (midP r s i (k + 1)) (wr.setCell ⟨nb, k, none⟩ (.int .i64 ((s.cyc + 1 : Nat) : Int))) :=
 (h.numAt K k (s.cyc + 1) (s.cyc + 1)).congr (fun _ _ => rfl) fun x _ => by
  show (if x < k + 1 ∧ ringB r i x = true then s.cyc + 1 else s.num x) = if x = k then s.cyc + 1 else if x < k ∧ ringB r i x = true then s.cyc + 1 else s.num x
  by_cases hx : x = k
  ·subst hx; rw [if_pos ⟨by omega, hk⟩, if_pos rfl]
  ·rw [if_neg hx]
   by_cases h3 : x < k ∧ ringB r i x = true
   ·rw [if_pos h3, if_pos ⟨by omega, h3.2⟩]
   ·rw [if_neg h3, if_neg (fun e => h3 ⟨by omega, e.2⟩)]
theorem P2.mid_end {i : Nat} (h : P2 w A n c BB G rb ob db nb q r old sp v cs acts (midP r s i q) wr) (h0 : s.num i = 0) (hl : loopsB r q old i = true) : P2 w A n c BB G rb ob db nb q r old sp v cs acts (stepP r q old s i) wr := by
 unfold stepP
 rw [if_pos ⟨h0, hl⟩]
 exact h.congr (fun _ _ => rfl) fun x hx => by
  show (if ringB r i x = true then s.cyc + 1 else s.num x) = if x < q ∧ ringB r i x = true then s.cyc + 1 else s.num x
  by_cases h3 : ringB r i x = true
  ·rw [if_pos h3, if_pos ⟨hx, h3⟩]
  ·rw [if_neg h3, if_neg (fun e => h3 e.2)]
theorem P2.mid_zero {i cy : Nat} (h : P2 w A n c BB G rb ob db nb q r old sp v cs acts ⟨fun x => decide (x = i) || s.done x, s.num, cy⟩ wr) : P2 w A n c BB G rb ob db nb q r old sp v cs acts (midP r s i 0) wr :=
 h.congr (fun _ _ => rfl) fun x _ => by
  show (if x < 0 ∧ ringB r i x = true then s.cyc + 1 else s.num x) = s.num x
  rw [if_neg (fun e => by omega)]
theorem P2.step_no {i : Nat} (h : P2 w A n c BB G rb ob db nb q r old sp v cs acts ⟨fun x => decide (x = i) || s.done x, s.num, s.cyc⟩ wr) (h0 : ¬ (s.num i = 0 ∧ loopsB r q old i = true)) : P2 w A n c BB G rb ob db nb q r old sp v cs acts (stepP r q old s i) wr := by
 unfold stepP; rw [if_neg h0]; exact h
theorem P2.push (h : P2 w A n c BB G rb ob db nb q r old sp v cs acts s wr) (K : K2 w BB G rb ob db nb q) {x : List Value} {a : Ac} (hx : RAct wr (fun k => BB ≤ k ∧ (k < G ∨ nb + 1 ≤ k) ∧ k < wr.heap.size ∧ v.ownBlock ≠ some k) x a) (h4 : x.length = 4) {o : Obj} (hown : w8.ownsRow BB 48 4 v8 (acts.length + 1) (cs.flatten ++ x)) (hg : (wr.alloc o).grownBy w8 v.ownBlock)
  (hv : v8.ownBlock = v.ownBlock ∨ v8.ownBlock = some (wr.heap.size + 1)) : P2 w A n c BB G rb ob db nb q r old sp v8 (cs ++ [x]) (acts ++ [a]) s w8 := by
 obtain ⟨g, far⟩ := h.g.push h.num.lt hx h4 hown hg hv
 have h1 := K.wg; have h2 := K.gr; have h3 := K.ro; have h5 := K.od; have h6 := K.dn; have h7 := K.on; have h0 := K.bb
 have hb : Below (w.heap.size + 1) wr w8 := far.below (by have := h.t.whole.lt; omega) fun k e => by have := (h.g.own.lt k e).1; omega
 have hno : ∀ k, G ≤ k → k < nb + 1 → ¬ v.ownBlock = some k := fun k hk1 hk2 e => by have := h.g.out k e; omega
 exact ⟨⟨h.t.below.trans (hb.mono (Nat.le_succ _)), h.t.whole.below hb (Nat.lt_succ_self _)⟩, g, ⟨far.whole h.m.o (hno _ (by omega) (by omega)), fun i hi => far.whole (h.m.r i hi) (hno _ (by omega) (by omega))⟩, far.whole h.o (hno _ (by omega) (by omega)), fun hq => far.whole (h.d hq) (hno _ (by have := h5 hq; omega) (by have := h6 hq; omega)), far.whole h.num (hno _ (by omega) (by omega))⟩
end
theorem pickO_at {r : Nat → Nat → Bool} {n : Nat} {done : Nat → Bool} {i : Nat} (hi : i < n) (hd : done i = false) (hr : readyB r n done i = true) (hall : ∀ x, x < i → (!done x && readyB r n done x) = false) : pickO r n done = some i := by
 unfold pickO
 rw [List.find?_range_eq_some]
 exact ⟨by rw [hd, hr]; rfl, List.mem_range.2 hi, fun j hj => by rw [hall j hj]; rfl⟩
theorem pickO_no {r : Nat → Nat → Bool} {n : Nat} {done : Nat → Bool} (hall : ∀ x, x < n → (!done x && readyB r n done x) = false) : pickO r n done = none := by
 unfold pickO
 rw [List.find?_eq_none]
 intro x hx
 rw [hall x (List.mem_range.1 hx)]; decide
theorem planGo_no {r : Nat → Nat → Bool} {n : Nat} {old : Nat → Bool} {g : Nat} {s : PSt} (h : pickO r n s.done = none) : planGo r n old (g + 1) s = [] := by rw [planGo, h]
theorem planGo_at {r : Nat → Nat → Bool} {n : Nat} {old : Nat → Bool} {g : Nat} {s : PSt} {i : Nat} (h : pickO r n s.done = some i) : planGo r n old (g + 1) s = (i, (stepP r n old s i).num i) :: planGo r n old g (stepP r n old s i) := by rw [planGo, h]
def inAc (l : List Mem) (p : Nat × Nat) : Ac := ⟨false, memAt l p.1, (p.2 : Int)⟩
theorem ckT_fs : ∀ {ps : List Pk} {prev : Option Pk} {n : Nat}, ckT prev n ps = 0 → ∀ p ∈ ps, p.fs.length ≤ 14
 | [], _, _, _, p, hp => by cases hp
 | x :: r, prev, n, h, p, hp => by
  simp only [ckT] at h
  split at h
  ·rename_i h1; exact absurd h h1
  ·split at h
   ·cases h
   ·split at h
    ·cases h
    ·rcases List.mem_cons.1 hp with rfl | hp
     ·omega
     ·exact ckT_fs h p hp
theorem flags14 {ps : List Pk} {l : List Mem} (h : ckSet ps l = 0) : ∀ m ∈ l, m.on.length ≤ 100000 := by
 intro m hm
 obtain ⟨h0, h1, h2⟩ := ckMs_mem (ckSet_zero h).2 m hm
 rw [h2]
 have : ∀ p ∈ ps, p.fs.length ≤ 14 := by
  have ht := (ckSet_zero h).1
  unfold ckTree at ht
  split at ht
  ·cases ht
  ·exact ckT_fs ht
 obtain ⟨j, hj⟩ : ∃ j : Nat, m.pl = j := ⟨m.pl.toNat, by omega⟩
 have hjl : j < ps.length := by omega
 rw [hj, pkOf_at (List.getElem?_eq_getElem hjl)]
 have := this _ (List.getElem_mem hjl)
 omega
set_option maxRecDepth 100000 in
set_option maxHeartbeats 6400000 in
theorem oplan_any (ps : List Pk) (l1 l : List Mem) (S : Nat → Prop) (A B1 B : Option Addr) (n c q1 d1 q d : Nat) (w : World) (hT : RTree w S A n ps) (hnc : n ≤ c) (hc : c ≤ maxLen) (hL1 : RSet w S B1 q1 l1) (hqd1 : q1 ≤ d1) (hd1 : d1 ≤ maxLen) (hL : RSet w S B q l) (hqd : q ≤ d) (hd : d ≤ maxLen) (hS : ∀ k, S k → k < w.heap.size) :
  Calls Tryz.prog 8 #[.agg #[.slice A n c], .slice B1 q1 d1, .slice B q d] w (PlanPost w ps l1 l) := by
 have X0 := qh (Tx.new w A n c)
 have HT := qh hT; have HS := qh hS; have HL := qh hL; have HL1 := qh hL1; clear hT hS hL hL1
 have Hlt := qh (fun (wx : World) (hb : Below w.heap.size w wx) k hk => ql (HS.out k hk) hb.size)
 have Hle := qh (fun wx (hb : Below w.heap.size w wx) => oleans_any ps l S A B n c q d wx (HT.out.under hb HS.out) hnc hc (HL.out.under hb HS.out) hqd hd (Hlt.out _ hb))
 have Hcs := qh (fun wx (hb : Below w.heap.size w wx) => cset_any ps l1 S A B1 n c q1 d1 wx (HT.out.under hb HS.out) hnc hc (HL1.out.under hb HS.out) (Nat.le_trans hqd1 hd1) (Hlt.out _ hb))
 have HLE := qh (Hle.out _ X0.out.below)
 unfold maxLen at hc hd hd1
 clear Hle
 obtain ⟨z, hz⟩ : ∃ z, ckSet ps l = z := ⟨_, rfl⟩
 have HZ := qh hz; clear hz
 go_enter Tryz.func8, Tryz.ntmps8
 go_upto_region 2 with (first | (go_at_call 14; refine HLE.out.mono ?_; rintro e w2 ⟨A2, c2, rfl, hr2, hn2, hc2, hb2⟩; rw [HZ.out]; refine Hid.out ?_))
 refine qh ?_
 have X2 := qh (X0.out.move hb2)
 clear hb2
 by_cases hz0 : z = 0
 ·subst hz0
  have ht0 := X2.out.whole.cell 0
  simp only [List.getElem?_cons_zero] at ht0
  have HC2 := qh (Hcs.out _ X2.out.below)
  obtain ⟨z1, hz1⟩ : ∃ z, ckSet ps l1 = z := ⟨_, rfl⟩
  have HZ1 := qh hz1; clear hz1
  go_upto_region 5 with (first | (go_at_call 29; refine HC2.out.mono ?_; rintro e w3 ⟨rfl, hb3⟩; rw [HZ1.out]; refine Hid.out ?_))
  refine qh ?_
  have X3 := qh (X2.out.move hb3)
  by_cases hz1 : z1 = 0
  ·subst hz1
   have hlr : leansR ps l = leansL ps l := by unfold leansR; rw [if_pos HZ.out]
   have hlq : (leansR ps l).length = q := by rw [hlr, leansL_len]; exact HL.out.len
   rw [hlq] at hr2 hn2 ⊢
   rw [hlr] at hr2
   have HR3 := qh ((hr2.keep fun p hp => hb3.cell hp.2).more fun k hk => (⟨hk.1, ql hk.2 hb3.size⟩ : (w.alloc (.cells #[.slice A n c] 24)).heap.size ≤ k ∧ k < w3.heap.size))
   have hq := oset_len HZ.out (by rw [← HT.out.len]; exact ckTree_len (ckSet_zero HZ.out).1) HT.out.len
   rw [HL.out.len] at hq
   have hq1 := oset_len HZ1.out (by rw [← HT.out.len]; exact ckTree_len (ckSet_zero HZ.out).1) HT.out.len
   rw [HL1.out.len] at hq1
   have C1 := Cx.of HZ1.out HT.out hnc hc HL1.out hqd1 hd1 HS.out
   have C2 := Cx.of HZ.out HT.out hnc hc HL.out hqd hd HS.out
   have HC1 := qh C1; have HC := qh C2
   have HGO := qh (fun wx (hb : Below w.heap.size w wx) => ogone_any ps l1 l S A B1 B n c q1 d1 q d wx (HC1.out.under hb) (HC.out.under hb) hq1 hq (flags14 HZ1.out))
   have HG3 := qh (HGO.out _ X3.out.below)
   have ht3 := X3.out.whole.cell 0
   simp only [List.getElem?_cons_zero] at ht3
   have HW3 := qh X3.out.whole.lt
   clear C1 C2 hr2 hlr hlq HGO hb3 HC2 X2 ht0 Hcs HLE
   go_upto_region 8 with (first | (go_at_call 30; refine HG3.out.mono ?_; rintro e w4 ⟨v4, cs4, B4, rfl, hB4, hG4, hb4⟩; refine Hid.out ?_))
   refine qh ?_
   have X4 := qh (X3.out.move hb4)
   have HRC4 := qh ((HR3.out.keep fun p hp => hb4.cell hp.2).more fun k hk => (⟨hk.1, ql hk.2 hb4.size⟩ : (w.alloc (.cells #[.slice A n c] 24)).heap.size ≤ k ∧ k < w4.heap.size))
   have HRE := qh (oreach_any (edgeB ps l) (leansAt ps l) q hq (fun i hi k hk => by have := (mem_leansAt.1 hk).1; rw [HL.out.len] at this; exact this) (fun i hi => by
    unfold leansAt; have := List.length_filter_le (leanB ps l i) (List.range l.length); rw [List.length_range] at this; exact Nat.le_trans this (Nat.le_of_eq HL.out.len)) (fun i k hi hk => by
    rw [Bool.eq_iff_iff, edge_iff (by rw [HL.out.len]; exact hi), List.contains_iff_mem]) _ A2 c2 (leansL ps l) (fun i hi => by
    unfold leansL; rw [List.getD_eq_getElem?_getD, List.getElem?_map, List.getElem?_range (by rw [HL.out.len]; exact hi)]; rfl) w4 HRC4.out (fun k hk => hk.2))
   have HG4 := qh hG4
   have HB4 := qh hb4
   have HBX := qh hB4
   clear hG4 hb4 hB4 HG3 X3 HR3 ht3
   go_upto_region 9 with (first | (go_at_call 31; refine HRE.out.mono ?_; rintro e w5 ⟨rb, rfl, hM5, hrb, hrb2, hb5⟩; refine Hid.out ?_))
   refine qh ?_
   have X5 := qh (X4.out.move hb5)
   have HM5 := qh hM5; have HRB := qh hrb; have HRB2 := qh hrb2; have HB5 := qh hb5
   clear hM5 hrb hrb2 hb5 HRE HRC4 X4
   have hm2 := fun wx => make_bools q hq wx
   go_wp2
   go_loopg [47] q (fun g iv wr => ∃ (j : Nat), Hid (j + g = q) ∧ iv = .int .i64 j ∧ Hid (O1 w5 q (oldB l1 l) j wr))
   case atStart => exact ⟨0, qh (Nat.zero_add _), rfl, qh O1.zero⟩
   case round =>
    obtain ⟨j, Hj, rfl, XR⟩ := hrel
    by_cases hj : j < q
    ·have hbr := X5.out.below.trans (XR.out.b.mono X5.out.below.size)
     obtain ⟨b, o, m, E, u, v0, rfl, hbS, hm, huv, hv, hbo, g0, g1⟩ := (HL.out.under hbr HS.out).at_ hj
     have hmem : memAt l j = m := memAt_at hm
     have hul : m.on.length = u := hbo.len
     have hb1 : Below wr.heap.size wr (wr.alloc (.cells #[.int .i64 m.pl, .slice E u v0] 33)) := (Below.refl _ wr).alloc (qr _) _
     have hbr1 := hbr.trans (hb1.mono hbr.size)
     have XR1 := qh (XR.out.move hb1)
     have M1 := qh (Whole.new wr wr.heap.size 33 [.int .i64 m.pl, .slice E u v0] rfl)
     have hbl : b < wr.heap.size := ql (HS.out _ hbS) hbr.size
     have hj1 : (j : Int) < q := by omega
     have hj0 : (0 : Int) ≤ (j : Int) := by omega
     have hcf := containsF_M (RMem w S) (fun y => decide (m = y)) B1 q1 d1 l1 33 #[.pointer (some ⟨wr.heap.size, 0, none⟩)] (wr.alloc (.cells #[.int .i64 m.pl, .slice E u v0] 33)) S (RSeq.keep HL1.out (fun p hp => hbr1.cell (HS.out _ hp)) fun _ _ h => h) (fun x hx => ql (HS.out x hx) hbr1.size) (by unfold maxLen; omega)
      ⟨fun args W => by kernel_rfl, fun y hy cx W hb hr => oplan1_any w S m y E u v0 (hbo.keep (w' := w) fun p hp => (hbr.cell (HS.out _ hp)).symm) (by unfold maxLen at hv ⊢; omega) wr.heap.size cx hr HS.out W (hbr1.trans (hb.mono hbr1.size)) ((M1.out.below hb M1.out.lt).cell 0) ((M1.out.below hb M1.out.lt).cell 1)⟩ (fun x y h => shape_mem h)
     rw [show l1.any (fun y => decide (m = y)) = oldB l1 l j from by unfold oldB; rw [hmem]] at hcf
     have Hcf := qh hcf
     have HB1 := qh hb1
     clear hcf hbr hbr1 hb1 hmem hul hm hbo M1 hm2
     go_wp2_with (first | (go_at_call 32; refine Hcf.out.mono ?_; rintro e w4 ⟨rfl, hb4⟩; refine Hid.out ?_))
     refine qh ?_
     have XR2 := qh (XR1.out.move hb4)
     have hcj := XR2.out.o.cell j
     rw [List.getElem?_map, List.getElem?_range hj] at hcj
     simp only [Option.map_some] at hcj
     have holt := XR2.out.o.lt
     have hfj := XR2.out.o.free j
     have XR3 := qh XR2.out.next
     clear hb4 XR1 XR XR2 g0 g1
     go_wp2
     go_roundg (gk - 1)
     case measure => have := Hj.out; omega
     case rel => exact ⟨j + 1, qh (by have := Hj.out; omega), by go_num, XR3⟩
    ·obtain rfl : q = j := by have := Hj.out; omega
     have HO := qh XR.out.all
     have HBR := qh XR.out.b
     have Hcl := qh (cloneB_any (some ⟨w5.heap.size, 0, none⟩) q q ((List.range q).map fun k => .bool (oldB l1 l k)) wr (fun k => k = w5.heap.size) (Whole.row (S := fun k => k = w5.heap.size) HO.out rfl (by simp)) (fun u hu => by obtain ⟨x, _, rfl⟩ := List.mem_map.1 hu; rfl) (fun k hk => by rw [hk]; exact HO.out.lt) (by omega))
     clear XR hm2
     go_upto_region 16 with (first | (go_at_call 35; refine Hcl.out.mono ?_; rintro e w6 ⟨D, dc, rfl, hdc, hdm, hD, hb6⟩; refine Hid.out ?_))
     refine qh ?_
     obtain ⟨db, sp, hdb⟩ : ∃ (db : Nat) (sp : List Value), 0 < q → D = some ⟨db, 0, none⟩ ∧ wr.heap.size ≤ db ∧ db < w6.heap.size ∧ Whole w6 db 4 (((List.range q).map fun k => .bool (oldB l1 l k)) ++ sp) := by
      by_cases h0 : 0 < q
      ·obtain ⟨g, c', sp, he, hg, _, _, hw⟩ := own_whole hD h0
       injection he with he1 he2 he3
       exact ⟨g, sp, fun _ => ⟨he1, hg, hw.lt, hw⟩⟩
      ·exact ⟨0, [], fun h => absurd h h0⟩
     have HDB := qh hdb
     have hw56 : w5.heap.size < wr.heap.size := HO.out.lt
     have hw67 := hb6.size
     have K := (⟨by have := HW3.out; have := HBX.out; omega, by have := HW3.out; have := HB4.out.size; omega, HRB.out, HRB2.out, by omega, fun h => by have := (hdb h).2.1; omega, fun h => (hdb h).2.2.1⟩ : K2 w B4 w4.heap.size rb w5.heap.size db w6.heap.size q)
     have HK := qh K
     have hb7 : Below w6.heap.size w6 (w6.alloc (.cells ((List.range q).map fun _ => Value.int .i64 0).toArray 3)) := (Below.refl _ w6).alloc (qr _) _
     have hb57 := HBR.out.trans ((hb6.trans (hb7.mono hb6.size)).mono HBR.out.size)
     have P0 := qh (⟨X5.out.move hb57, Gz.of HG4.out (HB5.out.trans (hb57.mono HB5.out.size)) _, HM5.out.move hb57, (HO.out.below hb6 HO.out.lt).alloc _, fun h => ((hdb h).2.2.2).alloc _, Whole.new w6 _ 3 _ rfl⟩ : P2 w A n c B4 w4.heap.size rb w5.heap.size db w6.heap.size q (RB (edgeB ps l) q) (oldB l1 l) sp v4 cs4 (goneAc ps l1 l) ⟨oldB l1 l, fun _ => 0, 0⟩ (w6.alloc (.cells ((List.range q).map fun _ => Value.int .i64 0).toArray 3)))
     have HE0 : Hid (planE ps l1 l = 0) := qh (by unfold planE; rw [HZ.out, if_neg (by decide), HZ1.out])
     have HPL : Hid (goneAc ps l1 l ++ (planGo (RB (edgeB ps l) q) q (oldB l1 l) (q + 1) ⟨oldB l1 l, fun _ => 0, 0⟩).map (inAc l) = planR ps l1 l) := qh (by
      unfold planR planL planN reachB
      rw [if_pos HE0.out, HL.out.len]; rfl)
     have HAL : Hid ((goneAc ps l1 l).length ≤ q1) := qh (by
      have h := goneAc_len (ps := ps) (there := l1) (l := l) (j := q1)
      rwa [List.take_of_length_le (by rw [HL1.out.len]; exact qr _)] at h)
     have HLF : Hid (leftO q (oldB l1 l) < q + 1) := qh (Nat.lt_succ_of_le leftO_le)
     have HOWN := qh (fun (i : Nat) (hi : i < q) wx (hb : Below w.heap.size w wx) => (HL.out.under hb HS.out).at_ hi)
     have HFL := qh (flags14 HZ.out)
     have HLL := qh HL.out.len
     clear hdb hD hb6 hb7 hb57 K Hcl HO HBR X5 HM5 HRB HRB2 HB5 HG4 HB4 HBX HW3
     generalize RB (edgeB ps l) q = r at P0 HPL
     generalize oldB l1 l = old at P0 HPL HLF
     generalize goneAc ps l1 l = ga at P0 HPL HAL
     obtain ⟨PL, hPL⟩ : ∃ x, planR ps l1 l = x := ⟨_, rfl⟩
     rw [hPL] at HPL
     have HPLe := qh hPL
     clear hPL
     have hm3 := fun wx => make_ints q hq wx
     go_wp2
     go_loopg [11, 18] (q + 1) (fun g v11 v18 wx => ∃ (cs : List (List Value)) (acts : List Ac) (s : PSt), v18 = .int .i64 (s.cyc : Int) ∧ Hid (P2 w A n c B4 w4.heap.size rb w5.heap.size db w6.heap.size q r old sp v11 cs acts s wx) ∧ Hid (acts ++ (planGo r q old g s).map (inAc l) = PL) ∧ Hid (leftO q s.done < g) ∧ Hid (s.cyc + g ≤ q + 1) ∧ Hid (acts.length + g ≤ q1 + (q + 1)))
     case atStart => exact ⟨cs4, ga, ⟨old, fun _ => 0, 0⟩, rfl, P0, HPL, HLF, qh (by show 0 + (q + 1) ≤ q + 1; omega), qh (by have := HAL.out; omega)⟩
     case round =>
      obtain ⟨cs, acts, s, rfl, XP, HPG, HLG, HCG, HAG⟩ := hrel
      clear P0 HPL HAL HLF hm3
      go_wp2
      obtain ⟨wq, hwq⟩ : ∃ x, x = wr := ⟨_, rfl⟩
      obtain ⟨gq, hgq⟩ : ∃ x, x = gk := ⟨_, rfl⟩
      rw [← hwq] at XP ⊢
      rw [← hgq] at HPG HLG HCG HAG
      have HGQ := qh hgq
      clear hwq hgq
      go_loopg [19] q (fun g3 v19 wx => ∃ i : Nat, Hid (i + g3 = q) ∧ v19 = .int .i64 i ∧ Hid (∀ x, x < i → (!s.done x && readyB r q s.done x) = false) ∧ Hid (P2 w A n c B4 w4.heap.size rb w5.heap.size db w6.heap.size q r old sp u11 cs acts s wx))
      case atStart => exact ⟨0, qh (Nat.zero_add _), rfl, qh (fun x hx => by omega), XP⟩
      case round =>
       obtain ⟨i, Hi, rfl, Hall, XQ⟩ := hrel
       clear XP
       by_cases hi : i < q
       ·have hi1 : (i : Int) < q := by omega
        have hi0 : (0 : Int) ≤ (i : Int) := by omega
        have hq0 : 0 < q := by omega
        obtain ⟨rfl, _, _, _⟩ := HDB.out hq0
        have hdc := XQ.out.dcell hi
        have hdl := (XQ.out.d hq0).lt
        have hdf := (XQ.out.d hq0).free i
        have HRD := qh (oready_any r q hq s.done rb (some ⟨db, 0, none⟩) dc i wr (fun k => k = db) (XQ.out.dbools hq0) XQ.out.m hi (fun k hk => by rw [hk]; exact (XQ.out.d hq0).lt) (by have := HK.out.ro; have := XQ.out.o.lt; omega))
        have HNX : Hid ((!s.done i && readyB r q s.done i) = false → ∀ x, x < i + 1 → (!s.done x && readyB r q s.done x) = false) := qh fun h x hx => by
         by_cases e : x = i
         ·subst e; exact h
         ·exact Hall.out x (by omega)
        have HPK := qh (fun h1 h2 => pickO_at (r := r) hi h1 h2 Hall.out)
        generalize readyB r q s.done i = y at HRD HNX HPK
        generalize hx : s.done i = x at hdc HNX HPK
        have HX := qh hx; clear hx
        cases x
        ·cases y
         ·have HN := qh (HNX.out rfl)
          go_wp2_with (first | (go_at_call 36; refine HRD.out.mono ?_; rintro e w8 ⟨rfl, kq, rfl⟩; refine Hid.out ?_))
          refine qh ?_
          have XN := qh (XQ.out.move (below_drewN (Below.refl _ wr) kq))
          go_wp2
          go_roundg (gk - 1)
          case measure => have := Hi.out; omega
          case rel => exact ⟨i + 1, qh (by have := Hi.out; omega), by go_num, HN, XN⟩
         ·have HPI := qh (HPK.out rfl rfl)
          clear HNX HPK
          go_wp2_with (first | (go_at_call 36; refine HRD.out.mono ?_; rintro e w8 ⟨rfl, kq, rfl⟩; refine Hid.out ?_))
          refine qh ?_
          have XN := qh (XQ.out.move (below_drewN (Below.refl _ wr) kq))
          obtain ⟨wn, hwn⟩ : ∃ x, x = wr.drewN kq := ⟨_, rfl⟩
          rw [← hwn] at XN ⊢
          clear hwn hdc hdl hdf XQ HRD Hall
          have hdc := XN.out.dcell hi
          have hdl := (XN.out.d hq0).lt
          have hdf := (XN.out.d hq0).free i
          have XD := qh (XN.out.doneAt HK.out hi)
          have hnc2 := XD.out.ncell hi
          have hnl := XD.out.num.lt
          have hiq : ((i : Int) == (q : Int)) = false := by simp; omega
          dsimp only at hnc2
          have HLO := qh (oloops_any r q hq old rb (some ⟨w5.heap.size, 0, none⟩) q i _ (fun k => k = w5.heap.size) XD.out.obools XD.out.m hi (fun k hk => by rw [hk]; exact XD.out.o.lt))
          by_cases hn0 : s.num i = 0
          ·have hn0b : ((s.num i : Int) == 0) = true := by simpa using hn0
           have HN0 := qh hn0
           generalize hlb : loopsB r q old i = lb at HLO
           have HLB := qh hlb
           clear hn0 hlb
           cases lb
           ·go_wp2_with (first | (go_at_call 37; refine HLO.out.mono ?_; rintro e w8 ⟨rfl, kq, rfl⟩; refine Hid.out ?_))
            refine qh ?_
            have XZ := qh ((XD.out.step_no (fun h => by rw [HLB.out] at h; cases h.2)).move (below_drewN (Below.refl _ _) kq))
            obtain ⟨wz, hwz⟩ : ∃ x, x = (wn.setCell ⟨db, i, none⟩ (.bool true)).drewN kq := ⟨_, rfl⟩
            rw [← hwz] at XZ ⊢
            clear hwz hdc hdl hdf hnc2 hnl XN XD HLO hn0b
            obtain ⟨st, hst⟩ : ∃ x, x = stepP r q old s i := ⟨_, rfl⟩
            rw [← hst] at XZ
            have HST := qh hst
            clear hst
            obtain ⟨b, o, m, E, u, v0, rfl, hbS, hm, huv, hv, hbo, g0, g1⟩ := HOWN.out i hi w (Below.refl _ w)
            have hbw := HS.out _ hbS
            have G0 := qh g0; have G1 := qh g1
            have hul : m.on.length = u := hbo.len
            have hu100 : u ≤ 100000 := by rw [← hul]; exact HFL.out m (List.mem_of_getElem? hm)
            have HOA := qh (fun wx (hb : Below w.heap.size w wx) => oown_any m S E u v0 wx (Row.below hbo hb HS.out) hu100 (fun k hk => ql (HS.out k hk) hb.size))
            have HAC : Hid (inAc l (i, st.num i) = ⟨false, m, (st.num i : Int)⟩) := qh (by unfold inAc; rw [memAt_at hm])
            have HAG1 : Hid (acts.length + gq ≤ q1 + (q + 1)) := HAG
            have HPG1 : Hid ((acts ++ [⟨false, m, (st.num i : Int)⟩]) ++ (planGo r q old (gq - 1) st).map (inAc l) = PL) := qh (by
             have h1 := HPG.out; have h2 := HLG.out
             cases gq with
             | zero => omega
             | succ g =>
              rw [planGo_at HPI.out, ← HST.out, List.map_cons, HAC.out] at h1
              rw [Nat.add_sub_cancel, List.append_assoc]; exact h1)
            have HLG1 : Hid (leftO q st.done < gq - 1) := qh (by
             have h1 := leftO_step (old := old) HPI.out; have h2 := HLG.out
             rw [HST.out]; omega)
            have HCG1 : Hid (st.cyc + (gq - 1) ≤ q + 1) := qh (by
             have h1 := HCG.out; have h2 := HLG.out
             have h3 : st.cyc ≤ s.cyc + 1 := by rw [HST.out]; unfold stepP; split <;> simp
             omega)
            clear hul hbo hm g0 g1 hbS
            obtain ⟨i0, hi0', hz0', hz1', hz2'⟩ := act_info4
            have Hi0 := qh hi0'; have Hz0 := qh hz0'; have Hz1 := qh hz1'; have Hz2 := qh hz2'
            clear hi0' hz0' hz1' hz2'
            have XW := qh (XZ.out.move (below_drewN (Below.refl _ wz) 1))
            have HCY : Hid (Value.int .i64 (s.cyc : Int) = .int .i64 (st.cyc : Int)) := qh (by rw [HST.out]; unfold stepP; rw [if_neg (fun h => by rw [HLB.out] at h; cases h.2)])
            clear XZ
            go_wp2
            refine wp_region_held_drew (S := (fun w' => w'.cell? ⟨b, o + i * 2, none⟩ = some (.int .i64 m.pl) ∧ w'.cell? ⟨b, o + i * 2 + 1, none⟩ = some (.slice E u v0) ∧ w'.cell? ⟨w6.heap.size, i, none⟩ = some (.int .i64 (st.num i : Int)))) (by kernel_rfl) (⟨(XW.out.t.below.cell (p := ⟨b, o + i * 2, none⟩) hbw).trans G0.out, (XW.out.t.below.cell (p := ⟨b, o + i * 2 + 1, none⟩) hbw).trans G1.out, XW.out.ncell hi⟩) (fun hHeld => ?_)
            first | (refine tkA (v := ?_) held_at0 ?_ ?_; rotate_left; focus ((intro w_ hSw; (try dsimp only at hSw); go_simp; (try with_reducible rfl)); done)) | (refine tkB held_at0 ?_)
            (try simp only [Act.put, qsa, qsz, qss])
            first | (refine tkA (v := ?_) held_at1 ?_ ?_; rotate_left; focus ((intro w_ hSw; (try dsimp only at hSw); go_simp; (try with_reducible rfl)); done)) | (refine tkB held_at1 ?_)
            (try simp only [Act.put, qsa, qsz, qss])
            first | (refine tkA (v := ?_) held_at2 ?_ ?_; rotate_left; focus ((intro w_ hSw; (try dsimp only at hSw); go_simp; (try with_reducible rfl)); done)) | (refine tkB held_at2 ?_)
            (try simp only [Act.put, qsa, qsz, qss])
            first | (refine tkA (v := ?_) held_at3 ?_ ?_; rotate_left; focus ((intro w_ hSw; (try dsimp only at hSw); go_simp; (try with_reducible rfl)); done)) | (refine tkB held_at3 ?_)
            (try simp only [Act.put, qsa, qsz, qss])
            first | (refine tkA (v := ?_) held_at4 ?_ ?_; rotate_left; focus ((intro w_ hSw; (try dsimp only at hSw); go_simp; (try with_reducible rfl)); done)) | (refine tkB held_at4 ?_)
            (try simp only [Act.put, qsa, qsz, qss])
            first | (refine tkA (v := ?_) held_at6 ?_ ?_; rotate_left; focus ((intro w_ hSw; (try dsimp only at hSw); go_simp; (try with_reducible rfl)); done)) | (refine tkB held_at6 ?_)
            (try simp only [Act.put, qsa, qsz, qss])
            first | (refine tkA (v := ?_) held_at7 ?_ ?_; rotate_left; focus ((intro w_ hSw; (try dsimp only at hSw); go_simp; (try with_reducible rfl)); done)) | (refine tkB held_at7 ?_)
            (try simp only [Act.put, qsa, qsz, qss])
            first | (refine tkA (v := ?_) held_at8 ?_ ?_; rotate_left; focus ((intro w_ hSw; (try dsimp only at hSw); go_simp; (try with_reducible rfl)); done)) | (refine tkB held_at8 ?_)
            (try simp only [Act.put, qsa, qsz, qss])
            first | (refine tkA (v := ?_) held_at9 ?_ ?_; rotate_left; focus ((intro w_ hSw; (try dsimp only at hSw); go_simp; (try with_reducible rfl)); done)) | (refine tkB held_at9 ?_)
            (try simp only [Act.put, qsa, qsz, qss])
            refine wpAnyH_ready (rs := [5]) (by kernel_rfl) (by simp) ?_
            refine AllReadyH.cons held_at5 (fun K hK => ?_) AllReadyH.nil
            (try simp only [qsa, qsz, qss])
            go_simp
            go_at_call 38
            refine (HOA.out _ XW.out.t.below).mono ?_
            rintro e wv ⟨A5, c5, rfl, hc5, hm5, hr5, hb⟩
            have X5 := qh (XW.out.move hb)
            have HRA := qh (RAct.fresh2 (v := u11) (B := B4) (G := w4.heap.size) (F := w6.heap.size + 1) (m := m) false (st.num i : Int) hr5 ⟨hc5, hm5⟩ XW.out.g.le XW.out.num.lt (fun k hk => (XW.out.g.own.lt k hk).2))
            clear hr5 hb
            refine hK.out _ _ ⟨(X5.out.t.below.cell (p := ⟨b, o + i * 2, none⟩) hbw).trans G0.out, (X5.out.t.below.cell (p := ⟨b, o + i * 2 + 1, none⟩) hbw).trans G1.out, X5.out.ncell hi⟩ (fun hHeld => ?_)
            clear hK K
            (try simp only [Act.put, qsa, qsz, qss])
            first | (refine tkA (v := ?_) held_at10 ?_ ?_; rotate_left; focus ((intro w_ hSw; (try dsimp only at hSw); go_simp; (try with_reducible rfl)); done)) | (refine tkB held_at10 ?_)
            (try simp only [Act.put, qsa, qsz, qss])
            refine wpAnyH_ready (rs := [11]) (by kernel_rfl) (by simp) ?_
            refine AllReadyH.cons held_at11 (fun K hK => ?_) AllReadyH.nil
            (try simp only [qsa, qsz, qss])
            go_simp
            have hal : Below wv.heap.size wv (wv.alloc (.cells #[.bool false, .int .i64 m.pl, .slice A5 u c5, .int .i64 (st.num i : Int)] 48)) := (Below.refl _ wv).alloc (qr _) _
            have X6 := qh (X5.out.move hal)
            clear hal
            refine hK.out _ _ ⟨(X6.out.t.below.cell (p := ⟨b, o + i * 2, none⟩) hbw).trans G0.out, (X6.out.t.below.cell (p := ⟨b, o + i * 2 + 1, none⟩) hbw).trans G1.out, X6.out.ncell hi⟩ (fun hHeld => ?_)
            clear hK K
            (try simp only [Act.put, qsa, qsz, qss])
            refine wpAnyH_ready (rs := [12]) (by kernel_rfl) (by simp) ?_
            refine AllReadyH.cons held_at12 (fun K hK => ?_) AllReadyH.nil
            have HNC := qh (cells_new wv wv.heap.size [.bool false, .int .i64 m.pl, .slice A5 u c5, .int .i64 (st.num i : Int)] 48 rfl)
            have hag := HAG1.out
            have hle5 := X5.out.g.le
            refine step_append_ownO rfl (.tmp 135) (.tmp 146) 26 rfl B4 48 i0 (.agg #[.bool false, .int .i64 0, .slice none 0 0, .int .i64 0]) 4 48 Tryz.underlying26 Hi0.out Hz0.out Hz1.out Hz2.out rfl (by decide) u11 acts.length cs.flatten (by simp [Act.eval, Act.put]) X6.out.g.own ⟨wv.heap.size, 0, none⟩ 1 1 [.bool false, .int .i64 m.pl, .slice A5 u c5, .int .i64 (st.num i : Int)] (by simp [Act.eval, Act.put]) rfl HNC.out (by simp [Value.oneCell']) (by unfold maxLen; omega) (by omega) X6.out.g.le ?_
            intro v' w8 hown8 hg8 _ hv8
            have X8 := qh (X5.out.push HK.out HRA.out rfl hown8 hg8 (by simpa using hv8))
            clear hown8 hg8 hv8 HNC HRA X5 X6 hag hle5
            refine hK.out _ _ ⟨(X8.out.t.below.cell (p := ⟨b, o + i * 2, none⟩) hbw).trans G0.out, (X8.out.t.below.cell (p := ⟨b, o + i * 2 + 1, none⟩) hbw).trans G1.out, X8.out.ncell hi⟩ (fun hHeld => ?_)
            clear hK K
            (try simp only [Act.put, qsa, qsz, qss])
            first | (refine tkA (v := ?_) held_at13 ?_ ?_; rotate_left; focus ((intro w_ hSw; (try dsimp only at hSw); go_simp; (try with_reducible rfl)); done)) | (refine tkB held_at13 ?_)
            (try simp only [Act.put, qsa, qsz, qss])
            refine wpAnyH_done (by kernel_rfl) ?_ _
            go_wp2
            go_roundg (gq - 1)
            case measure => have := HGQ.out; have := HLG.out; omega
            case rel => exact ⟨_, _, st, HCY.out, X8, HPG1, HLG1, HCG1, qh (by have := HAG1.out; have := HLG.out; rw [List.length_append]; simp only [List.length_singleton]; omega)⟩
           ·go_wp2_with (first | (go_at_call 37; refine HLO.out.mono ?_; rintro e w8 ⟨rfl, kq, rfl⟩; refine Hid.out ?_))
            refine qh ?_
            have XL := qh ((XD.out.mid_zero (s := s)).move (below_drewN (Below.refl _ _) kq))
            obtain ⟨wl, hwl⟩ : ∃ x, x = (wn.setCell ⟨db, i, none⟩ (.bool true)).drewN kq := ⟨_, rfl⟩
            rw [← hwl] at XL ⊢
            clear hwl hdc hdl hdf hnc2 hnl XN XD HLO hn0b
            have hcyc : s.cyc ≤ 100001 := by have := HCG.out; omega
            go_wp2
            obtain ⟨wk, hwk⟩ : ∃ x, x = wl := ⟨_, rfl⟩
            rw [← hwk] at XL ⊢
            clear hwk
            go_loopg [106] q (fun g4 v106 wx => ∃ k : Nat, Hid (k + g4 = q) ∧ v106 = .int .i64 k ∧ Hid (P2 w A n c B4 w4.heap.size rb w5.heap.size db w6.heap.size q r old sp u11 cs acts (midP r s i k) wx))
            case atStart => exact ⟨0, qh (Nat.zero_add _), rfl, XL⟩
            case round =>
             obtain ⟨k, Hk, rfl, XM⟩ := hrel
             clear XL
             by_cases hk : k < q
             ·have hk1 : (k : Int) < q := by omega
              have hk0 : (0 : Int) ≤ (k : Int) := by omega
              have hhi := XM.out.m.hdr hi hi
              have hhk := XM.out.m.hdr hk hk
              have hxk := XM.out.m.cell hi hk
              have hyk := XM.out.m.cell hk hi
              have hl0 := XM.out.m.o.lt
              have hl1 := (XM.out.m.r i hi).lt
              have hl2 := (XM.out.m.r k hk).lt
              have hnk := XM.out.ncell hk
              have hnf := XM.out.num.free k
              have hnl := XM.out.num.lt
              have HS1 := qh (fun h => XM.out.mid_set HK.out (k := k) h)
              have HS0 := qh (fun h => XM.out.mid_skip (k := k) h)
              by_cases hki : k = i
              ·have hkib : ((k : Int) == (i : Int)) = true := by rw [hki]; simp
               have XS := qh (HS1.out (by unfold ringB; rw [decide_eq_true hki]; rfl))
               clear hki HS1 HS0
               go_wp2
               go_roundg (gk - 1)
               case measure => have := Hk.out; omega
               case rel => exact ⟨k + 1, qh (by have := Hk.out; omega), by go_num, XS⟩
              ·have hkib : ((k : Int) == (i : Int)) = false := by rw [beq_eq_false_iff_ne]; omega
               have HRG : Hid (ringB r i k = (r i k && r k i)) := qh (by unfold ringB; rw [decide_eq_false hki]; rfl)
               clear hki
               generalize r i k = x at hxk HRG
               generalize r k i = y at hyk HRG
               cases x
               ·have XS := qh (HS0.out HRG.out)
                clear HS1 HS0
                go_wp2
                go_roundg (gk - 1)
                case measure => have := Hk.out; omega
                case rel => exact ⟨k + 1, qh (by have := Hk.out; omega), by go_num, XS⟩
               ·cases y
                ·have XS := qh (HS0.out HRG.out)
                 clear HS1 HS0
                 go_wp2
                 go_roundg (gk - 1)
                 case measure => have := Hk.out; omega
                 case rel => exact ⟨k + 1, qh (by have := Hk.out; omega), by go_num, XS⟩
                ·have XS := qh (HS1.out HRG.out)
                 clear HS1 HS0
                 go_wp2
                 go_roundg (gk - 1)
                 case measure => have := Hk.out; omega
                 case rel => exact ⟨k + 1, qh (by have := Hk.out; omega), by go_num, XS⟩
             ·obtain rfl : q = k := by have := Hk.out; omega
              have XZ := qh (XM.out.mid_end HN0.out HLB.out)
              obtain ⟨wz, hwz⟩ : ∃ x, x = wr := ⟨_, rfl⟩
              rw [← hwz] at XZ ⊢
              clear hwz XM
              obtain ⟨st, hst⟩ : ∃ x, x = stepP r q old s i := ⟨_, rfl⟩
              rw [← hst] at XZ
              have HST := qh hst
              clear hst
              obtain ⟨b, o, m, E, u, v0, rfl, hbS, hm, huv, hv, hbo, g0, g1⟩ := HOWN.out i hi w (Below.refl _ w)
              have hbw := HS.out _ hbS
              have G0 := qh g0; have G1 := qh g1
              have hul : m.on.length = u := hbo.len
              have hu100 : u ≤ 100000 := by rw [← hul]; exact HFL.out m (List.mem_of_getElem? hm)
              have HOA := qh (fun wx (hb : Below w.heap.size w wx) => oown_any m S E u v0 wx (Row.below hbo hb HS.out) hu100 (fun k hk => ql (HS.out k hk) hb.size))
              have HAC : Hid (inAc l (i, st.num i) = ⟨false, m, (st.num i : Int)⟩) := qh (by unfold inAc; rw [memAt_at hm])
              have HAG1 : Hid (acts.length + gq ≤ q1 + (q + 1)) := HAG
              have HPG1 : Hid ((acts ++ [⟨false, m, (st.num i : Int)⟩]) ++ (planGo r q old (gq - 1) st).map (inAc l) = PL) := qh (by
               have h1 := HPG.out; have h2 := HLG.out
               cases gq with
               | zero => omega
               | succ g =>
                rw [planGo_at HPI.out, ← HST.out, List.map_cons, HAC.out] at h1
                rw [Nat.add_sub_cancel, List.append_assoc]; exact h1)
              have HLG1 : Hid (leftO q st.done < gq - 1) := qh (by
               have h1 := leftO_step (old := old) HPI.out; have h2 := HLG.out
               rw [HST.out]; omega)
              have HCG1 : Hid (st.cyc + (gq - 1) ≤ q + 1) := qh (by
               have h1 := HCG.out; have h2 := HLG.out
               have h3 : st.cyc ≤ s.cyc + 1 := by rw [HST.out]; unfold stepP; split <;> simp
               omega)
              clear hul hbo hm g0 g1 hbS
              obtain ⟨i0, hi0', hz0', hz1', hz2'⟩ := act_info4
              have Hi0 := qh hi0'; have Hz0 := qh hz0'; have Hz1 := qh hz1'; have Hz2 := qh hz2'
              clear hi0' hz0' hz1' hz2'
              have XW := qh (XZ.out.move (below_drewN (Below.refl _ wz) 1))
              have HCY : Hid (Value.int .i64 ((s.cyc : Int) + 1) = .int .i64 (st.cyc : Int)) := qh (by rw [HST.out]; unfold stepP; rw [if_pos ⟨HN0.out, HLB.out⟩]; rfl)
              clear XZ
              go_wp2
              refine wp_region_held_drew (S := (fun w' => w'.cell? ⟨b, o + i * 2, none⟩ = some (.int .i64 m.pl) ∧ w'.cell? ⟨b, o + i * 2 + 1, none⟩ = some (.slice E u v0) ∧ w'.cell? ⟨w6.heap.size, i, none⟩ = some (.int .i64 (st.num i : Int)))) (by kernel_rfl) (⟨(XW.out.t.below.cell (p := ⟨b, o + i * 2, none⟩) hbw).trans G0.out, (XW.out.t.below.cell (p := ⟨b, o + i * 2 + 1, none⟩) hbw).trans G1.out, XW.out.ncell hi⟩) (fun hHeld => ?_)
              first | (refine tkA (v := ?_) held_at0 ?_ ?_; rotate_left; focus ((intro w_ hSw; (try dsimp only at hSw); go_simp; (try with_reducible rfl)); done)) | (refine tkB held_at0 ?_)
              (try simp only [Act.put, qsa, qsz, qss])
              first | (refine tkA (v := ?_) held_at1 ?_ ?_; rotate_left; focus ((intro w_ hSw; (try dsimp only at hSw); go_simp; (try with_reducible rfl)); done)) | (refine tkB held_at1 ?_)
              (try simp only [Act.put, qsa, qsz, qss])
              first | (refine tkA (v := ?_) held_at2 ?_ ?_; rotate_left; focus ((intro w_ hSw; (try dsimp only at hSw); go_simp; (try with_reducible rfl)); done)) | (refine tkB held_at2 ?_)
              (try simp only [Act.put, qsa, qsz, qss])
              first | (refine tkA (v := ?_) held_at3 ?_ ?_; rotate_left; focus ((intro w_ hSw; (try dsimp only at hSw); go_simp; (try with_reducible rfl)); done)) | (refine tkB held_at3 ?_)
              (try simp only [Act.put, qsa, qsz, qss])
              first | (refine tkA (v := ?_) held_at4 ?_ ?_; rotate_left; focus ((intro w_ hSw; (try dsimp only at hSw); go_simp; (try with_reducible rfl)); done)) | (refine tkB held_at4 ?_)
              (try simp only [Act.put, qsa, qsz, qss])
              first | (refine tkA (v := ?_) held_at6 ?_ ?_; rotate_left; focus ((intro w_ hSw; (try dsimp only at hSw); go_simp; (try with_reducible rfl)); done)) | (refine tkB held_at6 ?_)
              (try simp only [Act.put, qsa, qsz, qss])
              first | (refine tkA (v := ?_) held_at7 ?_ ?_; rotate_left; focus ((intro w_ hSw; (try dsimp only at hSw); go_simp; (try with_reducible rfl)); done)) | (refine tkB held_at7 ?_)
              (try simp only [Act.put, qsa, qsz, qss])
              first | (refine tkA (v := ?_) held_at8 ?_ ?_; rotate_left; focus ((intro w_ hSw; (try dsimp only at hSw); go_simp; (try with_reducible rfl)); done)) | (refine tkB held_at8 ?_)
              (try simp only [Act.put, qsa, qsz, qss])
              first | (refine tkA (v := ?_) held_at9 ?_ ?_; rotate_left; focus ((intro w_ hSw; (try dsimp only at hSw); go_simp; (try with_reducible rfl)); done)) | (refine tkB held_at9 ?_)
              (try simp only [Act.put, qsa, qsz, qss])
              refine wpAnyH_ready (rs := [5]) (by kernel_rfl) (by simp) ?_
              refine AllReadyH.cons held_at5 (fun K hK => ?_) AllReadyH.nil
              (try simp only [qsa, qsz, qss])
              go_simp
              go_at_call 38
              refine (HOA.out _ XW.out.t.below).mono ?_
              rintro e wv ⟨A5, c5, rfl, hc5, hm5, hr5, hb⟩
              have X5 := qh (XW.out.move hb)
              have HRA := qh (RAct.fresh2 (v := u11) (B := B4) (G := w4.heap.size) (F := w6.heap.size + 1) (m := m) false (st.num i : Int) hr5 ⟨hc5, hm5⟩ XW.out.g.le XW.out.num.lt (fun k hk => (XW.out.g.own.lt k hk).2))
              clear hr5 hb
              refine hK.out _ _ ⟨(X5.out.t.below.cell (p := ⟨b, o + i * 2, none⟩) hbw).trans G0.out, (X5.out.t.below.cell (p := ⟨b, o + i * 2 + 1, none⟩) hbw).trans G1.out, X5.out.ncell hi⟩ (fun hHeld => ?_)
              clear hK K
              (try simp only [Act.put, qsa, qsz, qss])
              first | (refine tkA (v := ?_) held_at10 ?_ ?_; rotate_left; focus ((intro w_ hSw; (try dsimp only at hSw); go_simp; (try with_reducible rfl)); done)) | (refine tkB held_at10 ?_)
              (try simp only [Act.put, qsa, qsz, qss])
              refine wpAnyH_ready (rs := [11]) (by kernel_rfl) (by simp) ?_
              refine AllReadyH.cons held_at11 (fun K hK => ?_) AllReadyH.nil
              (try simp only [qsa, qsz, qss])
              go_simp
              have hal : Below wv.heap.size wv (wv.alloc (.cells #[.bool false, .int .i64 m.pl, .slice A5 u c5, .int .i64 (st.num i : Int)] 48)) := (Below.refl _ wv).alloc (qr _) _
              have X6 := qh (X5.out.move hal)
              clear hal
              refine hK.out _ _ ⟨(X6.out.t.below.cell (p := ⟨b, o + i * 2, none⟩) hbw).trans G0.out, (X6.out.t.below.cell (p := ⟨b, o + i * 2 + 1, none⟩) hbw).trans G1.out, X6.out.ncell hi⟩ (fun hHeld => ?_)
              clear hK K
              (try simp only [Act.put, qsa, qsz, qss])
              refine wpAnyH_ready (rs := [12]) (by kernel_rfl) (by simp) ?_
              refine AllReadyH.cons held_at12 (fun K hK => ?_) AllReadyH.nil
              have HNC := qh (cells_new wv wv.heap.size [.bool false, .int .i64 m.pl, .slice A5 u c5, .int .i64 (st.num i : Int)] 48 rfl)
              have hag := HAG1.out
              have hle5 := X5.out.g.le
              refine step_append_ownO rfl (.tmp 135) (.tmp 146) 26 rfl B4 48 i0 (.agg #[.bool false, .int .i64 0, .slice none 0 0, .int .i64 0]) 4 48 Tryz.underlying26 Hi0.out Hz0.out Hz1.out Hz2.out rfl (by decide) u11 acts.length cs.flatten (by simp [Act.eval, Act.put]) X6.out.g.own ⟨wv.heap.size, 0, none⟩ 1 1 [.bool false, .int .i64 m.pl, .slice A5 u c5, .int .i64 (st.num i : Int)] (by simp [Act.eval, Act.put]) rfl HNC.out (by simp [Value.oneCell']) (by unfold maxLen; omega) (by omega) X6.out.g.le ?_
              intro v' w8 hown8 hg8 _ hv8
              have X8 := qh (X5.out.push HK.out HRA.out rfl hown8 hg8 (by simpa using hv8))
              clear hown8 hg8 hv8 HNC HRA X5 X6 hag hle5
              refine hK.out _ _ ⟨(X8.out.t.below.cell (p := ⟨b, o + i * 2, none⟩) hbw).trans G0.out, (X8.out.t.below.cell (p := ⟨b, o + i * 2 + 1, none⟩) hbw).trans G1.out, X8.out.ncell hi⟩ (fun hHeld => ?_)
              clear hK K
              (try simp only [Act.put, qsa, qsz, qss])
              first | (refine tkA (v := ?_) held_at13 ?_ ?_; rotate_left; focus ((intro w_ hSw; (try dsimp only at hSw); go_simp; (try with_reducible rfl)); done)) | (refine tkB held_at13 ?_)
              (try simp only [Act.put, qsa, qsz, qss])
              refine wpAnyH_done (by kernel_rfl) ?_ _
              go_wp2
              go_roundg (gq - 1)
              case measure => have := HGQ.out; have := HLG.out; omega
              case rel => exact ⟨_, _, st, HCY.out, X8, HPG1, HLG1, HCG1, qh (by have := HAG1.out; have := HLG.out; rw [List.length_append]; simp only [List.length_singleton]; omega)⟩
          ·have hn0b : ((s.num i : Int) == 0) = false := by simpa using hn0
           have HN0 := qh hn0
           clear hn0
           go_wp2
           have XZ := qh (XD.out.step_no (fun h => HN0.out h.1))
           obtain ⟨wz, hwz⟩ : ∃ x, x = wn.setCell ⟨db, i, none⟩ (.bool true) := ⟨_, rfl⟩
           rw [← hwz] at XZ ⊢
           clear hwz hdc hdl hdf hnc2 hnl XN XD HLO hn0b
           obtain ⟨st, hst⟩ : ∃ x, x = stepP r q old s i := ⟨_, rfl⟩
           rw [← hst] at XZ
           have HST := qh hst
           clear hst
           obtain ⟨b, o, m, E, u, v0, rfl, hbS, hm, huv, hv, hbo, g0, g1⟩ := HOWN.out i hi w (Below.refl _ w)
           have hbw := HS.out _ hbS
           have G0 := qh g0; have G1 := qh g1
           have hul : m.on.length = u := hbo.len
           have hu100 : u ≤ 100000 := by rw [← hul]; exact HFL.out m (List.mem_of_getElem? hm)
           have HOA := qh (fun wx (hb : Below w.heap.size w wx) => oown_any m S E u v0 wx (Row.below hbo hb HS.out) hu100 (fun k hk => ql (HS.out k hk) hb.size))
           have HAC : Hid (inAc l (i, st.num i) = ⟨false, m, (st.num i : Int)⟩) := qh (by unfold inAc; rw [memAt_at hm])
           have HAG1 : Hid (acts.length + gq ≤ q1 + (q + 1)) := HAG
           have HPG1 : Hid ((acts ++ [⟨false, m, (st.num i : Int)⟩]) ++ (planGo r q old (gq - 1) st).map (inAc l) = PL) := qh (by
            have h1 := HPG.out; have h2 := HLG.out
            cases gq with
            | zero => omega
            | succ g =>
             rw [planGo_at HPI.out, ← HST.out, List.map_cons, HAC.out] at h1
             rw [Nat.add_sub_cancel, List.append_assoc]; exact h1)
           have HLG1 : Hid (leftO q st.done < gq - 1) := qh (by
            have h1 := leftO_step (old := old) HPI.out; have h2 := HLG.out
            rw [HST.out]; omega)
           have HCG1 : Hid (st.cyc + (gq - 1) ≤ q + 1) := qh (by
            have h1 := HCG.out; have h2 := HLG.out
            have h3 : st.cyc ≤ s.cyc + 1 := by rw [HST.out]; unfold stepP; split <;> simp
            omega)
           clear hul hbo hm g0 g1 hbS
           obtain ⟨i0, hi0', hz0', hz1', hz2'⟩ := act_info4
           have Hi0 := qh hi0'; have Hz0 := qh hz0'; have Hz1 := qh hz1'; have Hz2 := qh hz2'
           clear hi0' hz0' hz1' hz2'
           have XW := qh (XZ.out.move (below_drewN (Below.refl _ wz) 1))
           have HCY : Hid (Value.int .i64 (s.cyc : Int) = .int .i64 (st.cyc : Int)) := qh (by rw [HST.out]; unfold stepP; rw [if_neg (fun h => HN0.out h.1)])
           clear XZ
           refine wp_region_held_drew (S := (fun w' => w'.cell? ⟨b, o + i * 2, none⟩ = some (.int .i64 m.pl) ∧ w'.cell? ⟨b, o + i * 2 + 1, none⟩ = some (.slice E u v0) ∧ w'.cell? ⟨w6.heap.size, i, none⟩ = some (.int .i64 (st.num i : Int)))) (by kernel_rfl) (⟨(XW.out.t.below.cell (p := ⟨b, o + i * 2, none⟩) hbw).trans G0.out, (XW.out.t.below.cell (p := ⟨b, o + i * 2 + 1, none⟩) hbw).trans G1.out, XW.out.ncell hi⟩) (fun hHeld => ?_)
           first | (refine tkA (v := ?_) held_at0 ?_ ?_; rotate_left; focus ((intro w_ hSw; (try dsimp only at hSw); go_simp; (try with_reducible rfl)); done)) | (refine tkB held_at0 ?_)
           (try simp only [Act.put, qsa, qsz, qss])
           first | (refine tkA (v := ?_) held_at1 ?_ ?_; rotate_left; focus ((intro w_ hSw; (try dsimp only at hSw); go_simp; (try with_reducible rfl)); done)) | (refine tkB held_at1 ?_)
           (try simp only [Act.put, qsa, qsz, qss])
           first | (refine tkA (v := ?_) held_at2 ?_ ?_; rotate_left; focus ((intro w_ hSw; (try dsimp only at hSw); go_simp; (try with_reducible rfl)); done)) | (refine tkB held_at2 ?_)
           (try simp only [Act.put, qsa, qsz, qss])
           first | (refine tkA (v := ?_) held_at3 ?_ ?_; rotate_left; focus ((intro w_ hSw; (try dsimp only at hSw); go_simp; (try with_reducible rfl)); done)) | (refine tkB held_at3 ?_)
           (try simp only [Act.put, qsa, qsz, qss])
           first | (refine tkA (v := ?_) held_at4 ?_ ?_; rotate_left; focus ((intro w_ hSw; (try dsimp only at hSw); go_simp; (try with_reducible rfl)); done)) | (refine tkB held_at4 ?_)
           (try simp only [Act.put, qsa, qsz, qss])
           first | (refine tkA (v := ?_) held_at6 ?_ ?_; rotate_left; focus ((intro w_ hSw; (try dsimp only at hSw); go_simp; (try with_reducible rfl)); done)) | (refine tkB held_at6 ?_)
           (try simp only [Act.put, qsa, qsz, qss])
           first | (refine tkA (v := ?_) held_at7 ?_ ?_; rotate_left; focus ((intro w_ hSw; (try dsimp only at hSw); go_simp; (try with_reducible rfl)); done)) | (refine tkB held_at7 ?_)
           (try simp only [Act.put, qsa, qsz, qss])
           first | (refine tkA (v := ?_) held_at8 ?_ ?_; rotate_left; focus ((intro w_ hSw; (try dsimp only at hSw); go_simp; (try with_reducible rfl)); done)) | (refine tkB held_at8 ?_)
           (try simp only [Act.put, qsa, qsz, qss])
           first | (refine tkA (v := ?_) held_at9 ?_ ?_; rotate_left; focus ((intro w_ hSw; (try dsimp only at hSw); go_simp; (try with_reducible rfl)); done)) | (refine tkB held_at9 ?_)
           (try simp only [Act.put, qsa, qsz, qss])
           refine wpAnyH_ready (rs := [5]) (by kernel_rfl) (by simp) ?_
           refine AllReadyH.cons held_at5 (fun K hK => ?_) AllReadyH.nil
           (try simp only [qsa, qsz, qss])
           go_simp
           go_at_call 38
           refine (HOA.out _ XW.out.t.below).mono ?_
           rintro e wv ⟨A5, c5, rfl, hc5, hm5, hr5, hb⟩
           have X5 := qh (XW.out.move hb)
           have HRA := qh (RAct.fresh2 (v := u11) (B := B4) (G := w4.heap.size) (F := w6.heap.size + 1) (m := m) false (st.num i : Int) hr5 ⟨hc5, hm5⟩ XW.out.g.le XW.out.num.lt (fun k hk => (XW.out.g.own.lt k hk).2))
           clear hr5 hb
           refine hK.out _ _ ⟨(X5.out.t.below.cell (p := ⟨b, o + i * 2, none⟩) hbw).trans G0.out, (X5.out.t.below.cell (p := ⟨b, o + i * 2 + 1, none⟩) hbw).trans G1.out, X5.out.ncell hi⟩ (fun hHeld => ?_)
           clear hK K
           (try simp only [Act.put, qsa, qsz, qss])
           first | (refine tkA (v := ?_) held_at10 ?_ ?_; rotate_left; focus ((intro w_ hSw; (try dsimp only at hSw); go_simp; (try with_reducible rfl)); done)) | (refine tkB held_at10 ?_)
           (try simp only [Act.put, qsa, qsz, qss])
           refine wpAnyH_ready (rs := [11]) (by kernel_rfl) (by simp) ?_
           refine AllReadyH.cons held_at11 (fun K hK => ?_) AllReadyH.nil
           (try simp only [qsa, qsz, qss])
           go_simp
           have hal : Below wv.heap.size wv (wv.alloc (.cells #[.bool false, .int .i64 m.pl, .slice A5 u c5, .int .i64 (st.num i : Int)] 48)) := (Below.refl _ wv).alloc (qr _) _
           have X6 := qh (X5.out.move hal)
           clear hal
           refine hK.out _ _ ⟨(X6.out.t.below.cell (p := ⟨b, o + i * 2, none⟩) hbw).trans G0.out, (X6.out.t.below.cell (p := ⟨b, o + i * 2 + 1, none⟩) hbw).trans G1.out, X6.out.ncell hi⟩ (fun hHeld => ?_)
           clear hK K
           (try simp only [Act.put, qsa, qsz, qss])
           refine wpAnyH_ready (rs := [12]) (by kernel_rfl) (by simp) ?_
           refine AllReadyH.cons held_at12 (fun K hK => ?_) AllReadyH.nil
           have HNC := qh (cells_new wv wv.heap.size [.bool false, .int .i64 m.pl, .slice A5 u c5, .int .i64 (st.num i : Int)] 48 rfl)
           have hag := HAG1.out
           have hle5 := X5.out.g.le
           refine step_append_ownO rfl (.tmp 135) (.tmp 146) 26 rfl B4 48 i0 (.agg #[.bool false, .int .i64 0, .slice none 0 0, .int .i64 0]) 4 48 Tryz.underlying26 Hi0.out Hz0.out Hz1.out Hz2.out rfl (by decide) u11 acts.length cs.flatten (by simp [Act.eval, Act.put]) X6.out.g.own ⟨wv.heap.size, 0, none⟩ 1 1 [.bool false, .int .i64 m.pl, .slice A5 u c5, .int .i64 (st.num i : Int)] (by simp [Act.eval, Act.put]) rfl HNC.out (by simp [Value.oneCell']) (by unfold maxLen; omega) (by omega) X6.out.g.le ?_
           intro v' w8 hown8 hg8 _ hv8
           have X8 := qh (X5.out.push HK.out HRA.out rfl hown8 hg8 (by simpa using hv8))
           clear hown8 hg8 hv8 HNC HRA X5 X6 hag hle5
           refine hK.out _ _ ⟨(X8.out.t.below.cell (p := ⟨b, o + i * 2, none⟩) hbw).trans G0.out, (X8.out.t.below.cell (p := ⟨b, o + i * 2 + 1, none⟩) hbw).trans G1.out, X8.out.ncell hi⟩ (fun hHeld => ?_)
           clear hK K
           (try simp only [Act.put, qsa, qsz, qss])
           first | (refine tkA (v := ?_) held_at13 ?_ ?_; rotate_left; focus ((intro w_ hSw; (try dsimp only at hSw); go_simp; (try with_reducible rfl)); done)) | (refine tkB held_at13 ?_)
           (try simp only [Act.put, qsa, qsz, qss])
           refine wpAnyH_done (by kernel_rfl) ?_ _
           go_wp2
           go_roundg (gq - 1)
           case measure => have := HGQ.out; have := HLG.out; omega
           case rel => exact ⟨_, _, st, HCY.out, X8, HPG1, HLG1, HCG1, qh (by have := HAG1.out; have := HLG.out; rw [List.length_append]; simp only [List.length_singleton]; omega)⟩
        ·have HN := qh (HNX.out rfl)
         clear HNX HPK
         go_wp2
         go_roundg (gk - 1)
         case measure => have := Hi.out; omega
         case rel => exact ⟨i + 1, qh (by have := Hi.out; omega), by go_num, HN, XQ⟩
       ·obtain rfl : q = i := by have := Hi.out; omega
        have HFIN : Hid (acts = PL) := qh (by
         have h1 := HPG.out; have h2 := HLG.out
         cases gq with
         | zero => omega
         | succ g => rw [planGo_no (pickO_no Hall.out)] at h1; simpa using h1)
        have HGF : Hid (PlanPost w ps l1 l (.returned (.tuple #[u11, .int .i64 0])) wr) := qh ⟨u11, cs, B4, by rw [HE0.out], Nat.le_of_lt HK.out.bb, by rw [HPLe.out, ← HFIN.out]; exact XQ.out.g.gs, XQ.out.t.below⟩
        go_wp2
        go_ret2
        exact HGF.out
  ·have HZE : Hid (planE ps l1 l = z1) := qh (by unfold planE; rw [if_neg (fun h => h HZ.out)]; exact HZ1.out)
   have hzb : (z1 == 0) = false := by simpa using hz1
   go_wp2
   go_ret2
   exact PlanPost.err hz1 HZE.out X3.out.below
 ·have HZE : Hid (planE ps l1 l = z) := qh (by unfold planE; rw [HZ.out, if_pos hz0])
  have hzb : (z == 0) = false := by simpa using hz0
  go_wp2
  go_ret2
  exact PlanPost.err hz0 HZE.out X2.out.below
end
end Go.Proofs.YtpipgffbhpnmkaaGreatDoor
