/- Parts of the proof: walks and plain laws, side by side. -/
import Derived.Test.YtpipgffbhpnmkaaGreatDoorM18
import Derived.Test.YtpipgffbhpnmkaaGreatDoorM15
import Derived.Laws.Rows
import Derived.Test.YtpipgffbhpnmkaaGreatDoorProg
import Derived.Test.YtpipgffbhpnmkaaGreatDoorM1
import Derived.Deep.LoopGhost
set_option linter.unusedVariables false
set_option linter.unusedSimpArgs false
set_option linter.unusedSectionVars false
/- order.own, order.gone, walked. -/
namespace Go.Proofs.YtpipgffbhpnmkaaGreatDoor
open Go.RowKit Qm

def RAct (w : World) (S : Nat → Prop) (x : List Value) (a : Ac) : Prop := ∃ A n c, x = [.bool a.out, .int .i64 a.m.pl, .slice A n c, .int .i64 a.cyc] ∧ n ≤ c ∧ c ≤ maxLen ∧ RBools w S A n a.m.on
theorem RAct.keep {w w' : World} {S : Nat → Prop} {x : List Value} {a : Ac} (h : RAct w S x a) (hw : ∀ p : Addr, S p.block → w'.cell? p = w.cell? p) : RAct w' S x a := by
 obtain ⟨A, n, c, rfl, h1, h2, h3⟩ := h; exact ⟨A, n, c, rfl, h1, h2, Row.keep h3 hw⟩
theorem RAct.more {w : World} {S S' : Nat → Prop} {x : List Value} {a : Ac} (hS : ∀ k, S k → S' k) (h : RAct w S x a) : RAct w S' x a := by
 obtain ⟨A, n, c, rfl, h1, h2, h3⟩ := h; exact ⟨A, n, c, rfl, h1, h2, Row.more h3 hS⟩
structure Gs (B : Nat) (v : Value) (cs : List (List Value)) (acts : List Ac) (wr : World) : Prop where
 own : wr.ownsRow B 48 4 v acts.length cs.flatten
 len : cs.length = acts.length
 four : ∀ x ∈ cs, x.length = 4
 row : ∀ (j : Nat) (x : List Value) (a : Ac), cs[j]? = some x → acts[j]? = some a → RAct wr (fun k => B ≤ k ∧ k < wr.heap.size ∧ v.ownBlock ≠ some k) x a
 le : B ≤ wr.heap.size
section
variable {B : Nat} {v v8 : Value} {cs : List (List Value)} {acts : List Ac} {wr wy w8 : World} {x : List Value} {a : Ac}
theorem Gs.move (h : Gs B v cs acts wr) (hb : Below wr.heap.size wr wy) : Gs B v cs acts wy :=
 ⟨(Far.of_below (fun _ => False) hb).own h.own fun _ _ h => h, h.len, h.four, fun j x a h1 h2 => ((h.row j x a h1 h2).keep fun p hp => hb.cell hp.2.1).more fun k hk => ⟨hk.1, ql hk.2.1 hb.size, hk.2.2⟩, Nat.le_trans h.le hb.size⟩
theorem Gs.nil_ {w : World} : Gs w.heap.size (.slice none 0 0) [] [] w := ⟨World.ownsRow_nil _ _ _ _, rfl, fun x hx => (by cases hx), fun j x a h1 _ => (by simp at h1), qr _⟩
theorem Gs.push (h : Gs B v cs acts wr) (hx : RAct wr (fun k => B ≤ k ∧ k < wr.heap.size ∧ v.ownBlock ≠ some k) x a) (h4 : x.length = 4) {o : Obj} (hown : w8.ownsRow B 48 4 v8 (acts.length + 1) (cs.flatten ++ x)) (hg : (wr.alloc o).grownBy w8 v.ownBlock)
  (hv : v8.ownBlock = v.ownBlock ∨ v8.ownBlock = some (wr.alloc o).heap.size) : Gs B v8 (cs ++ [x]) (acts ++ [a]) w8 ∧ Far (fun i => v.ownBlock = some i) wr w8 := by
 have hal : Below wr.heap.size wr (wr.alloc o) := (Below.refl _ wr).alloc (qr _) _
 have far : Far (fun i => v.ownBlock = some i) wr w8 := (Far.of_below _ hal).trans (Far.of_grown hg fun i h => h.symm) fun _ _ h => h
 have hS : ∀ k, (B ≤ k ∧ k < wr.heap.size ∧ v.ownBlock ≠ some k) → (B ≤ k ∧ k < w8.heap.size ∧ v8.ownBlock ≠ some k) := fun k hk => ⟨hk.1, ql hk.2.1 far.size, by
  rcases hv with e | e
  ·rw [e]; exact hk.2.2
  ·rw [e]; intro e2; injection e2 with e2; simp at e2; omega⟩
 refine ⟨⟨by rw [List.length_append, List.flatten_append]; simpa using hown, by simp [h.len], fun y hy => ?_, fun j y b h1 h2 => ?_, Nat.le_trans h.le far.size⟩, far⟩
 ·rcases List.mem_append.1 hy with hy | hy
  ·exact h.four y hy
  ·rw [List.mem_singleton.1 hy]; exact h4
 ·have hold : RAct wr (fun k => B ≤ k ∧ k < wr.heap.size ∧ v.ownBlock ≠ some k) y b := by
   by_cases hj : j < cs.length
   ·rw [List.getElem?_append_left hj] at h1
    rw [List.getElem?_append_left (by rw [← h.len]; exact hj)] at h2
    exact h.row j y b h1 h2
   ·rw [List.getElem?_append_right (by omega)] at h1
    rw [List.getElem?_append_right (by rw [← h.len]; omega), ← h.len] at h2
    obtain ⟨e1, e2⟩ : y = x ∧ b = a := by
     cases hk : j - cs.length with
     | zero => rw [hk] at h1 h2; simp at h1 h2; exact ⟨h1.symm, h2.symm⟩
     | succ i => rw [hk] at h1; simp at h1
    subst e1 e2; exact hx
  exact (hold.keep fun p hp => far.cell hp.2.1 fun e => hp.2.2 e).more hS
end
def OwnMPost (m : Mem) (n : Nat) (w : World) (e : Ending) (w' : World) : Prop :=
 ∃ A c, e = .returned (.agg #[.int .i64 m.pl, .slice A n c]) ∧ n ≤ c ∧ c ≤ maxLen ∧ RBools w' (fun k => w.heap.size ≤ k ∧ k < w'.heap.size) A n m.on ∧ Below w.heap.size w w'
set_option maxRecDepth 100000 in
set_option maxHeartbeats 3200000 in
theorem oown_any (m : Mem) (S : Nat → Prop) (A : Option Addr) (n c : Nat) (w : World) (hA : RBools w S A n m.on) (hn : n ≤ 100000) (hS : ∀ k, S k → k < w.heap.size) :
  Calls Tryz.prog 38 #[.agg #[.int .i64 m.pl, .slice A n c]] w (OwnMPost m n w) := by
 have hb2 : Below w.heap.size w ((w.alloc (.cells #[.int .i64 m.pl, .slice A n c] 33)).alloc (.cells #[.int .i64 0, .slice none 0 0] 33)) := ((Below.refl _ w).alloc (qr _) _).alloc (by simp) _
 have HB := qh hb2
 have Hcl := qh (cloneB_any A n c (m.on.map Value.bool) ((w.alloc (.cells #[.int .i64 m.pl, .slice A n c] 33)).alloc (.cells #[.int .i64 0, .slice none 0 0] 33)) S (Row.below hA hb2 hS) (fun u hu => by obtain ⟨x, _, rfl⟩ := List.mem_map.1 hu; rfl) (fun k hk => ql (hS k hk) hb2.size) (by omega))
 have M0 := qh ((Whole.new w w.heap.size 33 [.int .i64 m.pl, .slice A n c] rfl).alloc (.cells #[.int .i64 0, .slice none 0 0] 33))
 have R0 := qh (Whole.new (w.alloc (.cells #[.int .i64 m.pl, .slice A n c] 33)) (w.heap.size + 1) 33 [.int .i64 0, .slice none 0 0] (by simp))
 clear hA hS hb2
 go_enter Tryz.func38, Tryz.ntmps38
 go_wp2_with (first | (go_at_call 35; refine Hcl.out.mono ?_; rintro e w2 ⟨A2, c2, rfl, hn2, hc2, hown2, hb3⟩; refine Hid.out ?_))
 refine qh ?_
 have M2 := qh (M0.out.below hb3 M0.out.lt)
 have R2 := qh (R0.out.below hb3 R0.out.lt)
 have HB2 := qh (HB.out.trans (hb3.mono HB.out.size))
 have HOW := qh hown2
 clear hown2 hb3
 have m0 := M2.out.cell 0; have m1 := M2.out.cell 1
 have f0 := M2.out.free 0; have f1 := M2.out.free 1
 have r0 := R2.out.cell 0; have r1 := R2.out.cell 1
 have q0 := R2.out.free 0; have q1 := R2.out.free 1
 simp only [qgz, qgs] at m0 m1 r0 r1
 have mlt := M2.out.lt
 have rlt := R2.out.lt
 go_wp2
 (try simp only [Exit.inBlock, Exit.then])
 have RF : Hid (Whole (((w2.setCell ⟨w.heap.size, 1, none⟩ (.slice A2 n c2)).setCell ⟨w.heap.size + 1, 0, none⟩ (.int .i64 m.pl)).setCell ⟨w.heap.size + 1, 1, none⟩ (.slice A2 n c2)) (w.heap.size + 1) 33 [.int .i64 m.pl, .slice A2 n c2]) := qh (((R2.out.far (p := ⟨w.heap.size, 1, none⟩) (by show w.heap.size + 1 ≠ w.heap.size; omega) (.slice A2 n c2)).set_ 0 (.int .i64 m.pl)).set_ 1 (.slice A2 n c2))
 have HBF : Hid (Below w.heap.size w (((w2.setCell ⟨w.heap.size, 1, none⟩ (.slice A2 n c2)).setCell ⟨w.heap.size + 1, 0, none⟩ (.int .i64 m.pl)).setCell ⟨w.heap.size + 1, 1, none⟩ (.slice A2 n c2))) := qh (((HB2.out.setCell (p := ⟨w.heap.size, 1, none⟩) (qr _) _).setCell (p := ⟨w.heap.size + 1, 0, none⟩) (by show _ ≤ w.heap.size + 1; omega) _).setCell (p := ⟨w.heap.size + 1, 1, none⟩) (by show _ ≤ w.heap.size + 1; omega) _)
 refine bodyPost_ret (results_cell_row rfl _ _ (w.heap.size + 1) 33 #[.int .i64 m.pl, .slice A2 n c2] (0, 0) _ rfl RF.out Tryz.underlying33 rfl (by kernel_rfl)) rfl ?_
 obtain ⟨_, _, hes, _, _, hrow⟩ := own_form HOW.out
 injection hes with he1 he2 he3
 subst he1 he3
 refine ⟨A2, c2, rfl, hn2, hc2, ?_, HBF.out⟩
 have hk : ∀ p : Addr, (w.heap.size + 2 ≤ p.block ∧ p.block < w2.heap.size) → (((w2.setCell ⟨w.heap.size, 1, none⟩ (.slice A2 n c2)).setCell ⟨w.heap.size + 1, 0, none⟩ (.int .i64 m.pl)).setCell ⟨w.heap.size + 1, 1, none⟩ (.slice A2 n c2)).cell? p = w2.cell? p := fun p hp => by
  refine World.cell?_of_block ?_
  rw [heap_setCell_other _ _ _ _ (by show p.block ≠ w.heap.size + 1; omega), heap_setCell_other _ _ _ _ (by show p.block ≠ w.heap.size + 1; omega), heap_setCell_other _ _ _ _ (by show p.block ≠ w.heap.size; omega)]
 have h2 : Row w2 (fun k => w.heap.size + 2 ≤ k ∧ k < w2.heap.size) A2 n (m.on.map Value.bool) := hrow.more fun k hk => ⟨by have := hk.1; simp at this; omega, hk.2⟩
 exact Row.more (Row.keep h2 hk) fun k hk => ⟨by omega, by simpa [World.setCell] using hk.2⟩
end Go.Proofs.YtpipgffbhpnmkaaGreatDoor

/- order.gone, walked. -/
namespace Go.Proofs.YtpipgffbhpnmkaaGreatDoor
open Go.RowKit Qm

set_option maxRecDepth 100000 in
set_option maxHeartbeats 1600000 in
theorem ogone1_any {ps : List Pk} {l : List Mem} {S : Nat → Prop} {A B : Option Addr} {n c q d : Nat} {w0 : World} (C : Cx ps l S A n c B q d w0) (nm : Qm.W) (slot : Int) (tb pb : Nat) {m : Mem} (hm : m ∈ l) (cx : List Value) (hx : RMem w0 S cx m) (w : World) (hb : Below w0.heap.size w0 w)
  (ht : w.cell? ⟨tb, 0, none⟩ = some (.slice A n c)) (hn0 : w.cell? ⟨pb, 0, none⟩ = some (.string ⟨nm.toArray⟩)) (hn2 : w.cell? ⟨pb, 2, none⟩ = some (.int .i64 slot)) :
  Calls Tryz.prog 64 #[.agg cx.toArray, .pointer (some ⟨tb, 0, none⟩), .pointer (some ⟨pb, 0, none⟩)] w fun e w' => e = .returned (.bool (decide ((pkOf ps m.pl).nm = nm) && decide ((pkOf ps m.pl).slot = slot))) ∧ Below w.heap.size w w' := by
 obtain ⟨E, k, r, rfl, hkr, hr, hon⟩ := hx
 obtain ⟨hp0, hp1, _⟩ := C.ok m hm
 have hpl := C.t.len
 obtain ⟨pl, on⟩ := m
 dsimp only at hp0 hp1 ⊢
 obtain ⟨j, rfl⟩ : ∃ j : Nat, pl = j := ⟨pl.toNat, by omega⟩
 have hjn : j < n := by omega
 obtain ⟨b2, o2, p, F, fn, fc, kd, pa, f, no, E2, r2, d2, rfl, hbS2, hp, hP, hcell⟩ := (C.t.under hb C.lt).at_ hjn
 rw [pkOf_at hp]
 have h0 := hcell 0 (by omega); have h1 := hcell 1 (by omega); have h2 := hcell 2 (by omega); have h3 := hcell 3 (by omega); have h4 := hcell 4 (by omega); have h5 := hcell 5 (by omega); have h6 := hcell 6 (by omega); have h7 := hcell 7 (by omega); have h8 := hcell 8 (by omega); have h9 := hcell 9 (by omega); have h10 := hcell 10 (by omega); have h11 := hcell 11 (by omega); have h12 := hcell 12 (by omega); have h13 := hcell 13 (by omega)
 unfold pkRow ndRow at h0 h1 h2 h3 h4 h5 h6 h7 h8 h9 h10 h11 h12 h13
 simp only [List.getElem?_cons_zero, List.getElem?_cons_succ, Nat.add_zero] at h0 h1 h2 h3 h4 h5 h6 h7 h8 h9 h10 h11 h12 h13
 have hbl2 : b2 < w.heap.size := ql (C.lt _ hbS2) hb.size
 have hbl3 : b2 < w.heap.size + 1 := by omega
 have tlt := World.block_lt_of_cell? _ _ ht
 have nlt := World.block_lt_of_cell? _ _ hn0
 dsimp only at tlt nlt
 have tlt1 : tb < w.heap.size + 1 := by omega
 have nlt1 : pb < w.heap.size + 1 := by omega
 have hjn1 : (j : Int) < n := by omega
 have hjn0 : (0 : Int) ≤ (j : Int) := by omega
 have hbx : Below w.heap.size w ((w.alloc (.cells #[.int .i64 (j : Int), .slice E k r] 33)).alloc (.cells (pkRow p F fn fc (ndRow kd pa f no E2 r2 d2)).toArray 42)) := ((Below.refl _ w).alloc (qr _) _).alloc (by simp) _
 have HB := qh hbx
 have P3 := qh (Whole.new (w.alloc (.cells #[.int .i64 (j : Int), .slice E k r] 33)) (w.heap.size + 1) 42 (pkRow p F fn fc (ndRow kd pa f no E2 r2 d2)) (by simp))
 obtain ⟨nm2, ver2, slot2, fs2, nd2⟩ := p
 unfold pkRow ndRow at HB P3
 dsimp only at HB P3 h0 h1 h2 h3 ⊢
 clear hcell hP hp hb hon C hm hbx
 go_enter Tryz.func64, Tryz.ntmps64
 by_cases hnm : nm2 = nm
 ·have e1 : (nm2 == nm) = true := by simpa using hnm
  rw [decide_eq_true hnm, Bool.true_and]
  by_cases hsl : slot2 = slot
  ·have e2 : (slot2 == slot) = true := by simpa using hsl
   rw [decide_eq_true hsl]
   clear hnm hsl
   go_wp2
   go_ret
   exact ⟨rfl, HB.out⟩
  ·have e2 : (slot2 == slot) = false := by simpa using hsl
   rw [decide_eq_false hsl]
   clear hnm hsl
   go_wp2
   go_ret
   exact ⟨rfl, HB.out⟩
 ·have e1 : (nm2 == nm) = false := by simpa using hnm
  rw [decide_eq_false hnm, Bool.false_and]
  clear hnm
  go_wp2
  go_ret
  exact ⟨rfl, HB.out⟩
theorem act_infoO : (Tryz.prog.info? 48).map (fun i => (i.zero, i.size, i.bytes)) = some (some (.agg #[.bool false, .int .i64 0, .slice none 0 0, .int .i64 0]), 4, 48) := by kernel_rfl
theorem act_info4 : ∃ i0, Tryz.prog.info? 48 = some i0 ∧ i0.zero = some (.agg #[.bool false, .int .i64 0, .slice none 0 0, .int .i64 0]) ∧ i0.size = 4 ∧ i0.bytes = 48 := by
 have h := act_infoO
 cases hh : Tryz.prog.info? 48 with
 | none => rw [hh] at h; simp at h
 | some i => rw [hh] at h; simp at h; exact ⟨i, rfl, h.1, h.2.1, h.2.2⟩
theorem RAct.fresh {w4 w5 : World} {B : Nat} {v : Value} {A : Option Addr} {n c : Nat} {m : Mem} (out : Bool) (cyc : Int) (h : RBools w5 (fun k => w4.heap.size ≤ k ∧ k < w5.heap.size) A n m.on) (hn : n ≤ c ∧ c ≤ maxLen) (hB : B ≤ w4.heap.size) (hlt : ∀ k, v.ownBlock = some k → k < w4.heap.size) :
  RAct w5 (fun k => B ≤ k ∧ k < w5.heap.size ∧ v.ownBlock ≠ some k) [.bool out, .int .i64 m.pl, .slice A n c, .int .i64 cyc] ⟨out, m, cyc⟩ :=
 ⟨A, n, c, rfl, hn.1, hn.2, Row.more h fun k hk => ⟨by omega, hk.2, fun e => by have := hlt k e; omega⟩⟩
def goneAc (ps : List Pk) (there l : List Mem) : List Ac := (goneL ps there l).map (fun m => ⟨true, m, 0⟩)
theorem goneAc_take {ps : List Pk} {there l : List Mem} {j : Nat} {m : Mem} (h : there[j]? = some m) : goneAc ps (there.take (j + 1)) l = if l.any (sameKey ps m) then goneAc ps (there.take j) l else goneAc ps (there.take j) l ++ [⟨true, m, 0⟩] := by
 obtain ⟨hj, rfl⟩ := List.getElem?_eq_some_iff.1 h
 unfold goneAc goneL
 rw [List.take_succ_eq_append_getElem hj, List.filter_append, List.map_append]
 cases hr : l.any (sameKey ps there[j])
 ·rw [show [there[j]].filter (fun m => !l.any (sameKey ps m)) = [there[j]] from by rw [List.filter_cons_of_pos (by rw [hr]; rfl)]; rfl]
  rfl
 ·rw [show [there[j]].filter (fun m => !l.any (sameKey ps m)) = [] from by rw [List.filter_cons_of_neg (by rw [hr]; decide)]; rfl]
  simp
theorem goneAc_len {ps : List Pk} {there l : List Mem} {j : Nat} : (goneAc ps (there.take j) l).length ≤ j := by
 unfold goneAc goneL
 rw [List.length_map]
 exact Nat.le_trans (List.length_filter_le _ _) (List.length_take_le _ _)
structure Gx (w : World) (A : Option Addr) (n c : Nat) (v : Value) (cs : List (List Value)) (acts : List Ac) (wr : World) : Prop where
 g : Gs (w.heap.size + 1) v cs acts wr
 t : Tx w A n c wr
def GonePost (w : World) (acts : List Ac) (e : Ending) (w' : World) : Prop := ∃ v cs B, e = .returned v ∧ w.heap.size ≤ B ∧ Gs B v cs acts w' ∧ Below w.heap.size w w'
theorem Gx.move {w : World} {A : Option Addr} {n c : Nat} {v : Value} {cs : List (List Value)} {acts : List Ac} {wr wy : World} (h : Gx w A n c v cs acts wr) (hb : Below wr.heap.size wr wy) : Gx w A n c v cs acts wy := ⟨h.g.move hb, h.t.move hb⟩
theorem Gx.push {w : World} {A : Option Addr} {n c : Nat} {v v8 : Value} {cs : List (List Value)} {acts : List Ac} {wr w8 : World} {x : List Value} {a : Ac} (h : Gx w A n c v cs acts wr) (hx : RAct wr (fun k => w.heap.size + 1 ≤ k ∧ k < wr.heap.size ∧ v.ownBlock ≠ some k) x a) (h4 : x.length = 4) {o : Obj}
  (hown : w8.ownsRow (w.heap.size + 1) 48 4 v8 (acts.length + 1) (cs.flatten ++ x)) (hg : (wr.alloc o).grownBy w8 v.ownBlock) (hv : v8.ownBlock = v.ownBlock ∨ v8.ownBlock = some (wr.alloc o).heap.size) : Gx w A n c v8 (cs ++ [x]) (acts ++ [a]) w8 := by
 obtain ⟨g, far⟩ := h.g.push hx h4 hown hg hv
 have hb := far.below (B := w.heap.size + 1) h.g.le fun k e => (h.g.own.lt k e).1
 exact ⟨g, ⟨h.t.below.trans (hb.mono (Nat.le_succ _)), h.t.whole.below hb (Nat.lt_succ_self _)⟩⟩
set_option maxRecDepth 100000 in
set_option maxHeartbeats 6400000 in
theorem ogone_any (ps : List Pk) (l1 l : List Mem) (S : Nat → Prop) (A B1 B : Option Addr) (n c q1 d1 q d : Nat) (w : World) (C1 : Cx ps l1 S A n c B1 q1 d1 w) (C : Cx ps l S A n c B q d w) (hq1 : q1 ≤ 100000) (hq : q ≤ 100000) (hfl : ∀ m ∈ l1, m.on.length ≤ 100000) :
  Calls Tryz.prog 30 #[.agg #[.slice A n c], .slice B1 q1 d1, .slice B q d] w (GonePost w (goneAc ps l1 l)) := by
 have X0 : Hid (Gx w A n c (.slice none 0 0) [] [] (w.alloc (.cells #[.slice A n c] 24))) := qh ⟨by simpa using (Gs.nil_ (w := w.alloc (.cells #[.slice A n c] 24))), Tx.new w A n c⟩
 have HC1 := qh C1; have HC := qh C; have HFL := qh hfl
 have Hpl := qh C.t.len
 have Hll := qh C1.s.len
 have h1 := C1.qd; have h2 := C1.dm; have h3 := C.qd; have h4 := C.dm; have hn8 := C.n8; have hnc := C.nc; have hcm := C.cm
 unfold maxLen at h2 h4 hcm
 obtain ⟨i0, hi, hz0, hz1, hz2⟩ := act_info4
 have Hi := qh hi; have Hz0 := qh hz0; have Hz1 := qh hz1; have Hz2 := qh hz2
 clear C C1 hfl hi hz0 hz1 hz2
 go_enter Tryz.func30, Tryz.ntmps30
 go_wp2
 go_loopg [7, 13] q1 (fun g va iv wr => ∃ (j : Nat) (cs : List (List Value)), Hid (j + g = q1) ∧ iv = .int .i64 j ∧ Hid (Gx w A n c va cs (goneAc ps (l1.take j) l) wr))
 case atStart => exact ⟨0, [], qh (Nat.zero_add _), rfl, X0⟩
 case round =>
  obtain ⟨j, cs, Hj, rfl, XR⟩ := hrel
  clear X0
  by_cases hj : j < q1
  ·obtain ⟨b, o, m, E, u, v0, rfl, hbS, hm, huv, hv, hbo, g0, g1⟩ := (HC1.out.s.under XR.out.t.below HC1.out.lt).at_ hj
   have hmem := List.mem_of_getElem? hm
   obtain ⟨hp0, hp1, _⟩ := HC1.out.ok m hmem
   have hul : u = m.on.length := hbo.len.symm
   have hu100 : u ≤ 100000 := by rw [hul]; exact HFL.out m hmem
   have Hto := qh (goneAc_take (ps := ps) (l := l) hm)
   have Hgl := qh (goneAc_len (ps := ps) (there := l1) (l := l) (j := j))
   have hpl := Hpl.out
   have Hown := fun wx (hb : Below w.heap.size w wx) => oown_any m S E u v0 wx (Row.below (hbo.keep (w' := w) fun p hp => (XR.out.t.below.cell (HC1.out.lt _ hp)).symm) hb HC1.out.lt) hu100 (fun k hk => ql (HC1.out.lt k hk) hb.size)
   have HOWN := qh Hown
   clear Hown hul
   obtain ⟨pl, on⟩ := m
   dsimp only at g0 hp0 hp1 HOWN
   obtain ⟨jp, rfl⟩ : ∃ jp : Nat, pl = jp := ⟨pl.toNat, by omega⟩
   have hjn : jp < n := by omega
   obtain ⟨b2, o2, p, F, fn, fc, kd, pa, f, no, E2, r2, d2, rfl, hbS2, hp, hP, hcell⟩ := (HC.out.t.under XR.out.t.below HC.out.lt).at_ hjn
   have hpe := pkOf_at hp
   have h0 := hcell 0 (by omega); have h1' := hcell 1 (by omega); have h2' := hcell 2 (by omega); have h3' := hcell 3 (by omega); have h4' := hcell 4 (by omega); have h5 := hcell 5 (by omega); have h6 := hcell 6 (by omega); have h7 := hcell 7 (by omega); have h8 := hcell 8 (by omega); have h9 := hcell 9 (by omega); have h10 := hcell 10 (by omega); have h11 := hcell 11 (by omega); have h12 := hcell 12 (by omega); have h13 := hcell 13 (by omega)
   unfold pkRow ndRow at h0 h1' h2' h3' h4' h5 h6 h7 h8 h9 h10 h11 h12 h13
   simp only [List.getElem?_cons_zero, List.getElem?_cons_succ, Nat.add_zero] at h0 h1' h2' h3' h4' h5 h6 h7 h8 h9 h10 h11 h12 h13
   have hbl : b < wr.heap.size := ql (HC1.out.lt _ hbS) XR.out.t.below.size
   have hbl2 : b2 < wr.heap.size := ql (HC.out.lt _ hbS2) XR.out.t.below.size
   have hbl3 : b2 < wr.heap.size + 1 := by omega
   have hjn1 : (jp : Int) < n := by omega
   have hjn0 : (0 : Int) ≤ (jp : Int) := by omega
   have hj1 : (j : Int) < q1 := by omega
   have hj0 : (0 : Int) ≤ (j : Int) := by omega
   have ht0 := XR.out.t.whole.cell 0
   simp only [List.getElem?_cons_zero] at ht0
   have htl := XR.out.t.whole.lt
   have htl1 : w.heap.size < wr.heap.size + 1 := by omega
   have hb2 : Below wr.heap.size wr ((wr.alloc (.cells #[.int .i64 (jp : Int), .slice E u v0] 33)).alloc (.cells (pkRow p F fn fc (ndRow kd pa f no E2 r2 d2)).toArray 42)) := ((Below.refl _ wr).alloc (qr _) _).alloc (by simp) _
   have X2 := qh (XR.out.move hb2)
   have M2 := qh ((Whole.new wr wr.heap.size 33 [.int .i64 (jp : Int), .slice E u v0] rfl).alloc (.cells (pkRow p F fn fc (ndRow kd pa f no E2 r2 d2)).toArray 42))
   have P2 := qh (Whole.new (wr.alloc (.cells #[.int .i64 (jp : Int), .slice E u v0] 33)) (wr.heap.size + 1) 42 (pkRow p F fn fc (ndRow kd pa f no E2 r2 d2)) (by simp))
   have hcf := containsF_M (RMem w S) (sameKey ps ⟨(jp : Int), on⟩) B q d l 64 #[.pointer (some ⟨w.heap.size, 0, none⟩), .pointer (some ⟨wr.heap.size + 1, 0, none⟩)] _ S (RSeq.keep HC.out.s (fun p hp => X2.out.t.below.cell (HC.out.lt _ hp)) fun _ _ h => h) (fun x hx => ql (HC.out.lt x hx) X2.out.t.below.size) (by unfold maxLen; omega)
    ⟨fun args W => by kernel_rfl, fun y hy cx W hb hr => by
     have hs : sameKey ps ⟨(jp : Int), on⟩ y = (decide ((pkOf ps y.pl).nm = p.nm) && decide ((pkOf ps y.pl).slot = p.slot)) := by unfold sameKey; rw [hpe]
     rw [hs]
     exact ogone1_any HC.out p.nm p.slot w.heap.size (wr.heap.size + 1) hy cx hr W (X2.out.t.below.trans (hb.mono X2.out.t.below.size)) ((X2.out.t.whole.below hb X2.out.t.whole.lt).cell 0) ((P2.out.below hb P2.out.lt).cell 0) ((P2.out.below hb P2.out.lt).cell 2)⟩ (fun x y h => shape_mem h)
   generalize l.any (sameKey ps ⟨(jp : Int), on⟩) = r at hcf Hto
   have Hcf := qh hcf
   obtain ⟨nm2, ver2, slot2, fs2, nd2⟩ := p
   unfold pkRow ndRow at Hcf X2 M2 hb2
   dsimp only at h0 h1' h2' h3' h4' Hcf X2 M2 hb2
   have HB2 := qh hb2
   clear hcf hcell hb2 P2 hP hp hpe hbo hm hmem
   go_wp2_with (first | (go_at_call 32; refine Hcf.out.mono ?_; rintro e w4 ⟨rfl, hb4⟩; refine Hid.out ?_))
   refine qh ?_
   have X4 := qh (X2.out.move hb4)
   have HB4 := qh (HB2.out.trans (hb4.mono HB2.out.size))
   have M4 := qh (M2.out.below hb4 M2.out.lt)
   clear hb4 X2 M2 HB2 h0 h1' h2' h3' h4' h5 h6 h7 h8 h9 h10 h11 h12 h13 g0 g1 ht0
   cases r
   ·have m0 := M4.out.cell 0; have m1 := M4.out.cell 1
    simp only [qgz, qgs] at m0 m1
    have HOA := qh (HOWN.out w4 X4.out.t.below)
    go_wp2_with (first | (go_at_call 38; refine HOA.out.mono ?_; rintro e w5 ⟨A5, c5, rfl, hc5, hm5, hr5, hb5⟩; refine Hid.out ?_))
    refine qh ?_
    have HB5 := qh (HB4.out.trans (hb5.mono HB4.out.size))
    have X5 := qh (X4.out.move hb5)
    have HRA := qh (RAct.fresh (v := u7) (B := w.heap.size + 1) (m := ⟨(jp : Int), on⟩) true 0 hr5 ⟨hc5, hm5⟩ (by have := X4.out.t.whole.lt; omega) (fun k hk => (X4.out.g.own.lt k hk).2))
    have HNC := qh (cells_new w5 w5.heap.size [.bool true, .int .i64 (jp : Int), .slice A5 u c5, .int .i64 0] 48 rfl)
    have HOW := qh (X5.out.g.own.alloc (.cells #[.bool true, .int .i64 (jp : Int), .slice A5 u c5, .int .i64 0] 48))
    have hgl := Hgl.out
    have h5s := HB5.out.size
    have h5t := X5.out.t.whole.lt
    clear hr5 hb5 m0 m1 HB4 X4 M4 HOA HB5
    have HSZ := qh h5t
    clear h5s h5t
    go_wp2_with (at_builtin; refine wpList_append_own_at _ rfl _ _ 26 rfl (w.heap.size + 1) 48 i0 (.agg #[.bool false, .int .i64 0, .slice none 0 0, .int .i64 0]) 4 48 Tryz.underlying26 Hi.out Hz0.out Hz1.out Hz2.out rfl (by decide) _ _ _ rfl HOW.out ⟨w5.heap.size, 0, none⟩ 1 1 [.bool true, .int .i64 (jp : Int), .slice A5 u c5, .int .i64 0] rfl rfl HNC.out (by simp [Value.oneCell']) (by unfold maxLen; omega) (by omega) (by have := HSZ.out; simp; omega) ?_)
    intro v' w8 hown8 hg8 _ hv8
    have X8 : Hid (Gx w (some ⟨b2, o2, none⟩) n c v' (cs ++ [[.bool true, .int .i64 (jp : Int), .slice A5 u c5, .int .i64 0]]) (goneAc ps (l1.take (j + 1)) l) w8) := qh (by rw [Hto.out]; exact X5.out.push HRA.out rfl hown8 hg8 (by simpa using hv8))
    clear hown8 hg8 hv8 X5 HRA HNC HOW
    go_wp2
    go_roundg (gk - 1)
    case measure => have := Hj.out; omega
    case rel => exact ⟨j + 1, _, qh (by have := Hj.out; omega), by go_num, X8⟩
   ·have HNE : Hid (goneAc ps (l1.take (j + 1)) l = goneAc ps (l1.take j) l) := qh Hto.out
    have X5 : Hid (Gx w (some ⟨b2, o2, none⟩) n c u7 cs (goneAc ps (l1.take (j + 1)) l) w4) := qh (by rw [HNE.out]; exact X4.out)
    go_wp2
    go_roundg (gk - 1)
    case measure => have := Hj.out; omega
    case rel => exact ⟨j + 1, cs, qh (by have := Hj.out; omega), by go_num, X5⟩
  ·obtain rfl : q1 = j := by have := Hj.out; omega
   have HX : Hid (Gx w A n c u7 cs (goneAc ps l1 l) wr) := qh (by
    have h := XR.out
    rw [List.take_of_length_le (by rw [Hll.out]; exact qr _)] at h
    exact h)
   go_wp2
   go_ret
   exact ⟨_, cs, _, rfl, Nat.le_succ _, HX.out.g, HX.out.t.below⟩
end Go.Proofs.YtpipgffbhpnmkaaGreatDoor

/- order.Plan's closure; the acts and the squares at hand in order.Plan. -/
namespace Go.Proofs.YtpipgffbhpnmkaaGreatDoor
open Go.RowKit Qm

set_option maxRecDepth 100000 in
set_option maxHeartbeats 1600000 in
theorem oplan1_any (w0 : World) (S : Nat → Prop) (m y : Mem) (A : Option Addr) (n c : Nat) (hA : RBools w0 S A n m.on) (hn : n ≤ maxLen) (mb : Nat) (cx : List Value) (hy : RMem w0 S cx y) (hS : ∀ k, S k → k < w0.heap.size) (w : World) (hb : Below w0.heap.size w0 w)
  (h0 : w.cell? ⟨mb, 0, none⟩ = some (.int .i64 m.pl)) (h1 : w.cell? ⟨mb, 1, none⟩ = some (.slice A n c)) :
  Calls Tryz.prog 33 #[.agg cx.toArray, .pointer (some ⟨mb, 0, none⟩)] w fun e w' => e = .returned (.bool (decide (m = y))) ∧ Below w.heap.size w w' := by
 obtain ⟨E, k, r, rfl, hkr, hr, hon⟩ := hy
 have hlt := World.block_lt_of_cell? _ _ h0
 dsimp only at hlt
 have hlt1 : mb < w.heap.size + 1 := by omega
 have hbx : Below w.heap.size w (w.alloc (.cells #[.int .i64 y.pl, .slice E k r] 33)) := (Below.refl _ w).alloc (qr _) _
 have HB := qh hbx
 have hb1 := hb.trans (hbx.mono hb.size)
 have Hs := qh (osame_any m y S A E n c k r _ (Row.below hA hb1 hS) (Row.below hon hb1 hS) hn (Nat.le_trans hkr hr) (fun k hk => ql (hS k hk) hb1.size))
 have M0 := qh (Whole.new w w.heap.size 33 [.int .i64 y.pl, .slice E k r] rfl)
 have x0 := M0.out.cell 0; have x1 := M0.out.cell 1
 simp only [qgz, qgs] at x0 x1
 clear hA hon hb hb1 hbx hS
 go_enter Tryz.func33, Tryz.ntmps33
 go_wp2_with (first | (go_at_call 34; refine Hs.out.mono ?_; rintro e w2 ⟨rfl, hb2⟩; refine Hid.out ?_))
 refine qh ?_
 have HB2 := qh (HB.out.trans (hb2.mono HB.out.size))
 clear hb2
 go_wp2
 go_ret
 exact ⟨rfl, HB2.out⟩
theorem int_infoZ : (Tryz.prog.info? 3).map (fun i => (i.zero, i.size, i.bytes)) = some (some (.int .i64 0), 1, 8) := by kernel_rfl
theorem make_ints (n : Nat) (hn : n ≤ 100000) (w : World) : (Instr.makeSlice 60 (.int .i64 (n : Int)) (.int .i64 (n : Int))).run Tryz.prog w = .ok (.slice (some ⟨w.heap.size, 0, none⟩) n n) (w.alloc (.cells ((List.range n).map fun _ => Value.int .i64 0).toArray 3)) := by
 rw [run_make_row' 60 3 (.int .i64 0) 8 Tryz.underlying60 int_infoZ rfl .i64 .i64 n (by omega) (by omega) w, made_list]
theorem step_append_ownO {P : Program} {ops : Array Oper} {o : Oper} {a : Act} {w : World} {K : Act → World → Prop} {Q : Exit → Act → World → Prop} {E : Prop} (hgd : o.guard = none) (s x : Operand) (t : TypeId)
  (ho : o.op = .call { callee := .builtin .append, args := #[s, x], argTypes := #[t, t] })
  (base : Nat) (e : TypeId) (i : TypeInfo) (z : Value) (size bytes : Nat) (ht : P.underlying t = some (.slice e)) (hi : P.info? e = some i) (hz : i.zero = some z)
  (hsize : i.size = size) (hby : i.bytes = bytes) (hzs : z.cells.size = size) (hsz : 0 < size)
  (v : Value) (n : Nat) (xs : List Value) (hs : a.eval s = v) (hown : w.ownsRow base e size v n xs)
  (ad : Addr) (m c : Nat) (news : List Value) (hx : a.eval x = .slice (some ad) m c) (hl : news.length = m * size) (hnews : ∀ j u, news[j]? = some u → w.cell? (ad.add j) = some u) (h1 : ∀ u ∈ news, u.oneCell' = true)
  (h63 : n + m ≤ maxLen) (hbytes : (n + m) * bytes ≤ 140737488355328) (hbase : base ≤ w.heap.size)
  (h : ∀ v' w', w'.ownsRow base e size v' (n + m) (xs ++ news) → w.grownBy w' v.ownBlock → (v' = .slice none 0 0 ↔ v = .slice none 0 0 ∧ m = 0) → (v'.ownBlock = v.ownBlock ∨ v'.ownBlock = some w.heap.size) → K (a.put o.dst v') w') :
  if Region.wanted o (yielded ops a.tmps) = true then Oper.wp P o a w K Q else E := by
 have hw : Region.wanted o (yielded ops a.tmps) = true := by simp [Region.wanted, hgd]
 rw [if_pos hw]
 obtain ⟨v', w', hr, h2, h3, h4, h5⟩ := run_append_own_at (P := P) w base t o.type e i z size bytes ht hi hz hsize hby hzs hsz v n xs hown ad m c news hl hnews h1 h63 hbytes hbase
 unfold Oper.wp execOp
 simp only [ho, resolve, invoke, builtin, Sem.run_bind, Sem.run_pure, Result.andThen_ok, List.map_toArray, List.map_cons, List.map_nil, hs, hx, hr]
 exact h v' w' h2 h3 h4 h5
theorem RAct.fresh2 {w4 w5 : World} {B G F : Nat} {v : Value} {A : Option Addr} {n c : Nat} {m : Mem} (out : Bool) (cyc : Int) (h : RBools w5 (fun k => w4.heap.size ≤ k ∧ k < w5.heap.size) A n m.on) (hn : n ≤ c ∧ c ≤ maxLen) (hB : B ≤ w4.heap.size) (hF : F ≤ w4.heap.size) (hlt : ∀ k, v.ownBlock = some k → k < w4.heap.size) :
  RAct w5 (fun k => B ≤ k ∧ (k < G ∨ F ≤ k) ∧ k < w5.heap.size ∧ v.ownBlock ≠ some k) [.bool out, .int .i64 m.pl, .slice A n c, .int .i64 cyc] ⟨out, m, cyc⟩ :=
 ⟨A, n, c, rfl, hn.1, hn.2, Row.more h fun k hk => ⟨by omega, .inr (by omega), hk.2, fun e => by have := hlt k e; omega⟩⟩
structure Gz (B G F : Nat) (v : Value) (cs : List (List Value)) (acts : List Ac) (wr : World) : Prop where
 own : wr.ownsRow B 48 4 v acts.length cs.flatten
 len : cs.length = acts.length
 four : ∀ x ∈ cs, x.length = 4
 row : ∀ (j : Nat) (x : List Value) (a : Ac), cs[j]? = some x → acts[j]? = some a → RAct wr (fun k => B ≤ k ∧ (k < G ∨ F ≤ k) ∧ k < wr.heap.size ∧ v.ownBlock ≠ some k) x a
 le : B ≤ wr.heap.size
 out : ∀ k, v.ownBlock = some k → k < G ∨ F ≤ k
section
variable {B G F : Nat} {v v8 : Value} {cs : List (List Value)} {acts : List Ac} {wr wy w8 : World} {x : List Value} {a : Ac}
theorem Gz.of (h : Gs B v cs acts wr) (hb : Below wr.heap.size wr wy) (F : Nat) : Gz B wr.heap.size F v cs acts wy :=
 ⟨(Far.of_below (fun _ => False) hb).own h.own fun _ _ h => h, h.len, h.four, fun j x a h1 h2 => ((h.row j x a h1 h2).keep fun p hp => hb.cell hp.2.1).more fun k hk => ⟨hk.1, .inl hk.2.1, ql hk.2.1 hb.size, hk.2.2⟩, Nat.le_trans h.le hb.size, fun k hk => .inl (h.own.lt k hk).2⟩
theorem Gz.gs (h : Gz B G F v cs acts wr) : Gs B v cs acts wr := ⟨h.own, h.len, h.four, fun j x a h1 h2 => (h.row j x a h1 h2).more fun k hk => ⟨hk.1, hk.2.2⟩, h.le⟩
theorem Gz.move (h : Gz B G F v cs acts wr) (hb : Below wr.heap.size wr wy) : Gz B G F v cs acts wy :=
 ⟨(Far.of_below (fun _ => False) hb).own h.own fun _ _ h => h, h.len, h.four, fun j x a h1 h2 => ((h.row j x a h1 h2).keep fun p hp => hb.cell hp.2.2.1).more fun k hk => ⟨hk.1, hk.2.1, ql hk.2.2.1 hb.size, hk.2.2.2⟩, Nat.le_trans h.le hb.size, h.out⟩
theorem Gz.set_ (h : Gz B G F v cs acts wr) {b : Nat} (hp : G ≤ b ∧ b < F) (i : Nat) (u : Value) : Gz B G F v cs acts (wr.setCell ⟨b, i, none⟩ u) := by
 have far : Far (fun k => k = b) wr (wr.setCell ⟨b, i, none⟩ u) := Far.set_ (D := fun k => k = b) rfl i u
 exact ⟨far.own h.own fun k hk e => by have := h.out k hk; omega, h.len, h.four, fun j x a h1 h2 => ((h.row j x a h1 h2).keep fun q hq => far.cell hq.2.2.1 fun e => by have := hq.2.1; omega).more fun k hk => ⟨hk.1, hk.2.1, by simpa [World.setCell] using hk.2.2.1, hk.2.2.2⟩, by simpa [World.setCell] using h.le, h.out⟩
theorem Gz.push (h : Gz B G F v cs acts wr) (hF : F ≤ wr.heap.size) (hx : RAct wr (fun k => B ≤ k ∧ (k < G ∨ F ≤ k) ∧ k < wr.heap.size ∧ v.ownBlock ≠ some k) x a) (h4 : x.length = 4) {o : Obj} (hown : w8.ownsRow B 48 4 v8 (acts.length + 1) (cs.flatten ++ x)) (hg : (wr.alloc o).grownBy w8 v.ownBlock)
  (hv : v8.ownBlock = v.ownBlock ∨ v8.ownBlock = some (wr.heap.size + 1)) : Gz B G F v8 (cs ++ [x]) (acts ++ [a]) w8 ∧ Far (fun i => v.ownBlock = some i) wr w8 := by
 have hal : Below wr.heap.size wr (wr.alloc o) := (Below.refl _ wr).alloc (qr _) _
 have far : Far (fun i => v.ownBlock = some i) wr w8 := (Far.of_below _ hal).trans (Far.of_grown hg fun i h => h.symm) fun _ _ h => h
 have hS : ∀ k, (B ≤ k ∧ (k < G ∨ F ≤ k) ∧ k < wr.heap.size ∧ v.ownBlock ≠ some k) → (B ≤ k ∧ (k < G ∨ F ≤ k) ∧ k < w8.heap.size ∧ v8.ownBlock ≠ some k) := fun k hk => ⟨hk.1, hk.2.1, ql hk.2.2.1 far.size, by
  rcases hv with e | e
  ·rw [e]; exact hk.2.2.2
  ·rw [e]; intro e2; injection e2 with e2; omega⟩
 refine ⟨⟨by rw [List.length_append, List.flatten_append]; simpa using hown, by simp [h.len], fun y hy => ?_, fun j y b h1 h2 => ?_, Nat.le_trans h.le far.size, fun k hk => ?_⟩, far⟩
 ·rcases List.mem_append.1 hy with hy | hy
  ·exact h.four y hy
  ·rw [List.mem_singleton.1 hy]; exact h4
 ·have hold : RAct wr (fun k => B ≤ k ∧ (k < G ∨ F ≤ k) ∧ k < wr.heap.size ∧ v.ownBlock ≠ some k) y b := by
   by_cases hj : j < cs.length
   ·rw [List.getElem?_append_left hj] at h1
    rw [List.getElem?_append_left (by rw [← h.len]; exact hj)] at h2
    exact h.row j y b h1 h2
   ·rw [List.getElem?_append_right (by omega)] at h1
    rw [List.getElem?_append_right (by rw [← h.len]; omega), ← h.len] at h2
    obtain ⟨e1, e2⟩ : y = x ∧ b = a := by
     cases hk : j - cs.length with
     | zero => rw [hk] at h1 h2; simp at h1 h2; exact ⟨h1.symm, h2.symm⟩
     | succ i => rw [hk] at h1; simp at h1
    subst e1 e2; exact hx
  exact (hold.keep fun p hp => far.cell hp.2.2.1 fun e => hp.2.2.2 e).more hS
 ·rcases hv with e | e
  ·exact h.out k (e ▸ hk)
  ·rw [e] at hk; injection hk with hk; right; omega
end
end Go.Proofs.YtpipgffbhpnmkaaGreatDoor

/-
 Plain: values of variables, a scan of a clause, one pass over clauses, passes till nothing is new. No program in sight.
-/
namespace Qm

def vof (v : List Int) (n : Int) : Int := if n < 0 then - v.getD (-n).toNat 0 else v.getD n.toNat 0
def vset (v : List Int) (n : Int) : List Int := if n < 0 then v.set (-n).toNat (-1) else v.set n.toNat 1

def scanStep (v : List Int) (st : Int × Int) (n : Int) : Int × Int :=
 if st.2 < 0 then st
 else if vof v n = 1 then (st.1, -1)
 else if vof v n = 0 ∧ (st.2 = 0 ∨ st.2 = 1 ∧ st.1 ≠ n) then (n, st.2 + 1)
 else st
def scan (v : List Int) (c : List Int) : Int × Int := c.foldl (scanStep v) (0, 0)

def passOne (s : Option (List Int × Bool)) (c : List Int) : Option (List Int × Bool) :=
 match s with
 | none => none
 | some (v, m) => if (scan v c).2 = 0 then none else if (scan v c).2 = 1 then some (vset v (scan v c).1, true) else some (v, m)
def pass (cs : List (List Int)) (v : List Int) : Option (List Int × Bool) := cs.foldl passOne (some (v, false))

/-! what a scan says -/
/-! passes -/
/-! the open literals of a clause, each once: the document's way to scan -/
/-! literals that are assumed -/
end Qm

/- Walks: Values.Of, Values.Set. -/
namespace Go.Proofs.YtpipgffbhpnmkaaGreatDoor
open Go.RowKit

end Go.Proofs.YtpipgffbhpnmkaaGreatDoor

/- Walk: Values.Spread. -/
namespace Go.Proofs.YtpipgffbhpnmkaaGreatDoor
open Go.RowKit

end Go.Proofs.YtpipgffbhpnmkaaGreatDoor

/- Walks: Values.Set, Values.Spread, with spare cells behind the values (a clone's). -/
namespace Go.Proofs.YtpipgffbhpnmkaaGreatDoor
open Go.RowKit
theorem wholeS_row {w : World} {S : Nat → Prop} {b n : Nat} {t : TypeId} {vs sp : List Value} (h : Whole w b t (vs ++ sp)) (hB : S b) (hn : vs.length = n) : Row w S (some ⟨b, 0, none⟩) n vs := by
 refine ⟨hn, fun _ => ⟨b, 0, rfl, hB, fun j hj => ?_⟩⟩
 rw [Nat.zero_add, h.cell j, List.getElem?_append_left (by omega)]
theorem own_whole {w : World} {base : Nat} {e : TypeId} {v : Value} {n : Nat} {vs : List Value} (h : w.ownsRow base e 1 v n vs) (hn : 0 < n) : ∃ g c sp, v = .slice (some ⟨g, 0, none⟩) n c ∧ base ≤ g ∧ n ≤ c ∧ c ≤ maxLen ∧ Whole w g e (vs ++ sp) := by
 rcases h.2 with ⟨_, h0⟩ | ⟨g, cap, cur, rfl, hb, hh, hc, hm, hs, ht⟩
 ·omega
 ·refine ⟨g, cap, cur.toList.drop (n * 1), rfl, hb, hc, hm, ?_⟩
  unfold Whole
  rw [hh, ← ht, List.take_append_drop]
end Go.Proofs.YtpipgffbhpnmkaaGreatDoor
