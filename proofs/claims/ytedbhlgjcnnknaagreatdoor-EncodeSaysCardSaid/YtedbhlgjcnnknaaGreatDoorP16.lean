/- Parts of the proof: walks and plain laws, side by side. -/
import Derived.Test.YtedbhlgjcnnknaaGreatDoorP4
import Derived.Test.YtedbhlgjcnnknaaGreatDoorP15
import Derived.Test.YtedbhlgjcnnknaaGreatDoorP13
import Derived.BigQuiet
set_option linter.unusedVariables false
set_option linter.unusedSimpArgs false
set_option linter.unusedSectionVars false
set_option maxRecDepth 100000
set_option maxHeartbeats 12800000
namespace Go.Proofs.YtedbhlgjcnnknaaGreatDoor
section
open Go.RowKit Qm
def pkIns (ins : List Mem) (n j : Nat) : List Int := (List.range n).map fun i => if ((insP ins).take j).contains i = true then -((ixP (insP ins) i : Int) + 1) else 0
def cntF (ins : List Mem) (i : Nat) : Nat := ((List.range i).filter fun k => !(insP ins).contains k).length
def pkAll (ps : List Pk) (v : Ws) (i : Nat) : List Int := (List.range ps.length).map fun k => if k < i ∨ (insP v.ins).contains k = true then (chW ps v).pick k else 0
theorem getD_range {α : Type} {f : Nat → α} {z : α} {n i : Nat} (h : i < n) : ((List.range n).map f).getD i z = f i := by
  rw [List.getD_eq_getElem?_getD, List.getElem?_map, List.getElem?_range h]; rfl
theorem set_range {α : Type} {f g : Nat → α} {n p : Nat} {x : α} (hx : g p = x) (h : ∀ i, i < n → i ≠ p → g i = f i) : ((List.range n).map f).set p x = (List.range n).map g := by
  apply List.ext_getElem?
  intro i
  rw [List.getElem?_set]
  simp only [List.length_map, List.length_range, List.getElem?_map]
  by_cases hi : i < n
  · rw [List.getElem?_range hi]
    by_cases hp : p = i
    · subst hp; rw [if_pos rfl, if_pos hi, Option.map_some, hx]
    · rw [if_neg hp, Option.map_some, Option.map_some, h i hi fun e => hp e.symm]
  · rw [List.getElem?_eq_none (by simpa using hi)]
    split
    · split
      · omega
      · rfl
    · rfl
section
variable {ps : List Pk} {v : Ws}
theorem insP_nodup (h : WsOk ps v) : (insP v.ins).Nodup := by
  have := insP_rise (ps := ps) h.ins
  exact this.imp fun h => Nat.ne_of_lt h
theorem pkIns_step (h : WsOk ps v) {n j p : Nat} (hj : (insP v.ins)[j]? = some p) : (pkIns v.ins n j).set p (-((j : Int) + 1)) = pkIns v.ins n (j + 1) := by
  have hix := ixP_of (insP_nodup h) hj
  obtain ⟨hl, hp⟩ := List.getElem?_eq_some_iff.1 hj
  have hmem : ∀ i, ((insP v.ins).take (j + 1)).contains i = (((insP v.ins).take j).contains i || (i == p)) := fun i => by
    rw [List.take_succ_eq_append_getElem hl, hp]
    rw [Bool.eq_iff_iff, Bool.or_eq_true, List.contains_iff_mem, List.contains_iff_mem, List.mem_append, List.mem_singleton, beq_iff_eq]
  unfold pkIns
  refine set_range ?_ fun i hi hne => ?_
  · rw [if_pos (by rw [hmem]; simp), hix]
  · have : ((insP v.ins).take (j + 1)).contains i = ((insP v.ins).take j).contains i := by rw [hmem, beq_eq_false_iff_ne.2 hne, Bool.or_false]
    rw [this]
theorem pkIns_all (h : WsOk ps v) : pkIns v.ins ps.length v.ins.length = pkAll ps v 0 := by
  unfold pkIns pkAll
  refine List.map_congr_left fun i hi => ?_
  have ht : (insP v.ins).take v.ins.length = insP v.ins := List.take_of_length_le (by unfold insP; simp)
  rw [ht]
  by_cases hc : (insP v.ins).contains i = true
  · rw [if_pos hc, if_pos (.inr hc)]
    show _ = if (insP v.ins).contains i = true then -((ixP (ordP v.ins ps.length) i : Int) + 1) else _
    rw [if_pos hc]
    have : ixP (ordP v.ins ps.length) i = ixP (insP v.ins) i := by
      have hm := List.contains_iff_mem.1 hc
      refine ixP_of (ordP_nodup h) ?_
      unfold ordP
      rw [List.getElem?_append_left (ixP_lt hm)]
      exact ixP_at hm
    rw [this]
  · rw [if_neg hc, if_neg (by simpa using hc)]
theorem cntF_succ (ins : List Mem) (i : Nat) : cntF ins (i + 1) = cntF ins i + if (insP ins).contains i = true then 0 else 1 := by
  unfold cntF
  rw [List.range_succ, List.filter_append, List.length_append]
  congr 1
  by_cases hc : (insP ins).contains i = true
  · rw [if_pos hc]; simp only [List.filter_cons, hc]; rfl
  · have hf : (insP ins).contains i = false := by simpa using hc
    rw [if_neg hc]; simp only [List.filter_cons, hf]; rfl
theorem ixP_free (h : WsOk ps v) {i : Nat} (hi : i < ps.length) (hc : (insP v.ins).contains i = false) : ixP (ordP v.ins ps.length) i = v.ins.length + cntF v.ins i := by
  refine ixP_of (ordP_nodup h) ?_
  have hl : (insP v.ins).length = v.ins.length := by unfold insP; simp
  unfold ordP
  rw [List.getElem?_append_right (by omega), hl, Nat.add_sub_cancel_left]
  unfold freeP cntF
  have : ∀ n, i < n → ((List.range n).filter fun k => !(insP v.ins).contains k)[((List.range i).filter fun k => !(insP v.ins).contains k).length]? = some i := by
    intro n
    induction n with
    | zero => intro h; omega
    | succ n ih =>
      intro hn
      rw [List.range_succ, List.filter_append]
      by_cases e : i = n
      · subst e
        rw [List.getElem?_append_right (Nat.le_refl _), Nat.sub_self]
        have hf : [i].filter (fun k => !(insP v.ins).contains k) = [i] := by simp only [List.filter_cons, hc]; rfl
        rw [hf]; rfl
      · have := ih (by omega)
        rw [List.getElem?_append_left (List.getElem?_eq_some_iff.1 this).1]
        exact this
  exact this _ hi
theorem pkAll_full : pkAll ps v ps.length = (List.range ps.length).map (chW ps v).pick := by
  unfold pkAll
  refine List.map_congr_left fun i hi => ?_
  rw [if_pos (.inl (List.mem_range.1 hi))]
theorem pkAll_old {i : Nat} (hc : (insP v.ins).contains i = true) : pkAll ps v (i + 1) = pkAll ps v i := by
  unfold pkAll
  refine List.map_congr_left fun k hk => ?_
  by_cases e : k = i
  · subst e; rw [if_pos (.inr hc), if_pos (.inr hc)]
  · by_cases h1 : k < i ∨ (insP v.ins).contains k = true
    · rw [if_pos h1, if_pos (h1.imp (by omega) id)]
    · rw [if_neg h1, if_neg fun h2 => h1 (h2.imp (by omega) id)]
theorem pkAll_new (h : WsOk ps v) {i : Nat} (hi : i < ps.length) (hc : (insP v.ins).contains i = false) : (pkAll ps v i).set i ((v.ins.length + cntF v.ins i + 1 : Nat) : Int) = pkAll ps v (i + 1) := by
  unfold pkAll
  refine set_range ?_ fun k hk hne => ?_
  · rw [if_pos (.inl (Nat.lt_succ_self i))]
    show (if (insP v.ins).contains i = true then -((ixP (ordP v.ins ps.length) i : Int) + 1) else (ixP (ordP v.ins ps.length) i : Int) + 1) = _
    rw [if_neg (by rw [hc]; decide), ixP_free h hi hc]; omega
  · by_cases h1 : k < i ∨ (insP v.ins).contains k = true
    · rw [if_pos h1, if_pos (h1.imp (by omega) id)]
    · rw [if_neg h1, if_neg fun h2 => h1 (h2.imp (by omega) id)]
theorem pkAll_at {i : Nat} (hi : i < ps.length) : (pkAll ps v i).getD i 0 = if (insP v.ins).contains i = true then (chW ps v).pick i else 0 := by
  unfold pkAll
  rw [getD_range hi]
  by_cases hc : (insP v.ins).contains i = true
  · rw [if_pos (.inr hc), if_pos hc]
  · rw [if_neg hc, if_neg]; simpa using hc
theorem pick_ne (i : Nat) : (chW ps v).pick i ≠ 0 := fun e => by
  have := pick_abs (ps := ps) (v := v) i
  rw [e] at this; simp at this
theorem cntF_all (h : WsOk ps v) : v.ins.length + cntF v.ins ps.length = ps.length := by
  have h1 := ordP_len h
  unfold ordP freeP at h1
  rw [List.length_append] at h1
  have hl : (insP v.ins).length = v.ins.length := by unfold insP; simp
  unfold cntF; omega
theorem cntF_mono {i j : Nat} (h : i ≤ j) : cntF v.ins i ≤ cntF v.ins j := by
  induction j with
  | zero => obtain rfl : i = 0 := by omega
            exact Nat.le_refl _
  | succ j ih =>
    by_cases e : i = j + 1
    · subst e; exact Nat.le_refl _
    · rw [cntF_succ]; have := ih (by omega); omega
theorem on_snoc {i k : Nat} : (List.range (k + 1)).map ((chW ps v).on i) = (List.range k).map ((chW ps v).on i) ++ [(chW ps v).on i k] := by
  rw [List.range_succ, List.map_append]; rfl
theorem ons_snoc {i : Nat} : (List.range (i + 1)).map (fun (i : Nat) => (List.range (pkOf ps i).fs.length).map ((chW ps v).on i)) = (List.range i).map (fun (i : Nat) => (List.range (pkOf ps i).fs.length).map ((chW ps v).on i)) ++ [(List.range (pkOf ps i).fs.length).map ((chW ps v).on i)] := by
  rw [List.range_succ, List.map_append]; rfl
end
theorem ckOn_mem {ps : List Pk} : ∀ {l : List (Int × Int)} {prev : Option (Int × Int)}, ckOn ps prev l = 0 → ∀ x ∈ l, 0 ≤ x.1 ∧ x.1 < ps.length ∧ 0 ≤ x.2 ∧ x.2 < ((pkOf ps x.1).fs.length : Int)
  | [], _, _, x, hx => by cases hx
  | y :: r, prev, h, x, hx => by
    unfold ckOn at h
    split at h
    · cases h
    · rename_i h1
      split at h
      · cases h
      · rcases List.mem_cons.1 hx with rfl | hx
        · omega
        · exact ckOn_mem h x hx
theorem fs_few {ps : List Pk} (h14 : manyC ps ≤ 14) {x : Int} (h0 : 0 ≤ x) (h1 : x < ps.length) : (pkOf ps x).fs.length ≤ 14 := by
  obtain ⟨i, rfl⟩ : ∃ i : Nat, x = i := ⟨x.toNat, by omega⟩
  have h := flagsBef_mono (ps := ps) (i := i + 1) (j := ps.length) (by omega)
  simp only [flagsBef] at h
  unfold manyC at h14
  omega
theorem ckOn_len {ps : List Pk} (h14 : manyC ps ≤ 14) : ∀ {l : List (Int × Int)} {q : Int × Int}, ckOn ps (some q) l = 0 → 0 ≤ q.1 → q.1 < ps.length → 0 ≤ q.2 → q.2 < 100 → (l.length : Int) + (100 * q.1 + q.2) < 100 * ps.length
  | [], q, _, _, _, _, _ => by simp; omega
  | y :: r, q, h, g1, g2, g3, g4 => by
    have hm := ckOn_mem h y (List.mem_cons_self ..)
    have hf := fs_few h14 hm.1 hm.2.1
    unfold ckOn at h
    split at h
    · cases h
    · split at h
      · cases h
      · rename_i h1 h2
        have ih := ckOn_len h14 h hm.1 hm.2.1 hm.2.2.1 (by omega)
        have hb : q.1 < y.1 ∨ (q.1 = y.1 ∧ q.2 < y.2) := by
          unfold badOn at h2
          simp at h2
          by_cases g : q.1 < y.1
          · exact .inl g
          · exact .inr (h2 (by omega))
        simp only [List.length_cons]
        omega
theorem ckOn_few {ps : List Pk} {l : List (Int × Int)} (h14 : manyC ps ≤ 14) (h8 : ps.length ≤ 8) (h : ckOn ps none l = 0) : l.length ≤ 801 := by
  match l, h with
  | [], _ => simp
  | y :: r, h =>
    have hm := ckOn_mem h y (List.mem_cons_self ..)
    have hf := fs_few h14 hm.1 hm.2.1
    unfold ckOn at h
    split at h
    · cases h
    · split at h
      · cases h
      · have ih := ckOn_len h14 h hm.1 hm.2.1 hm.2.2.1 (by omega)
        simp only [List.length_cons]
        omega
end
section
open Go.RowKit Qm Go.WideMaps
theorem eqP_run (w : World) {x y a b : Int} (hx : (Lit.int .i64 x).wf = true) (hy : (Lit.int .i64 y).wf = true) (ha : (Lit.int .i64 a).wf = true) (hb : (Lit.int .i64 b).wf = true) :
  (Op.equalIn 10000 86 (.agg #[.int .i64 x, .int .i64 y]) (.agg #[.int .i64 a, .int .i64 b])).run Tryz.prog w = .ok (decide ((x, y) = (a, b))) w := by
 obtain ⟨r, h1, h2⟩ := run_equal_deep w (P := Tryz.prog) (m := 2) (by omega) (k := 86) (by kernel_rfl) (by rw [Tryz.underlying86]) (pairKey.key hx hy) (pairKey.key ha hb)
 have : r = decide ((x, y) = (a, b)) := by
  by_cases e : x = a ∧ y = b
  ·obtain ⟨rfl, rfl⟩ := e
   rw [h2.2 rfl]; simp
  ·have hne := pairKey.ne hx hy ha hb e
   have : r = false := by
    cases r
    ·rfl
    ·exact absurd (h2.1 rfl) hne
   rw [this]
   refine (qdf fun e2 => e ?_).symm
   simpa using e2
 rw [← this]; exact h1
theorem indexP_any (A : Option Addr) (n c : Nat) (qs : List (Int × Int)) (x y : Int) (w : World) (S : Nat → Prop) (h : RSeq 2 RPair w S A n qs) (hn : n ≤ 100000) (hS : ∀ k, S k → k < w.heap.size) (hx : (Lit.int .i64 x).wf = true) (hy : (Lit.int .i64 y).wf = true)
  (hq : ∀ z ∈ qs, (Lit.int .i64 z.1).wf = true ∧ (Lit.int .i64 z.2).wf = true) :
  Calls Tryz.prog 94 #[.slice A n c, .agg #[.int .i64 x, .int .i64 y]] w fun e w' => ∃ r : Int, e = .returned (.int .i64 r) ∧ decide (0 ≤ r) = qs.contains (x, y) ∧ -1 ≤ r ∧ r ≤ 100000 ∧ Below w.heap.size w w' := by
 have HR := qh h; have HS := qh hS; have HQ := qh hq; have HX := qh (And.intro hx hy)
 have HL := qh (RSeq.len h)
 have HW0 := qh (Whole.new w w.heap.size 86 [.int .i64 x, .int .i64 y] rfl)
 have HB0 : Hid (Below w.heap.size w (w.alloc (.cells #[.int .i64 x, .int .i64 y] 86))) := qh ((Below.refl _ w).alloc (qr _) _)
 clear h hS hq hx hy
 go_enter Tryz.func94, Tryz.ntmps94
 go_wp2
 go_loopg [8] n (fun g iv wr => ∃ j : Nat, Hid (j + g = n) ∧ iv = .int .i64 j ∧ Hid (∀ k, k < j → qs[k]? ≠ some (x, y)) ∧ Hid (Whole wr w.heap.size 86 [.int .i64 x, .int .i64 y]) ∧ Hid (Below w.heap.size w wr))
 case atStart => exact ⟨0, qh (Nat.zero_add _), rfl, qh (fun k hk => absurd hk (by omega)), HW0, HB0⟩
 case round =>
  obtain ⟨j, Hj, rfl, HN, HW, HB⟩ := hrel
  clear HW0 HB0
  by_cases hj : j < n
  ·obtain ⟨b, o, xs, z, rfl, hbS, hz, hxz, _, hcell⟩ := (RSeq.keep HR.out (w' := wr) (fun p hp => HB.out.cell (HS.out _ hp)) fun _ _ h => h).at_ hj (by decide)
   unfold RPair at hxz
   subst hxz
   obtain ⟨z1, z2⟩ := z
   have g0 := hcell 0 (by omega); have g1 := hcell 1 (by omega)
   simp only [qgz, qgs, Nat.add_zero] at g0 g1
   have hzw := HQ.out _ (List.mem_of_getElem? hz)
   have heq := fun wx => eqP_run wx HX.out.1 HX.out.2 hzw.1 hzw.2
   have b0 := HW.out.cell 0; have b1 := HW.out.cell 1
   simp only [qgz, qgs] at b0 b1
   have hj1 : (j : Int) < n := by omega
   have hj0 : (0 : Int) ≤ (j : Int) := by omega
   have HZ := qh hz
   clear hcell hz hzw hbS
   by_cases he : (x, y) = (z1, z2)
   ·have hed : decide ((x, y) = (z1, z2)) = true := qdt he
    rw [hed] at heq
    have HC : Hid (qs.contains (x, y) = true) := qh (by rw [List.contains_iff_mem, he]; exact List.mem_of_getElem? HZ.out)
    clear he hed
    go_wp2
    go_quiet (fail)
    go_wp2
    go_ret
    exact ⟨j, rfl, by rw [HC.out]; exact qdt (by omega), by omega, by omega, below_drewN HB.out _⟩
   ·have hed : decide ((x, y) = (z1, z2)) = false := qdf he
    rw [hed] at heq
    have HN2 : Hid (∀ k, k < j + 1 → qs[k]? ≠ some (x, y)) := qh (fun k hk => by
     by_cases e : k = j
     ·subst e; rw [HZ.out]; intro e2; injection e2 with e2; exact he e2.symm
     ·exact HN.out k (by omega))
    clear he hed
    go_wp2
    go_quiet (fail)
    rename_i nq
    have HWD := qh (HW.out.drewN nq); have HBD := qh (below_drewN HB.out nq)
    go_wp2
    go_roundg (gk - 1)
    case measure => have := Hj.out; omega
    case rel => exact ⟨j + 1, qh (by have := Hj.out; omega), by go_num, HN2, HWD, HBD⟩
  ·obtain rfl : n = j := by have := Hj.out; omega
   have HC : Hid (qs.contains (x, y) = false) := qh (by
    cases hc : qs.contains (x, y)
    ·rfl
    ·obtain ⟨k, hk⟩ := List.getElem?_of_mem (List.contains_iff_mem.1 hc)
     have := (List.getElem?_eq_some_iff.1 hk).1
     exact absurd hk (HN.out k (by rw [HL.out] at this; exact this)))
   go_wp2
   go_ret
   exact ⟨-1, rfl, by rw [HC.out]; rfl, by omega, by omega, HB.out⟩
theorem containsP_any (A : Option Addr) (n c : Nat) (qs : List (Int × Int)) (x y : Int) (w : World) (S : Nat → Prop) (h : RSeq 2 RPair w S A n qs) (hn : n ≤ 100000) (hS : ∀ k, S k → k < w.heap.size) (hx : (Lit.int .i64 x).wf = true) (hy : (Lit.int .i64 y).wf = true)
  (hq : ∀ z ∈ qs, (Lit.int .i64 z.1).wf = true ∧ (Lit.int .i64 z.2).wf = true) :
  Calls Tryz.prog 68 #[.slice A n c, .agg #[.int .i64 x, .int .i64 y]] w fun e w' => e = .returned (.bool (qs.contains (x, y))) ∧ Below w.heap.size w w' := by
 have hal : Below w.heap.size w (w.alloc (.cells #[.int .i64 x, .int .i64 y] 86)) := (Below.refl _ w).alloc (qr _) _
 have HI := qh (indexP_any A n c qs x y (w.alloc (.cells #[.int .i64 x, .int .i64 y] 86)) S (RSeq.keep h (fun p hp => hal.cell (hS _ hp)) fun _ _ h => h) hn (fun k hk => ql (hS k hk) hal.size) hx hy hq)
 have HB := qh hal
 clear h hS hx hy hq hal
 go_enter Tryz.func68, Tryz.ntmps68
 go_wp2_with (first | (go_at_call 94; refine HI.out.mono ?_; rintro e w2 ⟨r, rfl, hr, hr1, hr2, hb2⟩; refine Hid.out ?_))
 refine qh ?_
 have HB2 := qh (HB.out.trans (hb2.mono HB.out.size))
 have HR := qh hr
 clear hr hb2
 by_cases h0 : (0 : Int) ≤ r
 ·have h0d : decide ((0 : Int) ≤ r) = true := qdt h0
  have HC : Hid (true = qs.contains (x, y)) := qh (by rw [← HR.out, h0d])
  go_wp2
  go_ret
  exact ⟨ret_bool (by have h := HC.out; first | exact h | simpa using h), HB2.out⟩
 ·have h0d : decide ((0 : Int) ≤ r) = false := qdf h0
  have HC : Hid (false = qs.contains (x, y)) := qh (by rw [← HR.out, h0d])
  go_wp2
  go_ret
  exact ⟨ret_bool (by have h := HC.out; first | exact h | simpa using h), HB2.out⟩
end
section
open Go.RowKit Qm
theorem made_listE (z : Value) (n : Nat) : madeCells #[z] n = ((List.range n).map fun _ => z).toArray := by
 apply Array.ext'
 rw [toList_madeCells_one]
 apply List.ext_getElem (by simp)
 intro k h1 h2
 simp
theorem make_intsE (n : Nat) (hn : n ≤ 100000) (w : World) : (Instr.makeSlice 27 (.int .i64 (n : Int)) (.int .i64 (n : Int))).run Tryz.prog w = .ok (.slice (some ⟨w.heap.size, 0, none⟩) n n) (w.alloc (.cells ((List.range n).map fun _ => Value.int .i64 0).toArray 3)) := by
 rw [run_make_row' 27 3 (.int .i64 0) 8 Tryz.underlying27 int_infoE rfl .i64 .i64 n (by omega) (by omega) w, made_listE]
theorem Whole.ne {w : World} {b b' : Nat} {t t' : TypeId} {vs vs' : List Value} (h : Whole w b t vs) (h' : Whole w b' t' vs') (ht : t ≠ t') : b ≠ b' := by
 rintro rfl
 unfold Whole at h h'
 rw [h] at h'
 injection h' with h'; injection h' with _ h'
 exact ht h'
structure Cst (w : World) (A : Option Addr) (n c : Nat) (wv : List Value) (b pb mb hi vars : Nat) (pk : List Int) (oV : Value) (hs : List (Option Addr × Nat × Nat)) (ls : List (List Int)) (wr : World) : Prop where
 t : Whole wr w.heap.size 24 [.slice A n c]
 wi : Whole wr (w.heap.size + 1) 30 wv
 blk : Whole wr b 95 [.slice A n c, .slice (some ⟨pb, 0, none⟩) n n, oV, .int .i64 (vars : Int), .slice none 0 0, .map (some mb)]
 pick : Whole wr pb 3 (pk.map (.int .i64))
 pair : PairMap Tryz.prog 86 wr mb (fun _ _ => 0) 0
 own : wr.ownsRow w.heap.size 27 1 oV ls.length (hs.map hd)
 heads : Heads wr (fun k => w.heap.size ≤ k ∧ k < hi ∧ oV.ownBlock ≠ some k ∧ k ≠ b ∧ k ≠ pb ∧ k ≠ mb) hs ls
 bel : Below w.heap.size w wr
 lo : w.heap.size + 2 ≤ b ∧ w.heap.size + 2 ≤ pb ∧ w.heap.size + 2 ≤ mb
 hh : hi ≤ wr.heap.size ∧ b < hi ∧ pb < hi ∧ mb < hi
 oh : ∀ g, oV.ownBlock = some g → g < hi
section
variable {w : World} {A : Option Addr} {n c : Nat} {wv : List Value} {b pb mb hi vars : Nat} {pk : List Int} {oV : Value} {hs : List (Option Addr × Nat × Nat)} {ls : List (List Int)} {wr wy : World}
theorem Cst.far (h : Cst w A n c wv b pb mb hi vars pk oV hs ls wr) {D : Nat → Prop} (k : Far D wr wy) (hD : ∀ i, D i → hi ≤ i) : Cst w A n c wv b pb mb hi vars pk oV hs ls wy := by
 have hlo := h.lo; have hhh := h.hh
 have nd : ∀ i, i < hi → ¬ D i := fun i hi e => by have := hD i e; omega
 exact ⟨k.whole h.t (nd _ (by omega)), k.whole h.wi (nd _ (by omega)), k.whole h.blk (nd _ hhh.2.1), k.whole h.pick (nd _ hhh.2.2.1), h.pair.block (k.block _ h.pair.lt (nd _ hhh.2.2.2)), k.own h.own (fun g hg => nd _ (h.oh g hg)),
  k.heads' h.heads (fun i hi => ⟨ql hi.2.1 hhh.1, nd _ hi.2.1⟩), h.bel.trans (k.below h.bel.size fun i e => by have := hD i e; omega), h.lo, ⟨qlt hhh.1 k.size, hhh.2⟩, h.oh⟩
theorem Cst.move (h : Cst w A n c wv b pb mb hi vars pk oV hs ls wr) (k : Below wr.heap.size wr wy) : Cst w A n c wv b pb mb hi vars pk oV hs ls wy := h.far (Far.of_below (fun _ => False) k) fun _ e => e.elim
theorem Cst.up (h : Cst w A n c wv b pb mb hi vars pk oV hs ls wr) {hi' : Nat} (h1 : hi ≤ hi') (h2 : hi' ≤ wr.heap.size) : Cst w A n c wv b pb mb hi' vars pk oV hs ls wr :=
 ⟨h.t, h.wi, h.blk, h.pick, h.pair, h.own, h.heads.more fun k hk => ⟨hk.1, ql hk.2.1 h1, hk.2.2⟩, h.bel, h.lo, ⟨h2, by have := h.hh; omega⟩, fun g hg => ql (h.oh g hg) h1⟩
theorem Cst.nes (h : Cst w A n c wv b pb mb hi vars pk oV hs ls wr) : b ≠ pb ∧ b ≠ mb ∧ pb ≠ mb ∧ oV.ownBlock ≠ some b ∧ oV.ownBlock ≠ some pb ∧ oV.ownBlock ≠ some mb := by
 refine ⟨h.blk.ne h.pick (by decide), h.pair.ne_cells h.blk, h.pair.ne_cells h.pick, own_ne h.own h.blk (by decide), own_ne h.own h.pick (by decide), ?_⟩
 rcases h.own.2 with ⟨e, _⟩ | ⟨g, cap, cur, rfl, _, hh, _⟩
 ·rw [e]; intro e; cases e
 ·intro e
  simp only [Value.ownBlock] at e
  injection e with e
  exact h.pair.ne_cells hh e
theorem Cst.tick (h : Cst w A n c wv b pb mb hi vars pk oV hs ls wr) (v : Nat) {x : Int} (hx : x = v) : Cst w A n c wv b pb mb hi v pk oV hs ls (wr.setCell ⟨b, 3, none⟩ (.int .i64 x)) := by
 subst hx
 have F : Far (fun i => i = b) wr (wr.setCell ⟨b, 3, none⟩ (.int .i64 (v : Int))) := Far.set_ (D := fun i => i = b) rfl 3 _
 have hn := h.nes; have hlo := h.lo
 exact ⟨F.whole h.t (by omega), F.whole h.wi (by omega), h.blk.set_ 3 _, F.whole h.pick (fun e => hn.1 e.symm), h.pair.block (F.block _ h.pair.lt fun e => hn.2.1 e.symm), F.own h.own (fun g hg e => hn.2.2.2.1 (by rw [hg, e])), F.heads' h.heads (fun i hi => ⟨ql hi.2.1 h.hh.1, hi.2.2.2.1⟩),
  h.bel.setCell (p := ⟨b, 3, none⟩) (by show w.heap.size ≤ b; omega) _, h.lo, by simpa [World.setCell] using h.hh, h.oh⟩
theorem Cst.pset (h : Cst w A n c wv b pb mb hi vars pk oV hs ls wr) (p : Nat) (x : Int) : Cst w A n c wv b pb mb hi vars (pk.set p x) oV hs ls (wr.setCell ⟨pb, p, none⟩ (.int .i64 x)) := by
 have F : Far (fun i => i = pb) wr (wr.setCell ⟨pb, p, none⟩ (.int .i64 x)) := Far.set_ (D := fun i => i = pb) rfl p _
 have hn := h.nes; have hlo := h.lo
 exact ⟨F.whole h.t (by omega), F.whole h.wi (by omega), F.whole h.blk hn.1, by rw [List.map_set]; exact h.pick.set_ p _, h.pair.block (F.block _ h.pair.lt fun e => hn.2.2.1 e.symm), F.own h.own (fun g hg e => hn.2.2.2.2.1 (by rw [hg, e])), F.heads' h.heads (fun i hi => ⟨ql hi.2.1 h.hh.1, hi.2.2.2.2.1⟩),
  h.bel.setCell (p := ⟨pb, p, none⟩) (by show w.heap.size ≤ pb; omega) _, h.lo, by simpa [World.setCell] using h.hh, h.oh⟩
theorem Cst.drew (h : Cst w A n c wv b pb mb hi vars pk oV hs ls wr) (k : Nat) : Cst w A n c wv b pb mb hi vars pk oV hs ls (wr.drewN k) := h.move (below_drewN (Below.refl _ _) k)
theorem Cst.pcell (h : Cst w A n c wv b pb mb hi vars pk oV hs ls wr) {p : Nat} (hp : p < pk.length) : wr.cell? ⟨pb, p, none⟩ = some (.int .i64 (pk.getD p 0)) := by
 rw [h.pick.cell p, qgm, qge hp, qgd, qge hp]; rfl
theorem Cst.row (h : Cst w A n c wv b pb mb hi vars pk oV hs ls wr) {oV' : Value} {w1 : World} {Ax : Option Addr} {nx cx : Nat} {xs : List Int} {Sx : Nat → Prop} (hr : RInts wr Sx Ax nx xs) (hn : nx ≤ cx ∧ cx ≤ maxLen) (hSx : ∀ k, Sx k → hi ≤ k ∧ k < wr.heap.size)
  (ho : w1.ownsRow w.heap.size 27 1 oV' (ls.length + 1) (hs.map hd ++ [.slice Ax nx cx])) (hg : (wr.alloc (.cells #[.slice Ax nx cx] 27)).grownBy w1 oV.ownBlock) (hv : oV'.ownBlock = oV.ownBlock ∨ oV'.ownBlock = some (wr.alloc (.cells #[.slice Ax nx cx] 27)).heap.size) :
  Cst w A n c wv b pb mb w1.heap.size vars pk oV' (hs ++ [(Ax, nx, cx)]) (ls ++ [xs]) (w1.setCell ⟨b, 2, none⟩ oV') := by
 have hal : Below wr.heap.size wr (wr.alloc (.cells #[.slice Ax nx cx] 27)) := (Below.refl _ wr).alloc (qr _) _
 have far : Far (fun i => oV.ownBlock = some i) wr w1 := (Far.of_below _ hal).trans (Far.of_grown hg fun i h => h.symm) fun _ _ h => h
 have hsz := far.size
 have hnes := h.nes; have hlo := h.lo; have hhh := h.hh
 have hnew : ∀ i, i < wr.heap.size → oV'.ownBlock = some i → oV.ownBlock = some i := fun i hi y => by
  rcases hv with hv | hv
  ·exact hv.symm.trans y
  ·rw [hv] at y; injection y with y; simp at y; omega
 have F : Far (fun i => i = b ∨ oV.ownBlock = some i) wr (w1.setCell ⟨b, 2, none⟩ oV') := (far.mono fun i x => .inr x).trans (Far.set_ (D := fun i => i = b) rfl 2 _) fun i _ x => .inl x
 have hfs : Far (fun i => i = b) w1 (w1.setCell ⟨b, 2, none⟩ oV') := Far.set_ (D := fun i => i = b) rfl 2 _
 have hol : ∀ g, oV.ownBlock = some g → w.heap.size ≤ g := fun g hg => (h.own.lt g hg).1
 have hoB : ∀ t vs k, Whole wr k t vs → t ≠ 27 → oV.ownBlock ≠ some k := fun t vs k hk ht => own_ne h.own hk ht
 have hb' : oV'.ownBlock ≠ some b := fun e => hnes.2.2.2.1 (hnew b (by omega) e)
 refine ⟨F.whole h.t fun e => e.elim (by omega) (hoB _ _ _ h.t (by decide)), F.whole h.wi fun e => e.elim (by omega) (hoB _ _ _ h.wi (by decide)), (far.whole h.blk hnes.2.2.2.1).set_ 2 oV', F.whole h.pick fun e => e.elim (fun e => hnes.1 e.symm) hnes.2.2.2.2.1, h.pair.block (F.block _ h.pair.lt fun e => e.elim (fun e => hnes.2.1 e.symm) hnes.2.2.2.2.2), ?_, ?_, ?_, h.lo, ?_, ?_⟩
 ·have h2 := hfs.own ho fun g hg e => hb' (by rw [hg, e])
  rw [List.length_append, List.map_append]; exact h2
 ·refine ((F.heads' h.heads fun i hi => ⟨by omega, fun e => e.elim hi.2.2.2.1 hi.2.2.1⟩).more fun k hk => ⟨hk.1, by omega, fun e => hk.2.2.1 (hnew k (by omega) e), hk.2.2.2⟩).append ((Heads.one (F.ints hr fun k hk => ?_) hn).more fun k hk => ?_)
  ·have := hSx k hk
   exact ⟨this.2, fun e => e.elim (by omega) fun e => by have := h.oh k e; omega⟩
  ·have := hSx k hk
   exact ⟨by omega, by omega, fun e => by have := h.oh k (hnew k this.2 e); omega, by omega, by omega, by omega⟩
 ·exact h.bel.trans (F.below h.bel.size fun i e => e.elim (by omega) (hol i))
 ·have : (w1.setCell ⟨b, 2, none⟩ oV').heap.size = w1.heap.size := by simp [World.setCell]
  rw [this]; omega
 ·exact fun g hg => (ho.lt g hg).2
end
def ChoicesP (ps : List Pk) (v : Ws) (S : Nat → Prop) (A : Option Addr) (n c : Nat) (w : World) (e : Ending) (w' : World) : Prop :=
 ∃ q : Dp, q.base = w.heap.size ∧ q.A = A ∧ q.n = n ∧ q.c = c ∧ q.ps = ps ∧ q.X = chW ps v ∧ q.S0 = S ∧ e = .returned (.pointer (some ⟨q.b, 0, none⟩)) ∧ Desk q (fun _ => False) 0 ⟨manyC ps, [], fun _ _ => 0⟩ w' ∧ Below w.heap.size w w'
theorem Cst.desk {w : World} {A : Option Addr} {n c : Nat} {wv : List Value} {b pb mb hi : Nat} {oV : Value} {hs : List (Option Addr × Nat × Nat)} {wr : World} {ps : List Pk} {v : Ws} {S : Nat → Prop}
  (h : Cst w A n c wv b pb mb hi (n + flagsBef ps n) (pkAll ps v n) oV hs ((List.range n).map fun (i : Nat) => (List.range (pkOf ps i).fs.length).map ((chW ps v).on i)) wr) (hT : RTree w S A n ps) (hnc : n ≤ c) (hc : c ≤ maxLen) (hn : n ≤ maxLen) (hS : ∀ k, S k → k < w.heap.size) :
  ChoicesP ps v S A n c w (.returned (.pointer (some ⟨b, 0, none⟩))) wr := by
 have hlen := hT.len
 obtain ⟨oA, oc, rfl, ho1, ho2, horow⟩ := own_formK h.own
 rw [Nat.mul_one] at horow
 simp only [List.length_map, List.length_range] at h ho1 horow
 have hnes := h.nes; have hlo := h.lo; have hhh := h.hh
 have hS1 : ∀ k, (w.heap.size ≤ k ∧ k < wr.heap.size ∧ k ≠ b ∧ k ≠ mb) → OwnD w.heap.size b mb (.slice none 0 0) (fun _ => False) wr.heap.size k := fun k hk => ⟨hk.1, hk.2.1, hk.2.2.1, hk.2.2.2, (fun e => by cases e), fun e => e⟩
 have hpl : (pkAll ps v n).length = n := by unfold pkAll; simp [hlen]
 refine ⟨⟨w.heap.size, b, mb, A, n, c, some ⟨pb, 0, none⟩, n, oA, oc, S, fun k => w.heap.size ≤ k ∧ k < wr.heap.size ∧ k ≠ b ∧ k ≠ mb, chW ps v, ps⟩, rfl, rfl, rfl, rfl, rfl, rfl, rfl, rfl, ⟨.slice none 0 0, [], ?_⟩, h.bel⟩
 refine ⟨?_, World.ownsRow_nil _ _ _ _, Heads.nil_, h.pair, ⟨?_, ?_, hT.under h.bel hS⟩, hS, hS1, ⟨by show w.heap.size ≤ b; omega, fun e => e⟩, ⟨by show w.heap.size ≤ mb; omega, fun e => e⟩, (fun g hg => by cases hg), (fun k e => e.elim), ⟨hnc, hc⟩, ⟨qr _, hn⟩, ?_⟩
 ·have hb := h.blk
  have e1 : n + flagsBef ps n = manyC ps := by unfold manyC; rw [hlen]
  rw [e1] at hb
  exact hb
 ·have : picksX (chW ps v) ps = pkAll ps v n := by rw [← hlen, pkAll_full]; rfl
  rw [this]
  exact h.pick.ints ⟨by omega, by omega, fun e => hnes.1 e.symm, hnes.2.2.1⟩ hpl
 ·have : onsX (chW ps v) ps = (List.range n).map fun (i : Nat) => (List.range (pkOf ps i).fs.length).map ((chW ps v).on i) := by unfold onsX; rw [hlen]
  rw [this]
  refine RClauses.of_ (horow.more fun k hk => ?_) (h.heads.more fun k hk => ⟨hk.1, by omega, hk.2.2.2.1, hk.2.2.2.2.2⟩)
  have hk2 := h.own.lt k hk
  exact ⟨hk2.1, hk2.2, fun e => hnes.2.2.2.1 (e ▸ hk), fun e => hnes.2.2.2.2.2 (e ▸ hk)⟩
 ·exact ⟨ho1, ho2⟩
end
end Go.Proofs.YtedbhlgjcnnknaaGreatDoor
