/- Parts of the proof: walks and plain laws, side by side. -/
import Derived.Test.YtokibfankmjphaaGreatDoorM19
import Derived.Test.YtokibfankmjphaaGreatDoorM15
set_option linter.unusedVariables false
set_option linter.unusedSimpArgs false
set_option linter.unusedSectionVars false
/- The other telling of what fits, walked. -/
namespace Go.Proofs.YtokibfankmjphaaGreatDoor
open Go.RowKit Qm

set_option maxHeartbeats 3200000 in
theorem rfits_any (s f : ByteArray) (op ver slot v sl : Int) (on : Bool) (w : World) :
    Calls Tryz.prog 47 #[atv s op ver slot f on, .int .i64 v, .int .i64 sl] w fun e w' => e = .returned (.bool (fitsP (atOf s op ver slot f on) v sl)) ∧ Below w.heap.size w w' := by
  have BN := Lib.hid (Boxed.new w s op ver slot f on (t := 43))
  unfold atv
  by_cases z : slot = 0
  · subst z
    by_cases a1 : op = 1
    · subst a1
      go_enter Tryz.func47, Tryz.ntmps47
      go_wp2
      go_ret
      exact ⟨ret_bool (by rw [Bool.eq_iff_iff]; simp [fitsP, atOf, *] <;> exact decide_eq_true_iff.symm), (Below.refl _ _).alloc (Nat.le_refl _) _⟩
    · have b1 : (op == 1) = false := by simpa using a1
      by_cases a2 : op = 2
      · subst a2
        go_enter Tryz.func47, Tryz.ntmps47
        go_wp2
        go_ret
        exact ⟨ret_bool (by rw [Bool.eq_iff_iff]; simp [fitsP, atOf, *] <;> exact decide_eq_true_iff.symm), (Below.refl _ _).alloc (Nat.le_refl _) _⟩
      · have b2 : (op == 2) = false := by simpa using a2
        by_cases a3 : op = 3
        · subst a3
          go_enter Tryz.func47, Tryz.ntmps47
          go_wp2
          go_ret
          exact ⟨ret_bool (by rw [Bool.eq_iff_iff]; simp [fitsP, atOf, *] <;> exact decide_eq_true_iff.symm), (Below.refl _ _).alloc (Nat.le_refl _) _⟩
        · have b3 : (op == 3) = false := by simpa using a3
          go_enter Tryz.func47, Tryz.ntmps47
          go_wp2
          go_ret
          exact ⟨ret_bool (by rw [Bool.eq_iff_iff]; simp [fitsP, atOf, *] <;> exact decide_eq_true_iff.symm), (Below.refl _ _).alloc (Nat.le_refl _) _⟩
  · have z1 : (slot == 0) = false := by simpa using z
    by_cases y : slot = sl
    · have y1 : (slot == sl) = true := by simpa using y
      by_cases a1 : op = 1
      · subst a1
        go_enter Tryz.func47, Tryz.ntmps47
        go_wp2
        go_ret
        exact ⟨ret_bool (by rw [Bool.eq_iff_iff]; simp [fitsP, atOf, *] <;> exact decide_eq_true_iff.symm), (Below.refl _ _).alloc (Nat.le_refl _) _⟩
      · have b1 : (op == 1) = false := by simpa using a1
        by_cases a2 : op = 2
        · subst a2
          go_enter Tryz.func47, Tryz.ntmps47
          go_wp2
          go_ret
          exact ⟨ret_bool (by rw [Bool.eq_iff_iff]; simp [fitsP, atOf, *] <;> exact decide_eq_true_iff.symm), (Below.refl _ _).alloc (Nat.le_refl _) _⟩
        · have b2 : (op == 2) = false := by simpa using a2
          by_cases a3 : op = 3
          · subst a3
            go_enter Tryz.func47, Tryz.ntmps47
            go_wp2
            go_ret
            exact ⟨ret_bool (by rw [Bool.eq_iff_iff]; simp [fitsP, atOf, *] <;> exact decide_eq_true_iff.symm), (Below.refl _ _).alloc (Nat.le_refl _) _⟩
          · have b3 : (op == 3) = false := by simpa using a3
            go_enter Tryz.func47, Tryz.ntmps47
            go_wp2
            go_ret
            exact ⟨ret_bool (by rw [Bool.eq_iff_iff]; simp [fitsP, atOf, *] <;> exact decide_eq_true_iff.symm), (Below.refl _ _).alloc (Nat.le_refl _) _⟩
    · have y1 : (slot == sl) = false := by simpa using y
      by_cases a1 : op = 1
      · subst a1
        go_enter Tryz.func47, Tryz.ntmps47
        go_wp2
        go_ret
        exact ⟨ret_bool (by rw [Bool.eq_iff_iff]; simp [fitsP, atOf, *] <;> exact decide_eq_true_iff.symm), (Below.refl _ _).alloc (Nat.le_refl _) _⟩
      · have b1 : (op == 1) = false := by simpa using a1
        by_cases a2 : op = 2
        · subst a2
          go_enter Tryz.func47, Tryz.ntmps47
          go_wp2
          go_ret
          exact ⟨ret_bool (by rw [Bool.eq_iff_iff]; simp [fitsP, atOf, *] <;> exact decide_eq_true_iff.symm), (Below.refl _ _).alloc (Nat.le_refl _) _⟩
        · have b2 : (op == 2) = false := by simpa using a2
          by_cases a3 : op = 3
          · subst a3
            go_enter Tryz.func47, Tryz.ntmps47
            go_wp2
            go_ret
            exact ⟨ret_bool (by rw [Bool.eq_iff_iff]; simp [fitsP, atOf, *] <;> exact decide_eq_true_iff.symm), (Below.refl _ _).alloc (Nat.le_refl _) _⟩
          · have b3 : (op == 3) = false := by simpa using a3
            go_enter Tryz.func47, Tryz.ntmps47
            go_wp2
            go_ret
            exact ⟨ret_bool (by rw [Bool.eq_iff_iff]; simp [fitsP, atOf, *] <;> exact decide_eq_true_iff.symm), (Below.refl _ _).alloc (Nat.le_refl _) _⟩
end Go.Proofs.YtokibfankmjphaaGreatDoor

/- quartermasterref.Is, walked. (Printed by wip/bin/mkris.py out of XVW1.) -/
namespace Go.Proofs.YtokibfankmjphaaGreatDoor
open Go.RowKit Qm

theorem ixOf_found {f : Qm.W} : ∀ {l : List Qm.W} {i : Nat}, (∀ x ∈ l.take i, x ≠ f) → l[i]? = some f → ixOf f l = some i
  | [], i, _, h => by simp at h
  | g :: r, 0, _, h => by
    simp only [List.getElem?_cons_zero, Option.some.injEq] at h
    simp [ixOf, h]
  | g :: r, i + 1, h, h2 => by
    rw [List.getElem?_cons_succ] at h2
    have hg : g ≠ f := h g (by simp)
    have := ixOf_found (f := f) (l := r) (i := i) (fun x hx => h x (by simp [hx])) h2
    simp only [ixOf]
    rw [if_neg hg, this]; rfl
theorem ixOf_all {f : Qm.W} {l : List Qm.W} {n : Nat} (hn : l.length ≤ n) (h : ∀ x ∈ l.take n, x ≠ f) : ixOf f l = none := by
  rw [List.take_of_length_le hn] at h
  exact ixOf_none.2 fun hf => h f hf rfl
theorem take_ne {f g : Qm.W} {l : List Qm.W} {i : Nat} (h : ∀ x ∈ l.take i, x ≠ f) (hg : l[i]? = some g) (hne : g ≠ f) : ∀ x ∈ l.take (i + 1), x ≠ f := by
  obtain ⟨hi, rfl⟩ := List.getElem?_eq_some_iff.1 hg
  intro x hx
  rw [List.take_succ_eq_append_getElem hi, List.mem_append, List.mem_singleton] at hx
  rcases hx with hx | rfl
  · exact h x hx
  · exact hne
set_option maxRecDepth 100000 in
set_option maxHeartbeats 3200000 in
theorem ris_any (ps : List Pk) (m : Mem) (a : At) (S : Nat → Prop) (A B : Option Addr) (n c k d : Nat) (w : World) (hT : RTree w S A n ps) (hB : RBools w S B k m.on) (hkd : k ≤ d) (hm : MemOk ps m) (hS : ∀ k, S k → k < w.heap.size) (hn8 : n ≤ 8) (hfs : ∀ p ∈ ps, ∀ f ∈ p.fs, f ≠ []) (h1 : a.nm.length ≤ maxLen) (h2 : a.fl.length ≤ maxLen) :
    Calls Tryz.prog 26 #[.agg #[.slice A n c], .agg #[.int .i64 m.pl, .slice B k d], .agg #[.string ⟨a.nm.toArray⟩, .int .i64 a.op, .int .i64 a.ver, .int .i64 a.slot, .string ⟨a.fl.toArray⟩, .bool a.on]] w fun e w' => e = .returned (.bool (isA ps m a)) ∧ Below w.heap.size w w' := by
  obtain ⟨hm0, hm1, hm2⟩ := hm
  have hl := hT.len
  obtain ⟨pl, on⟩ := m
  dsimp only at hm0 hm1 hm2 hB ⊢
  obtain ⟨j, rfl⟩ : ∃ j : Nat, pl = j := ⟨pl.toNat, by omega⟩
  have hjn : j < n := by omega
  obtain ⟨b, o, p, D, q, c', kd, pa, f, no, E, r, d', rfl, hbS, hp, hP, hcell⟩ := hT.at_ hjn
  rw [pkOf_at hp] at hm2
  have HNE := Lib.hid (hfs p (List.mem_of_getElem? hp))
  clear hfs
  have HC : Hid (isA ps ⟨(j : Int), on⟩ a = (decide (p.nm = a.nm) && (fitsP a p.ver p.slot && (decide (a.fl = []) || flagIs p ⟨(j : Int), on⟩ a)))) := Lib.hid (by unfold isA; rw [pkOf_at hp])
  have HF : Hid (flagIs p ⟨(j : Int), on⟩ a = match ixOf a.fl p.fs with | some i => onOf on i == a.on | none => false) := Lib.hid rfl
  generalize isA ps ⟨(j : Int), on⟩ a = R at HC ⊢
  generalize flagIs p ⟨(j : Int), on⟩ a = fl at HC HF
  have g0 := hcell 0 (by omega); have g1 := hcell 1 (by omega); have g2 := hcell 2 (by omega); have g3 := hcell 3 (by omega); have g4 := hcell 4 (by omega); have g5 := hcell 5 (by omega); have g6 := hcell 6 (by omega); have g7 := hcell 7 (by omega); have g8 := hcell 8 (by omega); have g9 := hcell 9 (by omega); have g10 := hcell 10 (by omega); have g11 := hcell 11 (by omega); have g12 := hcell 12 (by omega); have g13 := hcell 13 (by omega)
  unfold pkRow ndRow at g0 g1 g2 g3 g4 g5 g6 g7 g8 g9 g10 g11 g12 g13
  simp only [List.getElem?_cons_zero, List.getElem?_cons_succ, Nat.add_zero] at g0 g1 g2 g3 g4 g5 g6 g7 g8 g9 g10 g11 g12 g13
  clear hcell hp
  have hbl : b < w.heap.size := hS b hbS
  have hbl_1 : b < w.heap.size + 1 := by omega
  have hbl_2 : b < w.heap.size + 1 + 1 := by omega
  have I0 := Lib.hid (Ib.new w (some ⟨b, o, none⟩) n c [.int .i64 (j : Int), .slice B k d] [.string ⟨a.nm.toArray⟩, .int .i64 a.op, .int .i64 a.ver, .int .i64 a.slot, .string ⟨a.fl.toArray⟩, .bool a.on])
  have P1 := Lib.hid (Whole.new (((w.alloc (.cells #[.slice (some ⟨b, o, none⟩) n c] 24)).alloc (.cells #[.int .i64 (j : Int), .slice B k d] 51)).alloc (.cells #[.string ⟨a.nm.toArray⟩, .int .i64 a.op, .int .i64 a.ver, .int .i64 a.slot, .string ⟨a.fl.toArray⟩, .bool a.on] 43)) (w.heap.size + 1 + 1 + 1) 48 (pkRow p D q c' (ndRow kd pa f no E r d')) (by simp))
  have I1 := Lib.hid (I0.out.move ((Below.refl _ (((w.alloc (.cells #[.slice (some ⟨b, o, none⟩) n c] 24)).alloc (.cells #[.int .i64 (j : Int), .slice B k d] 51)).alloc (.cells #[.string ⟨a.nm.toArray⟩, .int .i64 a.op, .int .i64 a.ver, .int .i64 a.slot, .string ⟨a.fl.toArray⟩, .bool a.on] 43))).alloc (Nat.le_refl _) (.cells (pkRow p D q c' (ndRow kd pa f no E r d')).toArray 48)))
  have HFS := Lib.hid hP.fs.row
  have HBO := Lib.hid hB
  have HPm := Lib.hid (Nat.le_trans hP.cap hP.max)
  have HBl := Lib.hid hB.len
  have HFl := Lib.hid hP.fs.len
  have HS := Lib.hid hS
  have hft := fun wx => rfits_any ⟨a.nm.toArray⟩ ⟨a.fl.toArray⟩ a.op a.ver a.slot p.ver p.slot a.on wx
  rw [atOf_mk] at hft
  unfold atv at hft
  have Hft := Lib.hid hft
  clear hT hB hP hS hft I0
  obtain ⟨nm, ver, slot, fs, nd⟩ := p
  unfold pkRow ndRow at P1 I1
  dsimp only at g0 g1 g2 g3 g4 g5 g6 g7 g8 g9 g10 g11 g12 g13 P1 I1 HFS Hft HC HF HFl hm2
  generalize fitsP a ver slot = ft at Hft HC
  have hj1 : (j : Int) < n := by omega
  by_cases hn : nm = a.nm
  · subst hn
    have H1 : Hid (R = (ft && (decide (a.fl = []) || fl))) := Lib.hid (by rw [HC.out]; simp)
    clear HC
    cases ft
    · have HE : Hid (R = false) := Lib.hid (by rw [H1.out]; rfl)
      go_enter Tryz.func26, Tryz.ntmps26
      go_wp2_with (first | (go_at_call 47; refine (Hft.out _).mono ?_; rintro e w4 ⟨rfl, hb4⟩; refine Hid.out ?_))
      refine Lib.hid ?_
      have P4 := Lib.hid (P1.out.below hb4 P1.out.lt)
      have I4 := Lib.hid (I1.out.move hb4)
      clear hb4
      go_wp2
      go_ret
      exact ⟨ret_bool HE.out.symm, I4.out.bel⟩
    · have H2 : Hid (R = (decide (a.fl = []) || fl)) := Lib.hid (by rw [H1.out]; rfl)
      clear H1
      have hqm : q ≤ 9223372036854775807 := by have := HPm.out; unfold maxLen at this; omega
      go_enter Tryz.func26, Tryz.ntmps26
      go_wp2_with (first | (go_at_call 47; refine (Hft.out _).mono ?_; rintro e w4 ⟨rfl, hb4⟩; refine Hid.out ?_))
      refine Lib.hid ?_
      have P4 := Lib.hid (P1.out.below hb4 P1.out.lt)
      have I4 := Lib.hid (I1.out.move hb4)
      clear hb4
      have p3 := P4.out.cell 3
      simp only [List.getElem?_cons_zero, List.getElem?_cons_succ] at p3
      have plt := P4.out.lt
      go_wp2
      clear p3 plt
      go_loopg [33] q (fun g iv wr => ∃ i : Nat, Hid (i + g = q) ∧ iv = .int .i64 i ∧ Hid (∀ x ∈ fs.take i, x ≠ a.fl) ∧ Hid (Below w4.heap.size w4 wr))
      case atStart => exact ⟨0, Lib.hid (Nat.zero_add _), rfl, Lib.hid (fun x hx => by simp at hx), Lib.hid (Below.refl _ _)⟩
      case round =>
        obtain ⟨i, Hi, rfl, Hne, HB⟩ := hrel
        have IR := Lib.hid (I4.out.move HB.out)
        by_cases hi : i < q
        · obtain ⟨b3, o3, rfl, hb3, hc3⟩ := (HFS.out.below (w' := wr) IR.out.bel HS.out).at_ hi
          have hlb3 : b3 < wr.heap.size := Nat.lt_of_lt_of_le (HS.out _ hb3) IR.out.bel.size
          have hgi : fs[i]? = some (fs[i]'(by rw [HFl.out]; exact hi)) := List.getElem?_eq_getElem _
          generalize fs[i]'(by rw [HFl.out]; exact hi) = g at hgi
          rw [strs, List.getElem?_map, hgi] at hc3
          dsimp only [Option.map_some] at hc3
          have HG := Lib.hid hgi
          clear hgi
          have a4 := IR.out.a.cell 4
          have a5 := IR.out.a.cell 5
          have m1 := IR.out.m.cell 1
          simp only [List.getElem?_cons_zero, List.getElem?_cons_succ] at a4 a5 m1
          have alt := IR.out.a.lt
          by_cases hg : g = a.fl
          · subst hg
            have hix := ixOf_found Hne.out HG.out
            have hne := HNE.out _ (List.mem_of_getElem? HG.out)
            obtain ⟨b2, o2, rfl, hb2, hbc⟩ := HBO.out.at_ (k := i) (by rw [← HBl.out, hm2, HFl.out]; exact hi)
            have hik : (i : Int) < k := by have := HBl.out; have := HFl.out; omega
            have hbl2 := HS.out b2 hb2
            have HE : Hid (R = (on.getD i false == a.on)) := Lib.hid (by rw [H2.out, HF.out, hix, decide_eq_false hne]; rfl)
            generalize on.getD i false = ob at hbc HE
            have ob4 := (IR.out.bel.cell (p := ⟨b2, o2 + i, none⟩) hbl2).trans hbc
            have hgg : (a.fl == a.fl) = true := by simp
            have hi0 : (0 : Int) ≤ (i : Int) := by omega
            clear hix hne hbc hm2
            go_wp2
            go_quiet (fail)
            go_wp2
            go_ret
            exact ⟨ret_bool HE.out.symm, below_drewN IR.out.bel _⟩
          · have hgg : (g == a.fl) = false := by simpa using hg
            have HN := Lib.hid (take_ne Hne.out HG.out hg)
            clear hg
            go_wp2
            go_roundg (gk - 1)
            case measure => have := Hi.out; omega
            case rel => exact ⟨i + 1, Lib.hid (by have := Hi.out; omega), by go_num, HN, HB⟩
        · obtain rfl : q = i := by have := Hi.out; omega
          have hix := ixOf_all (f := a.fl) (l := fs) (Nat.le_of_eq HFl.out) Hne.out
          have HE0 : Hid (R = decide (a.fl = [])) := Lib.hid (by rw [H2.out, HF.out, hix]; simp)
          have a4 := IR.out.a.cell 4
          simp only [List.getElem?_cons_zero, List.getElem?_cons_succ] at a4
          have alt := IR.out.a.lt
          clear hix
          by_cases hfl : a.fl = []
          · have HE : Hid (R = true) := Lib.hid (by rw [HE0.out, decide_eq_true hfl])
            have Hfl := Lib.hid hfl; clear hfl
            rw [Hfl.out] at a4
            go_wp2
            go_ret
            exact ⟨ret_bool HE.out.symm, IR.out.bel⟩
          · have HE : Hid (R = false) := Lib.hid (by rw [HE0.out, decide_eq_false hfl])
            have hf1 : (a.fl == []) = false := by simpa using hfl
            have hf2 : a.fl.isEmpty = false := by simpa using hfl
            clear hfl
            go_wp2
            go_ret
            exact ⟨ret_bool HE.out.symm, IR.out.bel⟩
  · have hn' : (a.nm == nm) = false := by rw [beq_eq_false_iff_ne]; exact fun e => hn e.symm
    have HE : Hid (R = false) := Lib.hid (by rw [HC.out, decide_eq_false hn]; rfl)
    go_enter Tryz.func26, Tryz.ntmps26
    go_wp2
    go_ret
    exact ⟨ret_bool HE.out.symm, I1.out.bel⟩
end Go.Proofs.YtokibfankmjphaaGreatDoor

/- The closure 'many' of quartermasterref.HoldsIn, walked. -/
namespace Go.Proofs.YtokibfankmjphaaGreatDoor
open Go.RowKit Qm

/-- How many, but one, are what is asked. -/
def cntM (q : Mem → Bool) (but : Int) : Nat → List Mem → Nat
  | _, [] => 0
  | i, m :: r => (if (i : Int) ≠ but ∧ q m = true then 1 else 0) + cntM q but (i + 1) r
theorem cntM_step {q : Mem → Bool} {but : Int} {l : List Mem} {i : Nat} {m : Mem} (h : l[i]? = some m) : cntM q but i (l.drop i) = (if (i : Int) ≠ but ∧ q m = true then 1 else 0) + cntM q but (i + 1) (l.drop (i + 1)) := by
  obtain ⟨hi, rfl⟩ := List.getElem?_eq_some_iff.1 h
  rw [List.drop_eq_getElem_cons hi]; rfl
theorem cntM_le {q : Mem → Bool} {but : Int} : ∀ {l : List Mem} {i : Nat}, cntM q but i l ≤ l.length
  | [], _ => Nat.le_refl _
  | m :: r, i => by
    have := cntM_le (q := q) (but := but) (l := r) (i := i + 1)
    simp only [cntM, List.length_cons]; split <;> omega
theorem cntM_any {q : Mem → Bool} : ∀ {l : List Mem} {i : Nat}, 0 < cntM q (-1) i l ↔ l.any q = true
  | [], _ => by simp [cntM]
  | m :: r, i => by
    have ih := cntM_any (q := q) (l := r) (i := i + 1)
    have hi : (i : Int) ≠ -1 := by omega
    rw [List.any_cons, Bool.or_eq_true, ← ih]
    show 0 < (if (i : Int) ≠ -1 ∧ q m = true then 1 else 0) + cntM q (-1) (i + 1) r ↔ _
    by_cases hq : q m = true
    · rw [if_pos ⟨hi, hq⟩]; constructor
      · intro _; exact .inl hq
      · intro _; omega
    · rw [if_neg (fun e => hq e.2), Nat.zero_add]; constructor
      · intro h; exact .inr h
      · intro h; exact h.resolve_left hq
theorem cntM_block {q : Mem → Bool} {k : Nat} : ∀ {l : List Mem} {i : Nat}, cntM q (k : Int) i l = 0 ↔ blockB q k i l = true
  | [], _ => by simp [cntM, blockB]
  | m :: r, i => by
    have ih := cntM_block (q := q) (k := k) (l := r) (i := i + 1)
    show (if (i : Int) ≠ (k : Int) ∧ q m = true then 1 else 0) + cntM q (k : Int) (i + 1) r = 0 ↔ (if i ≠ k ∧ q m = true then false else blockB q k (i + 1) r) = true
    by_cases h : i ≠ k ∧ q m = true
    · rw [if_pos h, if_pos (show (i : Int) ≠ (k : Int) ∧ q m = true from ⟨by omega, h.2⟩)]
      constructor
      · intro h; omega
      · intro h; cases h
    · rw [if_neg h, if_neg (fun e => h ⟨by omega, e.2⟩), Nat.zero_add, ih]

/-- The boxes that 'many' has of HoldsIn. -/
structure Mb (bt bl : Nat) (A B : Option Addr) (n c k d : Nat) (wx : World) : Prop where
  t : Whole wx bt 24 [.slice A n c]
  l : Whole wx bl 26 [.slice B k d]
theorem Mb.move {bt bl : Nat} {A B : Option Addr} {n c k d : Nat} {wx wy : World} (h : Mb bt bl A B n c k d wx) (hb : Below wx.heap.size wx wy) : Mb bt bl A B n c k d wy := ⟨h.t.below hb h.t.lt, h.l.below hb h.l.lt⟩
set_option maxRecDepth 100000 in
set_option maxHeartbeats 3200000 in
theorem rmany_any (ps : List Pk) (l : List Mem) (a : At) (but : Int) (S : Nat → Prop) (A B : Option Addr) (n c k d bt bl : Nat) (w : World) (hT : RTree w S A n ps) (hL : RSet w S B k l) (hk : k ≤ maxLen) (hok : ∀ m ∈ l, MemOk ps m) (hS : ∀ k, S k → k < w.heap.size) (hn8 : n ≤ 8) (hfs : ∀ p ∈ ps, ∀ f ∈ p.fs, f ≠ [])
    (h1 : a.nm.length ≤ maxLen) (h2 : a.fl.length ≤ maxLen) (hM : Mb bt bl A B n c k d w) (hbut : -1 ≤ but) :
    Calls Tryz.prog 29 #[.agg #[.string ⟨a.nm.toArray⟩, .int .i64 a.op, .int .i64 a.ver, .int .i64 a.slot, .string ⟨a.fl.toArray⟩, .bool a.on], .int .i64 but, .pointer (some ⟨bl, 0, none⟩), .pointer (some ⟨bt, 0, none⟩)] w fun e w' => e = .returned (.int .i64 (cntM (fun m => isA ps m a) but 0 l)) ∧ Below w.heap.size w w' := by
  have Hll := Lib.hid hL.len
  have hba := (Below.refl w.heap.size w).alloc (Nat.le_refl _) (.cells #[.string ⟨a.nm.toArray⟩, .int .i64 a.op, .int .i64 a.ver, .int .i64 a.slot, .string ⟨a.fl.toArray⟩, .bool a.on] 43)
  have M1 := Lib.hid (hM.move hba)
  have A1 := Lib.hid (Whole.new w w.heap.size 43 [.string ⟨a.nm.toArray⟩, .int .i64 a.op, .int .i64 a.ver, .int .i64 a.slot, .string ⟨a.fl.toArray⟩, .bool a.on] rfl)
  have HB1 := Lib.hid hba
  have HT := Lib.hid hT; have HL := Lib.hid hL; have HS := Lib.hid hS; have HOK := Lib.hid hok
  have His := Lib.hid (fun m B k d wx h1x h2x h3x h4x h5x => ris_any ps m a S A B n c k d wx h1x h2x h3x h4x h5x hn8 hfs h1 h2)
  have HC : Hid (cntM (fun m => isA ps m a) but 0 l = cntM (fun m => isA ps m a) but 0 (l.drop 0)) := Lib.hid rfl
  obtain ⟨R, hR⟩ : ∃ R, R = cntM (fun m => isA ps m a) but 0 l := ⟨_, rfl⟩
  rw [← hR]
  have HR := Lib.hid hR
  have hRk : R ≤ k := by rw [hR, ← Hll.out]; exact cntM_le
  clear hba hT hL hS hok hM hR hfs HC
  unfold maxLen at hk
  have l0 := M1.out.l.cell 0
  simp only [List.getElem?_cons_zero] at l0
  go_enter Tryz.func29, Tryz.ntmps29
  go_wp2
  clear l0
  generalize w.alloc _ = w1 at M1 A1 HB1 ⊢
  go_loopg [7, 12] k (fun g cv iv wr => ∃ i z : Nat, Hid (i + g = k) ∧ iv = .int .i64 i ∧ cv = .int .i64 z ∧ Hid (R = z + cntM (fun m => isA ps m a) but i (l.drop i)) ∧ Hid (Below w1.heap.size w1 wr))
  case atStart => exact ⟨0, 0, Lib.hid (Nat.zero_add _), rfl, rfl, Lib.hid (by rw [HR.out, Nat.zero_add]; rfl), Lib.hid (Below.refl _ _)⟩
  case round =>
    obtain ⟨i, z, Hi, rfl, rfl, HZ, HB⟩ := hrel
    have MR := Lib.hid (M1.out.move HB.out)
    have AR := Lib.hid (A1.out.below HB.out A1.out.lt)
    have HBw := Lib.hid (HB1.out.trans (HB.out.mono HB1.out.size))
    by_cases hi : i < k
    · obtain ⟨b, o, m, E, q, r, rfl, hbS, hm, hqr, hr, hon, g0, g1⟩ := (HL.out.under HBw.out HS.out).at_ hi
      have Hst := Lib.hid (cntM_step (q := fun m => isA ps m a) (but := but) hm)
      have hmo := HOK.out m (List.mem_of_getElem? hm)
      have hbl : b < wr.heap.size := Nat.lt_of_lt_of_le (HS.out _ hbS) HBw.out.size
      have hzk : z ≤ k := by have := HZ.out; omega
      have hb2 := (Below.refl wr.heap.size wr).alloc (Nat.le_refl _) (.cells #[.int .i64 m.pl, .slice E q r] 51)
      have HB2 := Lib.hid hb2
      have hc := His.out m E q r _ (HT.out.under (HBw.out.trans (hb2.mono HBw.out.size)) HS.out) (Row.keep hon fun p hp => hb2.cell (Nat.lt_of_lt_of_le (HS.out _ hp) HBw.out.size)) hqr hmo (fun x hx => Nat.lt_of_lt_of_le (HS.out x hx) (Nat.le_trans HBw.out.size hb2.size))
      obtain ⟨pl, on⟩ := m
      dsimp only at g0 g1 hc hb2 HB2
      generalize isA ps ⟨pl, on⟩ a = x at hc Hst
      have Hc := Lib.hid hc
      clear hc hb2 hm hmo hon
      have t0 := MR.out.t.cell 0
      have l0 := MR.out.l.cell 0
      have a0 := AR.out.cell 0; have a1 := AR.out.cell 1; have a2 := AR.out.cell 2; have a3 := AR.out.cell 3; have a4 := AR.out.cell 4; have a5 := AR.out.cell 5
      simp only [List.getElem?_cons_zero, List.getElem?_cons_succ] at t0 l0 a0 a1 a2 a3 a4 a5
      have tlt := MR.out.t.lt; have llt := MR.out.l.lt; have alt := AR.out.lt
      by_cases hib : (i : Int) = but
      · have h3 : ((i : Int) != but) = false := by simpa using hib
        have HN : Hid (R = z + cntM (fun m => isA ps m a) but (i + 1) (l.drop (i + 1))) := Lib.hid (by rw [HZ.out, Hst.out, if_neg (fun e => e.1 hib)]; omega)
        clear hib
        go_wp2
        go_roundg (gk - 1)
        case measure => have := Hi.out; omega
        case rel => exact ⟨i + 1, z, Lib.hid (by have := Hi.out; omega), by go_num, rfl, HN, Lib.hid (HB.out.trans (HB2.out.mono HB.out.size))⟩
      · have h3 : ((i : Int) != but) = true := by simpa using hib
        cases x
        · have HN : Hid (R = z + cntM (fun m => isA ps m a) but (i + 1) (l.drop (i + 1))) := Lib.hid (by rw [HZ.out, Hst.out, if_neg (fun e => by simp at e)]; omega)
          clear hib
          go_wp2_with (first | (go_at_call 26; refine Hc.out.mono ?_; rintro e w3 ⟨rfl, hb3⟩; refine Hid.out ?_))
          refine Lib.hid ?_
          have HB3 := Lib.hid (HB2.out.trans (hb3.mono HB2.out.size))
          clear hb3
          go_wp2
          go_roundg (gk - 1)
          case measure => have := Hi.out; omega
          case rel => exact ⟨i + 1, z, Lib.hid (by have := Hi.out; omega), by go_num, rfl, HN, Lib.hid (HB.out.trans (HB3.out.mono HB.out.size))⟩
        · have HN : Hid (R = z + 1 + cntM (fun m => isA ps m a) but (i + 1) (l.drop (i + 1))) := Lib.hid (by rw [HZ.out, Hst.out, if_pos ⟨hib, rfl⟩]; omega)
          have hz1 : z + 1 ≤ k := by have := HN.out; omega
          clear hib
          go_wp2_with (first | (go_at_call 26; refine Hc.out.mono ?_; rintro e w3 ⟨rfl, hb3⟩; refine Hid.out ?_))
          refine Lib.hid ?_
          have HB3 := Lib.hid (HB2.out.trans (hb3.mono HB2.out.size))
          clear hb3
          go_wp2
          go_roundg (gk - 1)
          case measure => have := Hi.out; omega
          case rel => exact ⟨i + 1, z + 1, Lib.hid (by have := Hi.out; omega), by go_num, by go_num, HN, Lib.hid (HB.out.trans (HB3.out.mono HB.out.size))⟩
    · obtain rfl : k = i := by have := Hi.out; omega
      have HE : Hid (R = z) := Lib.hid (by rw [HZ.out, List.drop_eq_nil_of_le (by have := Hll.out; omega)]; rfl)
      go_wp2
      go_ret
      exact ⟨ret_int (by rw [HE.out]), HBw.out⟩
end Go.Proofs.YtokibfankmjphaaGreatDoor
