/- Parts of the proof: walks and plain laws, side by side. -/
import Derived.Test.YtedbhlgjcnnknaaGreatDoorP7
import Derived.Test.YtedbhlgjcnnknaaGreatDoorP11
import Derived.Deep.RegionHeld3
import Derived.Test.YtedbhlgjcnnknaaGreatDoorP1
set_option linter.unusedVariables false
set_option linter.unusedSimpArgs false
set_option linter.unusedSectionVars false
set_option maxRecDepth 100000
set_option maxHeartbeats 12800000
namespace Go.Proofs.YtedbhlgjcnnknaaGreatDoor
section
open Go.RowKit Qm
structure Pb (w : World) (b : Nat) (vs : List Value) (wr : World) : Prop where
 below : Below w.heap.size w wr
 whole : Whole wr b 101 vs
theorem Pb.move {w : World} {b : Nat} {vs : List Value} {w1 w2 : World} (h : Pb w b vs w1) (hb : Below w1.heap.size w1 w2) : Pb w b vs w2 := ⟨h.below.trans (hb.mono h.below.size), h.whole.below hb h.whole.lt⟩
theorem Pb.new (w : World) (vs : List Value) : Pb w w.heap.size vs (w.alloc (.cells vs.toArray 101)) := ⟨(Below.refl _ w).alloc (qr _) _, Whole.new w _ _ vs rfl⟩
theorem flP_all {y : Nd} (h : ckNeed y = 0) (p : Qm.W → Bool) : (flP y).all p = (flagsN y).all p := by
 unfold flP
 rw [if_pos h]
 refine all_mem p fun x => ?_
 rw [mem_compact]
 unfold sortW
 exact (List.mergeSort_perm _ _).mem_iff
theorem all_step {l : List Qm.W} {p : Qm.W → Bool} {j : Nat} {x : Qm.W} (h : l[j]? = some x) : (l.drop j).all p = (p x && (l.drop (j + 1)).all p) := by
 obtain ⟨hj, rfl⟩ := List.getElem?_eq_some_iff.1 h
 rw [List.drop_eq_getElem_cons hj]; rfl
theorem all_done {l : List Qm.W} {p : Qm.W → Bool} {j : Nat} (h : l.length ≤ j) : (l.drop j).all p = true := by rw [List.drop_eq_nil_of_le h]; rfl
theorem tcheck_any (p : Pk) (S : Nat → Prop) (x : List Value) (w : World) (hR : RPk w S x p) (hS : ∀ k, S k → k < w.heap.size) :
  Calls Tryz.prog 110 #[.agg x.toArray] w fun e w' => e = .returned (.int .i64 (ckPk p)) ∧ Below w.heap.size w w' := by
 obtain ⟨A, n, c, y, rfl, hP⟩ := hR
 rcases p with ⟨nm, ver, slot, fs, ⟨k, a, f, no, ks⟩⟩
 obtain ⟨D, q, d, rfl, -⟩ := RNd.open_ hP.nd
 have HK : Hid (ckPk ⟨nm, ver, slot, fs, .mk k a f no ks⟩ = if isName nm = false then 1 else if ver < 1 ∨ 99 < ver ∨ slot < 1 ∨ 9 < slot then 3 else if 2 < fs.length then 2 else if ckFlags none fs ≠ 0 then ckFlags none fs
  else if k ≠ 3 then 4 else if ckNeed (.mk k a f no ks) ≠ 0 then ckNeed (.mk k a f no ks) else if (flagsN (.mk k a f no ks)).all (fun f => fs.contains f) = true then 0 else 5) := qh rfl
 generalize ckPk _ = R at HK ⊢
 have hfl := fun W h1 h2 => nflags_any (.mk k a f no ks) S (ndRow k a f no D q d) W h1 h2
 unfold FlagsPost at hfl
 have HA := qh (fun h p => flP_all (y := .mk k a f no ks) h p)
 have HND := qh hP.nd
 generalize flP (.mk k a f no ks) = fl at hfl HA
 generalize flagsN (.mk k a f no ks) = fn at HA HK
 generalize ckNeed (.mk k a f no ks) = z at hfl HK HA
 have hln : fs.length = n := hP.fs.len
 have P0 := qh (Pb.new w (pkRow ⟨nm, ver, slot, fs, .mk k a f no ks⟩ A n c (ndRow k a f no D q d)))
 have hna := fun wx => name_any ⟨nm.toArray⟩ wx (by rw [bsz]; exact hP.nm)
 have HFS := qh hP.fs
 have hcap := hP.cap
 have hmax := hP.max
 unfold maxLen at hmax
 have HS := qh hS; clear hP hS
 unfold pkRow at P0 ⊢
 unfold ndRow at P0 hfl HND ⊢
 dsimp only at P0 HFS HND ⊢
 have Hfl := qh hfl; clear hfl
 have Hna : Hid (∀ wx, Calls Tryz.prog 104 #[.string ⟨nm.toArray⟩] wx fun e w' => e = .returned (.bool (isName nm)) ∧ Below wx.heap.size wx w') := qh hna
 clear hna
 cases hn : isName nm
 ·rw [hn] at Hna
  go_enter Tryz.func110, Tryz.ntmps110
  go_wp2_with (first | (go_at_call 104; refine (Hna.out _).mono ?_; rintro e w1 ⟨rfl, hb1⟩; refine Hid.out ?_))
  refine qh ?_
  have P1 := qh (P0.out.move hb1)
  clear hb1
  have d0 := P1.out.whole.cell 0; have d1 := P1.out.whole.cell 1; have d2 := P1.out.whole.cell 2; have d3 := P1.out.whole.cell 3; have d4 := P1.out.whole.cell 4; have d5 := P1.out.whole.cell 5; have d6 := P1.out.whole.cell 6
  have d7 := P1.out.whole.cell 7; have d8 := P1.out.whole.cell 8; have d9 := P1.out.whole.cell 9; have d10 := P1.out.whole.cell 10; have d11 := P1.out.whole.cell 11; have d12 := P1.out.whole.cell 12; have d13 := P1.out.whole.cell 13
  simp only [qgz, qgs] at d0 d1 d2 d3 d4 d5 d6 d7 d8 d9 d10 d11 d12 d13
  have hlt := P1.out.whole.lt
  go_wp2
  go_ret
  exact ⟨ret_int (by rw [HK.out, if_pos hn]), P1.out.below⟩
 rw [hn] at Hna
 by_cases v1 : ver < 1
 ·
  go_enter Tryz.func110, Tryz.ntmps110
  go_wp2_with (first | (go_at_call 104; refine (Hna.out _).mono ?_; rintro e w1 ⟨rfl, hb1⟩; refine Hid.out ?_))
  refine qh ?_
  have P1 := qh (P0.out.move hb1)
  clear hb1
  have d0 := P1.out.whole.cell 0; have d1 := P1.out.whole.cell 1; have d2 := P1.out.whole.cell 2; have d3 := P1.out.whole.cell 3; have d4 := P1.out.whole.cell 4; have d5 := P1.out.whole.cell 5; have d6 := P1.out.whole.cell 6
  have d7 := P1.out.whole.cell 7; have d8 := P1.out.whole.cell 8; have d9 := P1.out.whole.cell 9; have d10 := P1.out.whole.cell 10; have d11 := P1.out.whole.cell 11; have d12 := P1.out.whole.cell 12; have d13 := P1.out.whole.cell 13
  simp only [qgz, qgs] at d0 d1 d2 d3 d4 d5 d6 d7 d8 d9 d10 d11 d12 d13
  have hlt := P1.out.whole.lt
  go_wp2
  go_ret
  exact ⟨ret_int (by rw [HK.out, if_neg (by simp [hn]), if_pos (by omega)]), P1.out.below⟩
 have v1' : decide (ver < 1) = false := by simpa using v1
 by_cases v2 : 99 < ver
 ·
  go_enter Tryz.func110, Tryz.ntmps110
  go_wp2_with (first | (go_at_call 104; refine (Hna.out _).mono ?_; rintro e w1 ⟨rfl, hb1⟩; refine Hid.out ?_))
  refine qh ?_
  have P1 := qh (P0.out.move hb1)
  clear hb1
  have d0 := P1.out.whole.cell 0; have d1 := P1.out.whole.cell 1; have d2 := P1.out.whole.cell 2; have d3 := P1.out.whole.cell 3; have d4 := P1.out.whole.cell 4; have d5 := P1.out.whole.cell 5; have d6 := P1.out.whole.cell 6
  have d7 := P1.out.whole.cell 7; have d8 := P1.out.whole.cell 8; have d9 := P1.out.whole.cell 9; have d10 := P1.out.whole.cell 10; have d11 := P1.out.whole.cell 11; have d12 := P1.out.whole.cell 12; have d13 := P1.out.whole.cell 13
  simp only [qgz, qgs] at d0 d1 d2 d3 d4 d5 d6 d7 d8 d9 d10 d11 d12 d13
  have hlt := P1.out.whole.lt
  go_wp2
  go_ret
  exact ⟨ret_int (by rw [HK.out, if_neg (by simp [hn]), if_pos (by omega)]), P1.out.below⟩
 have v2' : decide (99 < ver) = false := by simpa using v2
 by_cases s1 : slot < 1
 ·
  go_enter Tryz.func110, Tryz.ntmps110
  go_wp2_with (first | (go_at_call 104; refine (Hna.out _).mono ?_; rintro e w1 ⟨rfl, hb1⟩; refine Hid.out ?_))
  refine qh ?_
  have P1 := qh (P0.out.move hb1)
  clear hb1
  have d0 := P1.out.whole.cell 0; have d1 := P1.out.whole.cell 1; have d2 := P1.out.whole.cell 2; have d3 := P1.out.whole.cell 3; have d4 := P1.out.whole.cell 4; have d5 := P1.out.whole.cell 5; have d6 := P1.out.whole.cell 6
  have d7 := P1.out.whole.cell 7; have d8 := P1.out.whole.cell 8; have d9 := P1.out.whole.cell 9; have d10 := P1.out.whole.cell 10; have d11 := P1.out.whole.cell 11; have d12 := P1.out.whole.cell 12; have d13 := P1.out.whole.cell 13
  simp only [qgz, qgs] at d0 d1 d2 d3 d4 d5 d6 d7 d8 d9 d10 d11 d12 d13
  have hlt := P1.out.whole.lt
  go_wp2
  go_ret
  exact ⟨ret_int (by rw [HK.out, if_neg (by simp [hn]), if_pos (by omega)]), P1.out.below⟩
 have s1' : decide (slot < 1) = false := by simpa using s1
 by_cases s2 : 9 < slot
 ·
  go_enter Tryz.func110, Tryz.ntmps110
  go_wp2_with (first | (go_at_call 104; refine (Hna.out _).mono ?_; rintro e w1 ⟨rfl, hb1⟩; refine Hid.out ?_))
  refine qh ?_
  have P1 := qh (P0.out.move hb1)
  clear hb1
  have d0 := P1.out.whole.cell 0; have d1 := P1.out.whole.cell 1; have d2 := P1.out.whole.cell 2; have d3 := P1.out.whole.cell 3; have d4 := P1.out.whole.cell 4; have d5 := P1.out.whole.cell 5; have d6 := P1.out.whole.cell 6
  have d7 := P1.out.whole.cell 7; have d8 := P1.out.whole.cell 8; have d9 := P1.out.whole.cell 9; have d10 := P1.out.whole.cell 10; have d11 := P1.out.whole.cell 11; have d12 := P1.out.whole.cell 12; have d13 := P1.out.whole.cell 13
  simp only [qgz, qgs] at d0 d1 d2 d3 d4 d5 d6 d7 d8 d9 d10 d11 d12 d13
  have hlt := P1.out.whole.lt
  go_wp2
  go_ret
  exact ⟨ret_int (by rw [HK.out, if_neg (by simp [hn]), if_pos (by omega)]), P1.out.below⟩
 have s2' : decide (9 < slot) = false := by simpa using s2
 have HK1 : Hid (R = if 2 < fs.length then 2 else if ckFlags none fs ≠ 0 then ckFlags none fs
  else if k ≠ 3 then 4 else if z ≠ 0 then z else if fn.all (fun f => fs.contains f) = true then 0 else 5) := qh (by rw [HK.out, if_neg (by simp [hn]), if_neg (by omega)])
 clear HK
 by_cases n2 : (2 : Int) < n
 ·
  go_enter Tryz.func110, Tryz.ntmps110
  go_wp2_with (first | (go_at_call 104; refine (Hna.out _).mono ?_; rintro e w1 ⟨rfl, hb1⟩; refine Hid.out ?_))
  refine qh ?_
  have P1 := qh (P0.out.move hb1)
  clear hb1
  have d0 := P1.out.whole.cell 0; have d1 := P1.out.whole.cell 1; have d2 := P1.out.whole.cell 2; have d3 := P1.out.whole.cell 3; have d4 := P1.out.whole.cell 4; have d5 := P1.out.whole.cell 5; have d6 := P1.out.whole.cell 6
  have d7 := P1.out.whole.cell 7; have d8 := P1.out.whole.cell 8; have d9 := P1.out.whole.cell 9; have d10 := P1.out.whole.cell 10; have d11 := P1.out.whole.cell 11; have d12 := P1.out.whole.cell 12; have d13 := P1.out.whole.cell 13
  simp only [qgz, qgs] at d0 d1 d2 d3 d4 d5 d6 d7 d8 d9 d10 d11 d12 d13
  have hlt := P1.out.whole.lt
  go_wp2
  go_ret
  exact ⟨ret_int (by rw [HK1.out, if_pos (by omega)]), P1.out.below⟩
 have n2' : decide ((2 : Int) < n) = false := qdf n2
 have HK2 : Hid (R = if ckFlags none fs ≠ 0 then ckFlags none fs else if k ≠ 3 then 4 else if z ≠ 0 then z else if fn.all (fun f => fs.contains f) = true then 0 else 5) := qh (by rw [HK1.out, if_neg (by omega)])
 clear HK1
 go_enter Tryz.func110, Tryz.ntmps110
 go_wp2_with (first | (go_at_call 104; refine (Hna.out _).mono ?_; rintro e w1 ⟨rfl, hb1⟩; refine Hid.out ?_))
 refine qh ?_
 have P1 := qh (P0.out.move hb1)
 clear hb1
 have d0 := P1.out.whole.cell 0; have d1 := P1.out.whole.cell 1; have d2 := P1.out.whole.cell 2; have d3 := P1.out.whole.cell 3; have d4 := P1.out.whole.cell 4; have d5 := P1.out.whole.cell 5; have d6 := P1.out.whole.cell 6
 have d7 := P1.out.whole.cell 7; have d8 := P1.out.whole.cell 8; have d9 := P1.out.whole.cell 9; have d10 := P1.out.whole.cell 10; have d11 := P1.out.whole.cell 11; have d12 := P1.out.whole.cell 12; have d13 := P1.out.whole.cell 13
 simp only [qgz, qgs] at d0 d1 d2 d3 d4 d5 d6 d7 d8 d9 d10 d11 d12 d13
 have hlt := P1.out.whole.lt
 go_wp2
 clear d0 d1 d2 d3 d4 d5 d6 d7 d8 d9 d10 d11 d12 d13 hlt
 clear v1 v2 s1 s2 v1' v2' s1' s2' n2' hn Hna
 go_loopg [38] n (fun g iv wr => ∃ (j : Nat), Hid (j + g = n) ∧ iv = .int .i64 j ∧ Hid (ckFlags none fs = ckFlags (prevOf fs j) (fs.drop j)) ∧ Hid (Pb w w.heap.size [.string ⟨nm.toArray⟩, .int .i64 ver, .int .i64 slot, .slice A n c, .int .i64 k, .string ⟨a.nm.toArray⟩, .int .i64 a.op, .int .i64 a.ver, .int .i64 a.slot, .string ⟨a.fl.toArray⟩, .bool a.on, .string ⟨f.toArray⟩, .bool no, .slice D q d] wr))
 case atStart => exact ⟨0, qh (Nat.zero_add _), rfl, qh rfl, P1⟩
 case round =>
  obtain ⟨j, Hj, rfl, Hcl, PR⟩ := hrel
  clear P1
  by_cases hj : j < n
  ·obtain ⟨b, o, g, rfl, hbS, hg, hgl, hcell⟩ := (HFS.out.under PR.out.below HS.out).at_ hj
   have hlb : b < wr.heap.size := ql (HS.out _ hbS) PR.out.below.size
   have Hst := qh (ckFlags_step hg)
   have Hnm : Hid (∀ wx, Calls Tryz.prog 104 #[.string ⟨g.toArray⟩] wx fun e w' => e = .returned (.bool (isName g)) ∧ Below wx.heap.size wx w') := qh (fun wx => name_any ⟨g.toArray⟩ wx (by rw [bsz]; exact hgl))
   clear hgl
   cases hq : isName g
   ·rw [hq] at Hnm
    clear hg
    have d0 := PR.out.whole.cell 0; have d1 := PR.out.whole.cell 1; have d2 := PR.out.whole.cell 2; have d3 := PR.out.whole.cell 3; have d4 := PR.out.whole.cell 4; have d5 := PR.out.whole.cell 5; have d6 := PR.out.whole.cell 6
    have d7 := PR.out.whole.cell 7; have d8 := PR.out.whole.cell 8; have d9 := PR.out.whole.cell 9; have d10 := PR.out.whole.cell 10; have d11 := PR.out.whole.cell 11; have d12 := PR.out.whole.cell 12; have d13 := PR.out.whole.cell 13
    simp only [qgz, qgs] at d0 d1 d2 d3 d4 d5 d6 d7 d8 d9 d10 d11 d12 d13
    have hlt := PR.out.whole.lt
    go_wp2_with (first | (go_at_call 104; refine (Hnm.out _).mono ?_; rintro e w2 ⟨rfl, hb2⟩; refine Hid.out ?_))
    refine qh ?_
    clear d0 d1 d2 d3 d4 d5 d6 d7 d8 d9 d10 d11 d12 d13 hlt
    have P2 := qh (PR.out.move hb2)
    replace hcell := (hb2.cell (p := ⟨b, _, none⟩) hlb).trans hcell
    clear hb2
    have d0 := P2.out.whole.cell 0; have d1 := P2.out.whole.cell 1; have d2 := P2.out.whole.cell 2; have d3 := P2.out.whole.cell 3; have d4 := P2.out.whole.cell 4; have d5 := P2.out.whole.cell 5; have d6 := P2.out.whole.cell 6
    have d7 := P2.out.whole.cell 7; have d8 := P2.out.whole.cell 8; have d9 := P2.out.whole.cell 9; have d10 := P2.out.whole.cell 10; have d11 := P2.out.whole.cell 11; have d12 := P2.out.whole.cell 12; have d13 := P2.out.whole.cell 13
    simp only [qgz, qgs] at d0 d1 d2 d3 d4 d5 d6 d7 d8 d9 d10 d11 d12 d13
    have hlt := P2.out.whole.lt
    go_wp2
    go_ret
    exact ⟨ret_int (by rw [HK2.out, Hcl.out, Hst.out, if_pos hq]; rfl), P2.out.below⟩
   rw [hq] at Hnm
   rcases j with _ | i
   ·clear hg
    rw [Nat.add_zero] at hcell
    have d0 := PR.out.whole.cell 0; have d1 := PR.out.whole.cell 1; have d2 := PR.out.whole.cell 2; have d3 := PR.out.whole.cell 3; have d4 := PR.out.whole.cell 4; have d5 := PR.out.whole.cell 5; have d6 := PR.out.whole.cell 6
    have d7 := PR.out.whole.cell 7; have d8 := PR.out.whole.cell 8; have d9 := PR.out.whole.cell 9; have d10 := PR.out.whole.cell 10; have d11 := PR.out.whole.cell 11; have d12 := PR.out.whole.cell 12; have d13 := PR.out.whole.cell 13
    simp only [qgz, qgs] at d0 d1 d2 d3 d4 d5 d6 d7 d8 d9 d10 d11 d12 d13
    have hlt := PR.out.whole.lt
    go_wp2_with (first | (go_at_call 104; refine (Hnm.out _).mono ?_; rintro e w2 ⟨rfl, hb2⟩; refine Hid.out ?_))
    refine qh ?_
    clear d0 d1 d2 d3 d4 d5 d6 d7 d8 d9 d10 d11 d12 d13 hlt
    have P2 := qh (PR.out.move hb2)
    replace hcell := (hb2.cell (p := ⟨b, _, none⟩) hlb).trans hcell
    clear hb2
    have d0 := P2.out.whole.cell 0; have d1 := P2.out.whole.cell 1; have d2 := P2.out.whole.cell 2; have d3 := P2.out.whole.cell 3; have d4 := P2.out.whole.cell 4; have d5 := P2.out.whole.cell 5; have d6 := P2.out.whole.cell 6
    have d7 := P2.out.whole.cell 7; have d8 := P2.out.whole.cell 8; have d9 := P2.out.whole.cell 9; have d10 := P2.out.whole.cell 10; have d11 := P2.out.whole.cell 11; have d12 := P2.out.whole.cell 12; have d13 := P2.out.whole.cell 13
    simp only [qgz, qgs] at d0 d1 d2 d3 d4 d5 d6 d7 d8 d9 d10 d11 d12 d13
    have hlt := P2.out.whole.lt
    go_wp2
    go_roundg (gk - 1)
    case measure => have := Hj.out; omega
    case rel => exact ⟨1, qh (by have := Hj.out; omega), by go_num, qh (by rw [Hcl.out, Hst.out, if_neg (by simp [hq])]; rfl), P2⟩
   ·obtain ⟨b', o', u, eA, _, hu, _, hucell⟩ := (HFS.out.under PR.out.below HS.out).at_ (j := i) (by omega)
    injection eA with eA; injection eA with e1 e2; subst e1 e2
    have hpr : prevOf fs (i + 1) = some u := prevOf_succ hu
    have Hpr := qh hpr
    have hbl := bytesLess_eq u g
    clear hg hu hpr
    by_cases hug : u < g
    ·rw [qdt hug] at hbl
     have Hug : Hid (badNext (some u) g = false) := qh (qdf (List.not_le.2 hug))
     clear hug
     have d0 := PR.out.whole.cell 0; have d1 := PR.out.whole.cell 1; have d2 := PR.out.whole.cell 2; have d3 := PR.out.whole.cell 3; have d4 := PR.out.whole.cell 4; have d5 := PR.out.whole.cell 5; have d6 := PR.out.whole.cell 6
     have d7 := PR.out.whole.cell 7; have d8 := PR.out.whole.cell 8; have d9 := PR.out.whole.cell 9; have d10 := PR.out.whole.cell 10; have d11 := PR.out.whole.cell 11; have d12 := PR.out.whole.cell 12; have d13 := PR.out.whole.cell 13
     simp only [qgz, qgs] at d0 d1 d2 d3 d4 d5 d6 d7 d8 d9 d10 d11 d12 d13
     have hlt := PR.out.whole.lt
     go_wp2_with (first | (go_at_call 104; refine (Hnm.out _).mono ?_; rintro e w2 ⟨rfl, hb2⟩; refine Hid.out ?_))
     refine qh ?_
     clear d0 d1 d2 d3 d4 d5 d6 d7 d8 d9 d10 d11 d12 d13 hlt
     have P2 := qh (PR.out.move hb2)
     replace hcell := (hb2.cell (p := ⟨b, _, none⟩) hlb).trans hcell
     replace hucell := (hb2.cell (p := ⟨b, _, none⟩) hlb).trans hucell
     clear hb2
     have d0 := P2.out.whole.cell 0; have d1 := P2.out.whole.cell 1; have d2 := P2.out.whole.cell 2; have d3 := P2.out.whole.cell 3; have d4 := P2.out.whole.cell 4; have d5 := P2.out.whole.cell 5; have d6 := P2.out.whole.cell 6
     have d7 := P2.out.whole.cell 7; have d8 := P2.out.whole.cell 8; have d9 := P2.out.whole.cell 9; have d10 := P2.out.whole.cell 10; have d11 := P2.out.whole.cell 11; have d12 := P2.out.whole.cell 12; have d13 := P2.out.whole.cell 13
     simp only [qgz, qgs] at d0 d1 d2 d3 d4 d5 d6 d7 d8 d9 d10 d11 d12 d13
     have hlt := P2.out.whole.lt
     go_wp2
     go_roundg (gk - 1)
     case measure => have := Hj.out; omega
     case rel => exact ⟨i + 1 + 1, qh (by have := Hj.out; omega), by go_num, qh (by rw [Hcl.out, Hst.out, if_neg (by simp [hq]), Hpr.out, if_neg (by rw [Hug.out]; simp)]), P2⟩
    ·rw [qdf hug] at hbl
     have Hug : Hid (badNext (some u) g = true) := qh (qdt (List.not_lt.1 hug))
     clear hug
     have d0 := PR.out.whole.cell 0; have d1 := PR.out.whole.cell 1; have d2 := PR.out.whole.cell 2; have d3 := PR.out.whole.cell 3; have d4 := PR.out.whole.cell 4; have d5 := PR.out.whole.cell 5; have d6 := PR.out.whole.cell 6
     have d7 := PR.out.whole.cell 7; have d8 := PR.out.whole.cell 8; have d9 := PR.out.whole.cell 9; have d10 := PR.out.whole.cell 10; have d11 := PR.out.whole.cell 11; have d12 := PR.out.whole.cell 12; have d13 := PR.out.whole.cell 13
     simp only [qgz, qgs] at d0 d1 d2 d3 d4 d5 d6 d7 d8 d9 d10 d11 d12 d13
     have hlt := PR.out.whole.lt
     go_wp2_with (first | (go_at_call 104; refine (Hnm.out _).mono ?_; rintro e w2 ⟨rfl, hb2⟩; refine Hid.out ?_))
     refine qh ?_
     clear d0 d1 d2 d3 d4 d5 d6 d7 d8 d9 d10 d11 d12 d13 hlt
     have P2 := qh (PR.out.move hb2)
     replace hcell := (hb2.cell (p := ⟨b, _, none⟩) hlb).trans hcell
     replace hucell := (hb2.cell (p := ⟨b, _, none⟩) hlb).trans hucell
     clear hb2
     have d0 := P2.out.whole.cell 0; have d1 := P2.out.whole.cell 1; have d2 := P2.out.whole.cell 2; have d3 := P2.out.whole.cell 3; have d4 := P2.out.whole.cell 4; have d5 := P2.out.whole.cell 5; have d6 := P2.out.whole.cell 6
     have d7 := P2.out.whole.cell 7; have d8 := P2.out.whole.cell 8; have d9 := P2.out.whole.cell 9; have d10 := P2.out.whole.cell 10; have d11 := P2.out.whole.cell 11; have d12 := P2.out.whole.cell 12; have d13 := P2.out.whole.cell 13
     simp only [qgz, qgs] at d0 d1 d2 d3 d4 d5 d6 d7 d8 d9 d10 d11 d12 d13
     have hlt := P2.out.whole.lt
     go_wp2
     go_ret
     have e6 : ckFlags none fs = 6 := by rw [Hcl.out, Hst.out, if_neg (by simp [hq]), Hpr.out, if_pos Hug.out]
     exact ⟨ret_int (by rw [HK2.out, e6]; rfl), P2.out.below⟩
  ·obtain rfl : n = j := by have := Hj.out; omega
   have HK3 : Hid (R = if k ≠ 3 then 4 else if z ≠ 0 then z else if fn.all (fun f => fs.contains f) = true then 0 else 5) := qh (by rw [HK2.out, if_neg (by rw [Hcl.out, ckFlags_done (by omega)]; simp)])
   clear HK2 Hcl
   have d0 := PR.out.whole.cell 0; have d1 := PR.out.whole.cell 1; have d2 := PR.out.whole.cell 2; have d3 := PR.out.whole.cell 3; have d4 := PR.out.whole.cell 4; have d5 := PR.out.whole.cell 5; have d6 := PR.out.whole.cell 6
   have d7 := PR.out.whole.cell 7; have d8 := PR.out.whole.cell 8; have d9 := PR.out.whole.cell 9; have d10 := PR.out.whole.cell 10; have d11 := PR.out.whole.cell 11; have d12 := PR.out.whole.cell 12; have d13 := PR.out.whole.cell 13
   simp only [qgz, qgs] at d0 d1 d2 d3 d4 d5 d6 d7 d8 d9 d10 d11 d12 d13
   have hlt := PR.out.whole.lt
   by_cases k3 : k = 3
   ·subst k3
    have HK4 : Hid (R = if z ≠ 0 then z else if fn.all (fun f => fs.contains f) = true then 0 else 5) := qh (by rw [HK3.out, if_neg (by simp)])
    clear HK3
    go_wp2_with (first | (go_at_call 130; refine (Hfl.out _ (HND.out.under PR.out.below HS.out) (fun k hk => ql (HS.out k hk) PR.out.below.size)).mono ?_; rintro e w3 ⟨Af, cf, rfl, hrf, hf1, hf2, hb3⟩; refine Hid.out ?_))
    refine qh ?_
    clear d0 d1 d2 d3 d4 d5 d6 d7 d8 d9 d10 d11 d12 d13 hlt
    have P3 := qh (PR.out.move hb3)
    clear hb3 PR Hfl
    by_cases z0 : z = 0
    ·subst z0
     have HK5 : Hid (R = if fl.all (fun f => fs.contains f) = true then 0 else 5) := qh (by rw [HK4.out, if_neg (by simp), HA.out rfl])
     clear HK4 HA
     have HRF := qh hrf; clear hrf
     have hfll : fl.length ≤ maxLen := qlt hf1 hf2
     unfold maxLen at hfll
     go_wp2
     go_loopg [74] fl.length (fun g iv wr => ∃ (j : Nat), Hid (j + g = fl.length) ∧ iv = .int .i64 j ∧ Hid (fl.all (fun f => fs.contains f) = (fl.drop j).all (fun f => fs.contains f)) ∧ Hid (Below w3.heap.size w3 wr))
     case atStart => exact ⟨0, qh (Nat.zero_add _), rfl, qh rfl, qh (Below.refl _ _)⟩
     case round =>
      obtain ⟨j, Hj, rfl, Hcl, HBr⟩ := hrel
      have P4 := qh (P3.out.move HBr.out)
      clear P3
      by_cases hj : j < fl.length
      ·obtain ⟨b, o, rfl, hbS, hcell⟩ := (HRF.out.below HBr.out fun q hq => hq.2).at_ hj
       have hlb : b < wr.heap.size := ql hbS.2 HBr.out.size
       have hgj : fl[j]? = some (fl[j]'hj) := qge hj
       generalize fl[j]'hj = g at hgj
       rw [strs, qgm, hgj] at hcell
       dsimp only [Option.map_some] at hcell
       have Hst := qh (all_step (p := fun f => fs.contains f) hgj)
       have Hco := qh (fun wx h => containsS_any A n c fs g wx S h (by unfold maxLen; omega))
       have HRW := qh (HFS.out.under P4.out.below HS.out).row
       clear hgj
       cases hq : fs.contains g
       ·rw [hq] at Hco
        have d0 := P4.out.whole.cell 0; have d1 := P4.out.whole.cell 1; have d2 := P4.out.whole.cell 2; have d3 := P4.out.whole.cell 3; have d4 := P4.out.whole.cell 4; have d5 := P4.out.whole.cell 5; have d6 := P4.out.whole.cell 6
        have d7 := P4.out.whole.cell 7; have d8 := P4.out.whole.cell 8; have d9 := P4.out.whole.cell 9; have d10 := P4.out.whole.cell 10; have d11 := P4.out.whole.cell 11; have d12 := P4.out.whole.cell 12; have d13 := P4.out.whole.cell 13
        simp only [qgz, qgs] at d0 d1 d2 d3 d4 d5 d6 d7 d8 d9 d10 d11 d12 d13
        have hlt := P4.out.whole.lt
        go_wp2_with (first | (go_at_call 92; refine (Hco.out _ HRW.out).mono ?_; rintro e w5 ⟨rfl, rfl⟩; refine Hid.out ?_))
        refine qh ?_
        go_wp2
        go_ret
        exact ⟨ret_int (by rw [HK5.out, if_neg (by rw [Hcl.out, Hst.out]; simp only [hq, Bool.false_and]; decide)]), P4.out.below⟩
       ·rw [hq] at Hco
        have d0 := P4.out.whole.cell 0; have d1 := P4.out.whole.cell 1; have d2 := P4.out.whole.cell 2; have d3 := P4.out.whole.cell 3; have d4 := P4.out.whole.cell 4; have d5 := P4.out.whole.cell 5; have d6 := P4.out.whole.cell 6
        have d7 := P4.out.whole.cell 7; have d8 := P4.out.whole.cell 8; have d9 := P4.out.whole.cell 9; have d10 := P4.out.whole.cell 10; have d11 := P4.out.whole.cell 11; have d12 := P4.out.whole.cell 12; have d13 := P4.out.whole.cell 13
        simp only [qgz, qgs] at d0 d1 d2 d3 d4 d5 d6 d7 d8 d9 d10 d11 d12 d13
        have hlt := P4.out.whole.lt
        go_wp2_with (first | (go_at_call 92; refine (Hco.out _ HRW.out).mono ?_; rintro e w5 ⟨rfl, rfl⟩; refine Hid.out ?_))
        refine qh ?_
        go_wp2
        go_roundg (gk - 1)
        case measure => have := Hj.out; omega
        case rel => exact ⟨j + 1, qh (by have := Hj.out; omega), by go_num, qh (by rw [Hcl.out, Hst.out]; simp only [hq, Bool.true_and]), HBr⟩
      ·obtain rfl : j = fl.length := by have := Hj.out; omega
       have d0 := P4.out.whole.cell 0; have d1 := P4.out.whole.cell 1; have d2 := P4.out.whole.cell 2; have d3 := P4.out.whole.cell 3; have d4 := P4.out.whole.cell 4; have d5 := P4.out.whole.cell 5; have d6 := P4.out.whole.cell 6
       have d7 := P4.out.whole.cell 7; have d8 := P4.out.whole.cell 8; have d9 := P4.out.whole.cell 9; have d10 := P4.out.whole.cell 10; have d11 := P4.out.whole.cell 11; have d12 := P4.out.whole.cell 12; have d13 := P4.out.whole.cell 13
       simp only [qgz, qgs] at d0 d1 d2 d3 d4 d5 d6 d7 d8 d9 d10 d11 d12 d13
       have hlt := P4.out.whole.lt
       go_wp2
       go_ret
       exact ⟨ret_int (by rw [HK5.out, if_pos (by rw [Hcl.out, all_done (qr _)])]), P4.out.below⟩
    ·have z1 : (z != 0) = true := by simpa using z0
     go_wp2
     go_ret
     exact ⟨ret_int (by rw [HK4.out, if_pos z0]), P3.out.below⟩
   ·have k1 : (k != 3) = true := by simpa using k3
    go_wp2
    go_ret
    exact ⟨ret_int (by rw [HK3.out, if_pos k3]), PR.out.below⟩
end
section
theorem held_at0 {o0 : Oper} {r : List Oper} : (List.toArray (o0 :: r))[0]? = some o0 := rfl
theorem held_at1 {o0 o1 : Oper} {r : List Oper} : (List.toArray (o0 :: o1 :: r))[1]? = some o1 := rfl
theorem held_at2 {o0 o1 o2 : Oper} {r : List Oper} : (List.toArray (o0 :: o1 :: o2 :: r))[2]? = some o2 := rfl
theorem held_at3 {o0 o1 o2 o3 : Oper} {r : List Oper} : (List.toArray (o0 :: o1 :: o2 :: o3 :: r))[3]? = some o3 := rfl
theorem held_at4 {o0 o1 o2 o3 o4 : Oper} {r : List Oper} : (List.toArray (o0 :: o1 :: o2 :: o3 :: o4 :: r))[4]? = some o4 := rfl
theorem held_at5 {o0 o1 o2 o3 o4 o5 : Oper} {r : List Oper} : (List.toArray (o0 :: o1 :: o2 :: o3 :: o4 :: o5 :: r))[5]? = some o5 := rfl
theorem held_at6 {o0 o1 o2 o3 o4 o5 o6 : Oper} {r : List Oper} : (List.toArray (o0 :: o1 :: o2 :: o3 :: o4 :: o5 :: o6 :: r))[6]? = some o6 := rfl
theorem held_at7 {o0 o1 o2 o3 o4 o5 o6 o7 : Oper} {r : List Oper} : (List.toArray (o0 :: o1 :: o2 :: o3 :: o4 :: o5 :: o6 :: o7 :: r))[7]? = some o7 := rfl
theorem held_at8 {o0 o1 o2 o3 o4 o5 o6 o7 o8 : Oper} {r : List Oper} : (List.toArray (o0 :: o1 :: o2 :: o3 :: o4 :: o5 :: o6 :: o7 :: o8 :: r))[8]? = some o8 := rfl
theorem held_at9 {o0 o1 o2 o3 o4 o5 o6 o7 o8 o9 : Oper} {r : List Oper} : (List.toArray (o0 :: o1 :: o2 :: o3 :: o4 :: o5 :: o6 :: o7 :: o8 :: o9 :: r))[9]? = some o9 := rfl
theorem held_at10 {o0 o1 o2 o3 o4 o5 o6 o7 o8 o9 o10 : Oper} {r : List Oper} : (List.toArray (o0 :: o1 :: o2 :: o3 :: o4 :: o5 :: o6 :: o7 :: o8 :: o9 :: o10 :: r))[10]? = some o10 := rfl
theorem held_at11 {o0 o1 o2 o3 o4 o5 o6 o7 o8 o9 o10 o11 : Oper} {r : List Oper} : (List.toArray (o0 :: o1 :: o2 :: o3 :: o4 :: o5 :: o6 :: o7 :: o8 :: o9 :: o10 :: o11 :: r))[11]? = some o11 := rfl
theorem held_at12 {o0 o1 o2 o3 o4 o5 o6 o7 o8 o9 o10 o11 o12 : Oper} {r : List Oper} : (List.toArray (o0 :: o1 :: o2 :: o3 :: o4 :: o5 :: o6 :: o7 :: o8 :: o9 :: o10 :: o11 :: o12 :: r))[12]? = some o12 := rfl
theorem held_at13 {o0 o1 o2 o3 o4 o5 o6 o7 o8 o9 o10 o11 o12 o13 : Oper} {r : List Oper} : (List.toArray (o0 :: o1 :: o2 :: o3 :: o4 :: o5 :: o6 :: o7 :: o8 :: o9 :: o10 :: o11 :: o12 :: o13 :: r))[13]? = some o13 := rfl
theorem held_at14 {o0 o1 o2 o3 o4 o5 o6 o7 o8 o9 o10 o11 o12 o13 o14 : Oper} {r : List Oper} : (List.toArray (o0 :: o1 :: o2 :: o3 :: o4 :: o5 :: o6 :: o7 :: o8 :: o9 :: o10 :: o11 :: o12 :: o13 :: o14 :: r))[14]? = some o14 := rfl
theorem held_at15 {o0 o1 o2 o3 o4 o5 o6 o7 o8 o9 o10 o11 o12 o13 o14 o15 : Oper} {r : List Oper} : (List.toArray (o0 :: o1 :: o2 :: o3 :: o4 :: o5 :: o6 :: o7 :: o8 :: o9 :: o10 :: o11 :: o12 :: o13 :: o14 :: o15 :: r))[15]? = some o15 := rfl
theorem held_at16 {o0 o1 o2 o3 o4 o5 o6 o7 o8 o9 o10 o11 o12 o13 o14 o15 o16 : Oper} {r : List Oper} : (List.toArray (o0 :: o1 :: o2 :: o3 :: o4 :: o5 :: o6 :: o7 :: o8 :: o9 :: o10 :: o11 :: o12 :: o13 :: o14 :: o15 :: o16 :: r))[16]? = some o16 := rfl
theorem held_at17 {o0 o1 o2 o3 o4 o5 o6 o7 o8 o9 o10 o11 o12 o13 o14 o15 o16 o17 : Oper} {r : List Oper} : (List.toArray (o0 :: o1 :: o2 :: o3 :: o4 :: o5 :: o6 :: o7 :: o8 :: o9 :: o10 :: o11 :: o12 :: o13 :: o14 :: o15 :: o16 :: o17 :: r))[17]? = some o17 := rfl
theorem held_at18 {o0 o1 o2 o3 o4 o5 o6 o7 o8 o9 o10 o11 o12 o13 o14 o15 o16 o17 o18 : Oper} {r : List Oper} : (List.toArray (o0 :: o1 :: o2 :: o3 :: o4 :: o5 :: o6 :: o7 :: o8 :: o9 :: o10 :: o11 :: o12 :: o13 :: o14 :: o15 :: o16 :: o17 :: o18 :: r))[18]? = some o18 := rfl
theorem held_at19 {o0 o1 o2 o3 o4 o5 o6 o7 o8 o9 o10 o11 o12 o13 o14 o15 o16 o17 o18 o19 : Oper} {r : List Oper} : (List.toArray (o0 :: o1 :: o2 :: o3 :: o4 :: o5 :: o6 :: o7 :: o8 :: o9 :: o10 :: o11 :: o12 :: o13 :: o14 :: o15 :: o16 :: o17 :: o18 :: o19 :: r))[19]? = some o19 := rfl
theorem held_at20 {o0 o1 o2 o3 o4 o5 o6 o7 o8 o9 o10 o11 o12 o13 o14 o15 o16 o17 o18 o19 o20 : Oper} {r : List Oper} : (List.toArray (o0 :: o1 :: o2 :: o3 :: o4 :: o5 :: o6 :: o7 :: o8 :: o9 :: o10 :: o11 :: o12 :: o13 :: o14 :: o15 :: o16 :: o17 :: o18 :: o19 :: o20 :: r))[20]? = some o20 := rfl
theorem held_at21 {o0 o1 o2 o3 o4 o5 o6 o7 o8 o9 o10 o11 o12 o13 o14 o15 o16 o17 o18 o19 o20 o21 : Oper} {r : List Oper} : (List.toArray (o0 :: o1 :: o2 :: o3 :: o4 :: o5 :: o6 :: o7 :: o8 :: o9 :: o10 :: o11 :: o12 :: o13 :: o14 :: o15 :: o16 :: o17 :: o18 :: o19 :: o20 :: o21 :: r))[21]? = some o21 := rfl
section
variable {P : Program} {ops : Array Oper} {Q : Exit → Act → World → Prop} {md : Region.Mode} {S : World → Prop} {i : Nat} {oi : Oper} {v : Value} {fuel : Nat} {listed : Array Bool} {a : Act} {w : World}
theorem tkA (hi : ops[i]? = some oi) (hy : ∀ w, S w → (execOp a.eval oi).run P w = .ok (.value v) w) (h : wpAnyH P md ops Q S fuel (listed.setIfInBounds i true) (a.put oi.dst v) w)
  (hs : Region.noSelect ops = true := by kernel_rfl) (hf : Region.free md ops listed i = true := by kernel_rfl) (hr : (Region.ready md ops listed).contains i = true := by kernel_rfl) (hQ : ∀ c a w, Q (.panic c) (a.put oi.dst v) w → Q (.panic c) a w := by exact fun _ _ _ h => h)
  (hw : Region.wanted oi (yielded ops a.tmps) = true := by rfl) (hS : S w := by assumption) : wpAnyH P md ops Q S (fuel + 1) listed a w := wpAnyH_take hi hs hf hr hQ (Or.inl ⟨hw, hy⟩) hS h
theorem tkB (hi : ops[i]? = some oi) (h : wpAnyH P md ops Q S fuel (listed.setIfInBounds i true) (a.put oi.dst undef) w)
  (hs : Region.noSelect ops = true := by kernel_rfl) (hf : Region.free md ops listed i = true := by kernel_rfl) (hr : (Region.ready md ops listed).contains i = true := by kernel_rfl) (hQ : ∀ c a w, Q (.panic c) (a.put oi.dst undef) w → Q (.panic c) a w := by exact fun _ _ _ h => h)
  (hw : Region.wanted oi (yielded ops a.tmps) = false := by rfl) (hS : S w := by assumption) : wpAnyH P md ops Q S (fuel + 1) listed a w := wpAnyH_take hi hs hf hr hQ (Or.inr ⟨hw, rfl⟩) hS h
end
end
end Go.Proofs.YtedbhlgjcnnknaaGreatDoor
