/- Parts of the proof: walks and plain laws, side by side. -/
import Derived.Test.YthpkffeiehnamaaGreatDoorM30
import Derived.Test.YthpkffeiehnamaaGreatDoorM3
import Derived.Test.YthpkffeiehnamaaGreatDoorM22
import Derived.Test.YthpkffeiehnamaaGreatDoorM5
set_option linter.unusedVariables false
set_option linter.unusedSimpArgs false
set_option linter.unusedSectionVars false
/- quartermasterref.NeedText, walked. -/
namespace Go.Proofs.YthpkffeiehnamaaGreatDoor
open Go.RowKit Qm

theorem rsadd (a b : Qm.W) (h : a.length + b.length ≤ 1000000) (wx : World) : (Op.stringOp .add ⟨a.toArray⟩ ⟨b.toArray⟩).run Tryz.prog wx = .ok (.string ⟨(a ++ b).toArray⟩) wx := by
  rw [run_string_add_sum wx _ _ (by rw [bsz, bsz]; omega)]
  exact congrArg (fun z => Result.ok (Value.string z) wx) (bapp a b)
theorem ret_str {a b : Qm.W} (h : a = b) : Ending.returned (.string ⟨a.toArray⟩) = .returned (.string ⟨b.toArray⟩) := by rw [h]
def RTexts (ks : List Nd) : Prop := ∀ x ∈ ks, ∀ (S : Nat → Prop) (cx : List Value) (w : World), RNd w S cx x → (∀ k, S k → k < w.heap.size) → ckNd x = 0 → x.nodes ≤ 20 →
    Calls Tryz.prog 57 #[.agg cx.toArray] w fun e w' => e = .returned (.string ⟨(rtx x).toArray⟩) ∧ Below w.heap.size w w'
set_option maxRecDepth 100000 in
set_option maxHeartbeats 1600000 in
theorem rntext_leaf1 (nm fl f : Qm.W) (op ver slot : Int) (on no : Bool) (A : Option Addr) (n c : Nat) (ks : List Nd) (w : World) (h : ckNd (.mk 1 ⟨nm, op, ver, slot, fl, on⟩ f no ks) = 0) :
    Calls Tryz.prog 57 #[.agg (ndRow 1 ⟨nm, op, ver, slot, fl, on⟩ f no A n c).toArray] w fun e w' => e = .returned (.string ⟨(rtx (.mk 1 ⟨nm, op, ver, slot, fl, on⟩ f no ks)).toArray⟩) ∧ Below w.heap.size w w' := by
  have hk := ckNd_leaf h (by omega)
  unfold ndRow
  have HB := Lib.hid ((Below.refl _ w).alloc (Nat.le_refl _) (.cells #[.int .i64 1, .string ⟨nm.toArray⟩, .int .i64 op, .int .i64 ver, .int .i64 slot, .string ⟨fl.toArray⟩, .bool on, .string ⟨f.toArray⟩, .bool no, .slice A n c] 57))
  have ht := fun wx => rtext_any ⟨nm.toArray⟩ ⟨fl.toArray⟩ op ver slot on wx (by rw [show atOf ⟨nm.toArray⟩ op ver slot ⟨fl.toArray⟩ on = ⟨nm, op, ver, slot, fl, on⟩ from by simp [atOf]]; exact hk)
  rw [show atOf ⟨nm.toArray⟩ op ver slot ⟨fl.toArray⟩ on = ⟨nm, op, ver, slot, fl, on⟩ from by simp [atOf]] at ht
  unfold atv at ht
  have HC : Hid (rtx (.mk 1 ⟨nm, op, ver, slot, fl, on⟩ f no ks) = textOf ⟨nm, op, ver, slot, fl, on⟩) := Lib.hid (by simp [rtx])
  have hlen := textOf_len (atOk hk)
  generalize rtx _ = R at HC ⊢
  generalize textOf _ = t at HC ht hlen
  have Ht := Lib.hid ht
  have a1 := fun wx => rsadd [33] t (by simp; omega) wx
  clear ht h hk
  go_enter Tryz.func57, Tryz.ntmps57
  go_wp2_with (first | (go_at_call 93; refine (Ht.out _).mono ?_; rintro e w1 ⟨rfl, hb1⟩; refine Hid.out ?_))
  refine Lib.hid ?_
  have HB1 := Lib.hid (HB.out.trans (hb1.mono HB.out.size)); clear hb1
  go_wp2
  go_ret
  exact ⟨ret_str HC.out.symm, HB1.out⟩
set_option maxRecDepth 100000 in
set_option maxHeartbeats 1600000 in
theorem rntext_leaf2 (nm fl f : Qm.W) (op ver slot : Int) (on no : Bool) (A : Option Addr) (n c : Nat) (ks : List Nd) (w : World) (h : ckNd (.mk 2 ⟨nm, op, ver, slot, fl, on⟩ f no ks) = 0) :
    Calls Tryz.prog 57 #[.agg (ndRow 2 ⟨nm, op, ver, slot, fl, on⟩ f no A n c).toArray] w fun e w' => e = .returned (.string ⟨(rtx (.mk 2 ⟨nm, op, ver, slot, fl, on⟩ f no ks)).toArray⟩) ∧ Below w.heap.size w w' := by
  have hk := ckNd_leaf h (by omega)
  unfold ndRow
  have HB := Lib.hid ((Below.refl _ w).alloc (Nat.le_refl _) (.cells #[.int .i64 2, .string ⟨nm.toArray⟩, .int .i64 op, .int .i64 ver, .int .i64 slot, .string ⟨fl.toArray⟩, .bool on, .string ⟨f.toArray⟩, .bool no, .slice A n c] 57))
  have ht := fun wx => rtext_any ⟨nm.toArray⟩ ⟨fl.toArray⟩ op ver slot on wx (by rw [show atOf ⟨nm.toArray⟩ op ver slot ⟨fl.toArray⟩ on = ⟨nm, op, ver, slot, fl, on⟩ from by simp [atOf]]; exact hk)
  rw [show atOf ⟨nm.toArray⟩ op ver slot ⟨fl.toArray⟩ on = ⟨nm, op, ver, slot, fl, on⟩ from by simp [atOf]] at ht
  unfold atv at ht
  have HC : Hid (rtx (.mk 2 ⟨nm, op, ver, slot, fl, on⟩ f no ks) = 33 :: textOf ⟨nm, op, ver, slot, fl, on⟩) := Lib.hid (by simp [rtx])
  have hlen := textOf_len (atOk hk)
  generalize rtx _ = R at HC ⊢
  generalize textOf _ = t at HC ht hlen
  have Ht := Lib.hid ht
  have a1 := fun wx => rsadd [33] t (by simp; omega) wx
  clear ht h hk
  go_enter Tryz.func57, Tryz.ntmps57
  go_wp2_with (first | (go_at_call 93; refine (Ht.out _).mono ?_; rintro e w1 ⟨rfl, hb1⟩; refine Hid.out ?_))
  refine Lib.hid ?_
  have HB1 := Lib.hid (HB.out.trans (hb1.mono HB.out.size)); clear hb1
  go_wp2
  go_ret
  exact ⟨ret_str HC.out.symm, HB1.out⟩
set_option maxRecDepth 100000 in
set_option maxHeartbeats 1600000 in
theorem rntext_kids3 (a : At) (f : Qm.W) (no : Bool) (ks : List Nd) (S : Nat → Prop) (A : Option Addr) (n c : Nat) (w : World) (ih : RTexts ks) (hnc : n ≤ c) (hc : c ≤ maxLen) (hK : RKids w S A n ks) (hS : ∀ k, S k → k < w.heap.size) (h : ckNd (.mk 3 a f no ks) = 0) (hn : (Nd.mk 3 a f no ks).nodes ≤ 20) :
    Calls Tryz.prog 57 #[.agg (ndRow 3 a f no A n c).toArray] w fun e w' => e = .returned (.string ⟨(rtx (.mk 3 a f no ks)).toArray⟩) ∧ Below w.heap.size w w' := by
  obtain ⟨hks, hnm, -, -⟩ := ckNd_kids h (by decide) (by decide)
  have Hhl := Lib.hid (rhead_len (k := 3) (f := f) (no := no) hnm)
  have HC : Hid (rtx (.mk 3 a f no ks) = rhead 3 f no ++ (rtxL ks ++ [32, 41])) := Lib.hid (by simp [rtx])
  have Hhd : Hid (rhead 3 f no = [40]) := Lib.hid (by simp [rhead])
  skip
  generalize rhead _ _ _ = hd at HC Hhl Hhd
  generalize rtx _ = R at HC ⊢
  have Hks := Lib.hid hks; have HI := Lib.hid ih; have HS := Lib.hid hS; have HK := Lib.hid hK
  have Hnd : Hid (nodesL ks ≤ 20) := Lib.hid (by simp only [Nd.nodes] at hn; omega)
  have HB := Lib.hid ((Below.refl _ w).alloc (Nat.le_refl _) (.cells #[.int .i64 3, .string ⟨a.nm.toArray⟩, .int .i64 a.op, .int .i64 a.ver, .int .i64 a.slot, .string ⟨a.fl.toArray⟩, .bool a.on, .string ⟨f.toArray⟩, .bool no, .slice A n c] 57))
  unfold maxLen at hc
  unfold ndRow
  clear hks hnm ih hS hK h hn
  go_enter Tryz.func57, Tryz.ntmps57
  go_wp2
  go_loopg [3, 33] n (fun g sv iv wr => ∃ (j : Nat), Hid (j + g = n) ∧ iv = .int .i64 j ∧ sv = .string ⟨(hd ++ rtxL (ks.take j)).toArray⟩ ∧ Below w.heap.size w wr)
  case atStart => exact ⟨0, Lib.hid (Nat.zero_add _), rfl, by rw [Hhd.out]; first | rfl | simp [rtxL], HB.out⟩
  case round =>
    obtain ⟨j, Hj, rfl, rfl, hb⟩ := hrel
    have HBr := Lib.hid hb; clear hb
    have hcl : Hid ((hd ++ rtxL (ks.take j)).length ≤ 3000) := Lib.hid (by have := rtxL_take_len Hks.out j; have := Hhl.out; have := Hnd.out; simp only [List.length_append]; omega)
    by_cases hj : j < n
    · obtain ⟨b, o, x, y, rfl, hb, hy, hxy, hcell⟩ := (HK.out.under HBr.out HS.out).at_ hj
      have hmem := List.mem_of_getElem? hy
      have Htk : Hid ((hd ++ rtxL (ks.take j)) ++ (32 :: rtx y) = hd ++ rtxL (ks.take (j + 1))) := Lib.hid (by rw [rtxL_take hy]; simp)
      have hyl := rtx_len y (Hks.out y hmem)
      have hyn := nodes_kid hmem
      have hy20 : y.nodes ≤ 20 := by have := Hnd.out; omega
      have hck := Hks.out y hmem
      obtain ⟨yk, ya, yf, yn, yks⟩ := y
      obtain ⟨A', n', c', rfl, -⟩ := hxy.open_
      have g0 := hcell 0 (by omega); have g1 := hcell 1 (by omega); have g2 := hcell 2 (by omega); have g3 := hcell 3 (by omega); have g4 := hcell 4 (by omega)
      have g5 := hcell 5 (by omega); have g6 := hcell 6 (by omega); have g7 := hcell 7 (by omega); have g8 := hcell 8 (by omega); have g9 := hcell 9 (by omega)
      clear hcell
      unfold ndRow at g0 g1 g2 g3 g4 g5 g6 g7 g8 g9
      simp only [List.getElem?_cons_zero, List.getElem?_cons_succ, Nat.add_zero] at g0 g1 g2 g3 g4 g5 g6 g7 g8 g9
      clear hy
      have hxy2 := (hxy.under (Below.refl _ wr |>.alloc (Nat.le_refl _) (.cells #[.int .i64 yk, .string ⟨ya.nm.toArray⟩, .int .i64 ya.op, .int .i64 ya.ver, .int .i64 ya.slot, .string ⟨ya.fl.toArray⟩, .bool ya.on, .string ⟨yf.toArray⟩, .bool yn, .slice A' n' c'] 57)) fun q hq => Nat.lt_of_lt_of_le (HS.out q hq) HBr.out.size)
      clear hxy
      have hcall := HI.out _ hmem S _ _ hxy2 (fun q hq => by have := HS.out q hq; have := HBr.out.size; simp; omega) hck hy20
      unfold ndRow at hcall
      generalize rtx (.mk yk ya yf yn yks) = t at hcall Htk hyl
      generalize hd ++ rtxL (ks.take j) = cur at Htk hcl
      have HBn := Lib.hid (HBr.out.alloc HBr.out.size (.cells #[.int .i64 yk, .string ⟨ya.nm.toArray⟩, .int .i64 ya.op, .int .i64 ya.ver, .int .i64 ya.slot, .string ⟨ya.fl.toArray⟩, .bool ya.on, .string ⟨yf.toArray⟩, .bool yn, .slice A' n' c'] 57))
      have hcu := hcl.out
      have a1 : ∀ wx : World, (Op.stringOp .add ⟨#[32]⟩ ⟨t.toArray⟩).run Tryz.prog wx = .ok (.string ⟨(32 :: t).toArray⟩) wx := fun wx => rsadd [32] t (by simp; omega) wx
      have a2 := fun wx => rsadd cur (32 :: t) (by simp; omega) wx
      clear hxy2 hmem hck hcu hyl hyn hy20
      have Hcall := Lib.hid hcall; clear hcall
      go_wp2_with (first | (go_at_call 57; refine Hcall.out.mono ?_; rintro e w' ⟨rfl, hb'⟩; refine Hid.out ?_))
      refine Lib.hid ?_
      have HB' := Lib.hid (HBn.out.trans (hb'.mono HBn.out.size)); clear hb'
      go_wp2
      go_roundg (gk - 1)
      case measure => have := Hj.out; omega
      case rel => exact ⟨j + 1, Lib.hid (by have := Hj.out; omega), by go_num, by rw [← Htk.out], HB'.out⟩
    · have e : ks.take j = ks := List.take_of_length_le (by have := HK.out.len; omega)
      rw [e] at hcl ⊢
      have HC2 : Hid ((hd ++ rtxL ks) ++ [32, 41] = R) := Lib.hid (by rw [HC.out]; simp)
      generalize hd ++ rtxL ks = cur at HC2 hcl ⊢
      have hcu := hcl.out
      have a1 := fun wx => rsadd cur [32, 41] (by simp; omega) wx
      clear e hcu
      go_wp2
      go_ret
      exact ⟨ret_str HC2.out, HBr.out⟩
set_option maxRecDepth 100000 in
set_option maxHeartbeats 1600000 in
theorem rntext_kids4 (a : At) (f : Qm.W) (no : Bool) (ks : List Nd) (S : Nat → Prop) (A : Option Addr) (n c : Nat) (w : World) (ih : RTexts ks) (hnc : n ≤ c) (hc : c ≤ maxLen) (hK : RKids w S A n ks) (hS : ∀ k, S k → k < w.heap.size) (h : ckNd (.mk 4 a f no ks) = 0) (hn : (Nd.mk 4 a f no ks).nodes ≤ 20) :
    Calls Tryz.prog 57 #[.agg (ndRow 4 a f no A n c).toArray] w fun e w' => e = .returned (.string ⟨(rtx (.mk 4 a f no ks)).toArray⟩) ∧ Below w.heap.size w w' := by
  obtain ⟨hks, hnm, -, -⟩ := ckNd_kids h (by decide) (by decide)
  have Hhl := Lib.hid (rhead_len (k := 4) (f := f) (no := no) hnm)
  have HC : Hid (rtx (.mk 4 a f no ks) = rhead 4 f no ++ (rtxL ks ++ [32, 41])) := Lib.hid (by simp [rtx])
  have Hhd : Hid (rhead 4 f no = [124, 124, 32, 40]) := Lib.hid (by simp [rhead])
  skip
  generalize rhead _ _ _ = hd at HC Hhl Hhd
  generalize rtx _ = R at HC ⊢
  have Hks := Lib.hid hks; have HI := Lib.hid ih; have HS := Lib.hid hS; have HK := Lib.hid hK
  have Hnd : Hid (nodesL ks ≤ 20) := Lib.hid (by simp only [Nd.nodes] at hn; omega)
  have HB := Lib.hid ((Below.refl _ w).alloc (Nat.le_refl _) (.cells #[.int .i64 4, .string ⟨a.nm.toArray⟩, .int .i64 a.op, .int .i64 a.ver, .int .i64 a.slot, .string ⟨a.fl.toArray⟩, .bool a.on, .string ⟨f.toArray⟩, .bool no, .slice A n c] 57))
  unfold maxLen at hc
  unfold ndRow
  clear hks hnm ih hS hK h hn
  go_enter Tryz.func57, Tryz.ntmps57
  go_wp2
  go_loopg [3, 33] n (fun g sv iv wr => ∃ (j : Nat), Hid (j + g = n) ∧ iv = .int .i64 j ∧ sv = .string ⟨(hd ++ rtxL (ks.take j)).toArray⟩ ∧ Below w.heap.size w wr)
  case atStart => exact ⟨0, Lib.hid (Nat.zero_add _), rfl, by rw [Hhd.out]; first | rfl | simp [rtxL], HB.out⟩
  case round =>
    obtain ⟨j, Hj, rfl, rfl, hb⟩ := hrel
    have HBr := Lib.hid hb; clear hb
    have hcl : Hid ((hd ++ rtxL (ks.take j)).length ≤ 3000) := Lib.hid (by have := rtxL_take_len Hks.out j; have := Hhl.out; have := Hnd.out; simp only [List.length_append]; omega)
    by_cases hj : j < n
    · obtain ⟨b, o, x, y, rfl, hb, hy, hxy, hcell⟩ := (HK.out.under HBr.out HS.out).at_ hj
      have hmem := List.mem_of_getElem? hy
      have Htk : Hid ((hd ++ rtxL (ks.take j)) ++ (32 :: rtx y) = hd ++ rtxL (ks.take (j + 1))) := Lib.hid (by rw [rtxL_take hy]; simp)
      have hyl := rtx_len y (Hks.out y hmem)
      have hyn := nodes_kid hmem
      have hy20 : y.nodes ≤ 20 := by have := Hnd.out; omega
      have hck := Hks.out y hmem
      obtain ⟨yk, ya, yf, yn, yks⟩ := y
      obtain ⟨A', n', c', rfl, -⟩ := hxy.open_
      have g0 := hcell 0 (by omega); have g1 := hcell 1 (by omega); have g2 := hcell 2 (by omega); have g3 := hcell 3 (by omega); have g4 := hcell 4 (by omega)
      have g5 := hcell 5 (by omega); have g6 := hcell 6 (by omega); have g7 := hcell 7 (by omega); have g8 := hcell 8 (by omega); have g9 := hcell 9 (by omega)
      clear hcell
      unfold ndRow at g0 g1 g2 g3 g4 g5 g6 g7 g8 g9
      simp only [List.getElem?_cons_zero, List.getElem?_cons_succ, Nat.add_zero] at g0 g1 g2 g3 g4 g5 g6 g7 g8 g9
      clear hy
      have hxy2 := (hxy.under (Below.refl _ wr |>.alloc (Nat.le_refl _) (.cells #[.int .i64 yk, .string ⟨ya.nm.toArray⟩, .int .i64 ya.op, .int .i64 ya.ver, .int .i64 ya.slot, .string ⟨ya.fl.toArray⟩, .bool ya.on, .string ⟨yf.toArray⟩, .bool yn, .slice A' n' c'] 57)) fun q hq => Nat.lt_of_lt_of_le (HS.out q hq) HBr.out.size)
      clear hxy
      have hcall := HI.out _ hmem S _ _ hxy2 (fun q hq => by have := HS.out q hq; have := HBr.out.size; simp; omega) hck hy20
      unfold ndRow at hcall
      generalize rtx (.mk yk ya yf yn yks) = t at hcall Htk hyl
      generalize hd ++ rtxL (ks.take j) = cur at Htk hcl
      have HBn := Lib.hid (HBr.out.alloc HBr.out.size (.cells #[.int .i64 yk, .string ⟨ya.nm.toArray⟩, .int .i64 ya.op, .int .i64 ya.ver, .int .i64 ya.slot, .string ⟨ya.fl.toArray⟩, .bool ya.on, .string ⟨yf.toArray⟩, .bool yn, .slice A' n' c'] 57))
      have hcu := hcl.out
      have a1 : ∀ wx : World, (Op.stringOp .add ⟨#[32]⟩ ⟨t.toArray⟩).run Tryz.prog wx = .ok (.string ⟨(32 :: t).toArray⟩) wx := fun wx => rsadd [32] t (by simp; omega) wx
      have a2 := fun wx => rsadd cur (32 :: t) (by simp; omega) wx
      clear hxy2 hmem hck hcu hyl hyn hy20
      have Hcall := Lib.hid hcall; clear hcall
      go_wp2_with (first | (go_at_call 57; refine Hcall.out.mono ?_; rintro e w' ⟨rfl, hb'⟩; refine Hid.out ?_))
      refine Lib.hid ?_
      have HB' := Lib.hid (HBn.out.trans (hb'.mono HBn.out.size)); clear hb'
      go_wp2
      go_roundg (gk - 1)
      case measure => have := Hj.out; omega
      case rel => exact ⟨j + 1, Lib.hid (by have := Hj.out; omega), by go_num, by rw [← Htk.out], HB'.out⟩
    · have e : ks.take j = ks := List.take_of_length_le (by have := HK.out.len; omega)
      rw [e] at hcl ⊢
      have HC2 : Hid ((hd ++ rtxL ks) ++ [32, 41] = R) := Lib.hid (by rw [HC.out]; simp)
      generalize hd ++ rtxL ks = cur at HC2 hcl ⊢
      have hcu := hcl.out
      have a1 := fun wx => rsadd cur [32, 41] (by simp; omega) wx
      clear e hcu
      go_wp2
      go_ret
      exact ⟨ret_str HC2.out, HBr.out⟩
set_option maxRecDepth 100000 in
set_option maxHeartbeats 1600000 in
theorem rntext_kids5f (a : At) (f : Qm.W) (ks : List Nd) (S : Nat → Prop) (A : Option Addr) (n c : Nat) (w : World) (ih : RTexts ks) (hnc : n ≤ c) (hc : c ≤ maxLen) (hK : RKids w S A n ks) (hS : ∀ k, S k → k < w.heap.size) (h : ckNd (.mk 5 a f false ks) = 0) (hn : (Nd.mk 5 a f false ks).nodes ≤ 20) :
    Calls Tryz.prog 57 #[.agg (ndRow 5 a f false A n c).toArray] w fun e w' => e = .returned (.string ⟨(rtx (.mk 5 a f false ks)).toArray⟩) ∧ Below w.heap.size w w' := by
  obtain ⟨hks, hnm, -, -⟩ := ckNd_kids h (by decide) (by decide)
  have Hhl := Lib.hid (rhead_len (k := 5) (f := f) (no := false) hnm)
  have HC : Hid (rtx (.mk 5 a f false ks) = rhead 5 f false ++ (rtxL ks ++ [32, 41])) := Lib.hid (by simp [rtx])
  have Hhd : Hid (rhead 5 f false = f ++ [63, 32, 40]) := Lib.hid (by simp [rhead])
  have hfl := (isName_len (hnm rfl)).2; have b1 := fun wx => rsadd f [63, 32, 40] (by simp; omega) wx; have b2 : ∀ wx : World, (Op.stringOp .add ⟨#[33]⟩ ⟨(f ++ [63, 32, 40]).toArray⟩).run Tryz.prog wx = .ok (.string ⟨(33 :: (f ++ [63, 32, 40])).toArray⟩) wx := fun wx => rsadd [33] (f ++ [63, 32, 40]) (by simp; omega) wx
  generalize rhead _ _ _ = hd at HC Hhl Hhd
  generalize rtx _ = R at HC ⊢
  have Hks := Lib.hid hks; have HI := Lib.hid ih; have HS := Lib.hid hS; have HK := Lib.hid hK
  have Hnd : Hid (nodesL ks ≤ 20) := Lib.hid (by simp only [Nd.nodes] at hn; omega)
  have HB := Lib.hid ((Below.refl _ w).alloc (Nat.le_refl _) (.cells #[.int .i64 5, .string ⟨a.nm.toArray⟩, .int .i64 a.op, .int .i64 a.ver, .int .i64 a.slot, .string ⟨a.fl.toArray⟩, .bool a.on, .string ⟨f.toArray⟩, .bool false, .slice A n c] 57))
  unfold maxLen at hc
  unfold ndRow
  clear hks hnm ih hS hK h hn
  go_enter Tryz.func57, Tryz.ntmps57
  go_wp2
  go_loopg [3, 33] n (fun g sv iv wr => ∃ (j : Nat), Hid (j + g = n) ∧ iv = .int .i64 j ∧ sv = .string ⟨(hd ++ rtxL (ks.take j)).toArray⟩ ∧ Below w.heap.size w wr)
  case atStart => exact ⟨0, Lib.hid (Nat.zero_add _), rfl, by rw [Hhd.out]; first | rfl | simp [rtxL], HB.out⟩
  case round =>
    obtain ⟨j, Hj, rfl, rfl, hb⟩ := hrel
    have HBr := Lib.hid hb; clear hb
    have hcl : Hid ((hd ++ rtxL (ks.take j)).length ≤ 3000) := Lib.hid (by have := rtxL_take_len Hks.out j; have := Hhl.out; have := Hnd.out; simp only [List.length_append]; omega)
    by_cases hj : j < n
    · obtain ⟨b, o, x, y, rfl, hb, hy, hxy, hcell⟩ := (HK.out.under HBr.out HS.out).at_ hj
      have hmem := List.mem_of_getElem? hy
      have Htk : Hid ((hd ++ rtxL (ks.take j)) ++ (32 :: rtx y) = hd ++ rtxL (ks.take (j + 1))) := Lib.hid (by rw [rtxL_take hy]; simp)
      have hyl := rtx_len y (Hks.out y hmem)
      have hyn := nodes_kid hmem
      have hy20 : y.nodes ≤ 20 := by have := Hnd.out; omega
      have hck := Hks.out y hmem
      obtain ⟨yk, ya, yf, yn, yks⟩ := y
      obtain ⟨A', n', c', rfl, -⟩ := hxy.open_
      have g0 := hcell 0 (by omega); have g1 := hcell 1 (by omega); have g2 := hcell 2 (by omega); have g3 := hcell 3 (by omega); have g4 := hcell 4 (by omega)
      have g5 := hcell 5 (by omega); have g6 := hcell 6 (by omega); have g7 := hcell 7 (by omega); have g8 := hcell 8 (by omega); have g9 := hcell 9 (by omega)
      clear hcell
      unfold ndRow at g0 g1 g2 g3 g4 g5 g6 g7 g8 g9
      simp only [List.getElem?_cons_zero, List.getElem?_cons_succ, Nat.add_zero] at g0 g1 g2 g3 g4 g5 g6 g7 g8 g9
      clear hy
      have hxy2 := (hxy.under (Below.refl _ wr |>.alloc (Nat.le_refl _) (.cells #[.int .i64 yk, .string ⟨ya.nm.toArray⟩, .int .i64 ya.op, .int .i64 ya.ver, .int .i64 ya.slot, .string ⟨ya.fl.toArray⟩, .bool ya.on, .string ⟨yf.toArray⟩, .bool yn, .slice A' n' c'] 57)) fun q hq => Nat.lt_of_lt_of_le (HS.out q hq) HBr.out.size)
      clear hxy
      have hcall := HI.out _ hmem S _ _ hxy2 (fun q hq => by have := HS.out q hq; have := HBr.out.size; simp; omega) hck hy20
      unfold ndRow at hcall
      generalize rtx (.mk yk ya yf yn yks) = t at hcall Htk hyl
      generalize hd ++ rtxL (ks.take j) = cur at Htk hcl
      have HBn := Lib.hid (HBr.out.alloc HBr.out.size (.cells #[.int .i64 yk, .string ⟨ya.nm.toArray⟩, .int .i64 ya.op, .int .i64 ya.ver, .int .i64 ya.slot, .string ⟨ya.fl.toArray⟩, .bool ya.on, .string ⟨yf.toArray⟩, .bool yn, .slice A' n' c'] 57))
      have hcu := hcl.out
      have a1 : ∀ wx : World, (Op.stringOp .add ⟨#[32]⟩ ⟨t.toArray⟩).run Tryz.prog wx = .ok (.string ⟨(32 :: t).toArray⟩) wx := fun wx => rsadd [32] t (by simp; omega) wx
      have a2 := fun wx => rsadd cur (32 :: t) (by simp; omega) wx
      clear hxy2 hmem hck hcu hyl hyn hy20
      have Hcall := Lib.hid hcall; clear hcall
      go_wp2_with (first | (go_at_call 57; refine Hcall.out.mono ?_; rintro e w' ⟨rfl, hb'⟩; refine Hid.out ?_))
      refine Lib.hid ?_
      have HB' := Lib.hid (HBn.out.trans (hb'.mono HBn.out.size)); clear hb'
      go_wp2
      go_roundg (gk - 1)
      case measure => have := Hj.out; omega
      case rel => exact ⟨j + 1, Lib.hid (by have := Hj.out; omega), by go_num, by rw [← Htk.out], HB'.out⟩
    · have e : ks.take j = ks := List.take_of_length_le (by have := HK.out.len; omega)
      rw [e] at hcl ⊢
      have HC2 : Hid ((hd ++ rtxL ks) ++ [32, 41] = R) := Lib.hid (by rw [HC.out]; simp)
      generalize hd ++ rtxL ks = cur at HC2 hcl ⊢
      have hcu := hcl.out
      have a1 := fun wx => rsadd cur [32, 41] (by simp; omega) wx
      clear e hcu
      go_wp2
      go_ret
      exact ⟨ret_str HC2.out, HBr.out⟩
set_option maxRecDepth 100000 in
set_option maxHeartbeats 1600000 in
theorem rntext_kids5t (a : At) (f : Qm.W) (ks : List Nd) (S : Nat → Prop) (A : Option Addr) (n c : Nat) (w : World) (ih : RTexts ks) (hnc : n ≤ c) (hc : c ≤ maxLen) (hK : RKids w S A n ks) (hS : ∀ k, S k → k < w.heap.size) (h : ckNd (.mk 5 a f true ks) = 0) (hn : (Nd.mk 5 a f true ks).nodes ≤ 20) :
    Calls Tryz.prog 57 #[.agg (ndRow 5 a f true A n c).toArray] w fun e w' => e = .returned (.string ⟨(rtx (.mk 5 a f true ks)).toArray⟩) ∧ Below w.heap.size w w' := by
  obtain ⟨hks, hnm, -, -⟩ := ckNd_kids h (by decide) (by decide)
  have Hhl := Lib.hid (rhead_len (k := 5) (f := f) (no := true) hnm)
  have HC : Hid (rtx (.mk 5 a f true ks) = rhead 5 f true ++ (rtxL ks ++ [32, 41])) := Lib.hid (by simp [rtx])
  have Hhd : Hid (rhead 5 f true = 33 :: (f ++ [63, 32, 40])) := Lib.hid (by simp [rhead])
  have hfl := (isName_len (hnm rfl)).2; have b1 := fun wx => rsadd f [63, 32, 40] (by simp; omega) wx; have b2 : ∀ wx : World, (Op.stringOp .add ⟨#[33]⟩ ⟨(f ++ [63, 32, 40]).toArray⟩).run Tryz.prog wx = .ok (.string ⟨(33 :: (f ++ [63, 32, 40])).toArray⟩) wx := fun wx => rsadd [33] (f ++ [63, 32, 40]) (by simp; omega) wx
  generalize rhead _ _ _ = hd at HC Hhl Hhd
  generalize rtx _ = R at HC ⊢
  have Hks := Lib.hid hks; have HI := Lib.hid ih; have HS := Lib.hid hS; have HK := Lib.hid hK
  have Hnd : Hid (nodesL ks ≤ 20) := Lib.hid (by simp only [Nd.nodes] at hn; omega)
  have HB := Lib.hid ((Below.refl _ w).alloc (Nat.le_refl _) (.cells #[.int .i64 5, .string ⟨a.nm.toArray⟩, .int .i64 a.op, .int .i64 a.ver, .int .i64 a.slot, .string ⟨a.fl.toArray⟩, .bool a.on, .string ⟨f.toArray⟩, .bool true, .slice A n c] 57))
  unfold maxLen at hc
  unfold ndRow
  clear hks hnm ih hS hK h hn
  go_enter Tryz.func57, Tryz.ntmps57
  go_wp2
  go_loopg [3, 33] n (fun g sv iv wr => ∃ (j : Nat), Hid (j + g = n) ∧ iv = .int .i64 j ∧ sv = .string ⟨(hd ++ rtxL (ks.take j)).toArray⟩ ∧ Below w.heap.size w wr)
  case atStart => exact ⟨0, Lib.hid (Nat.zero_add _), rfl, by rw [Hhd.out]; first | rfl | simp [rtxL], HB.out⟩
  case round =>
    obtain ⟨j, Hj, rfl, rfl, hb⟩ := hrel
    have HBr := Lib.hid hb; clear hb
    have hcl : Hid ((hd ++ rtxL (ks.take j)).length ≤ 3000) := Lib.hid (by have := rtxL_take_len Hks.out j; have := Hhl.out; have := Hnd.out; simp only [List.length_append]; omega)
    by_cases hj : j < n
    · obtain ⟨b, o, x, y, rfl, hb, hy, hxy, hcell⟩ := (HK.out.under HBr.out HS.out).at_ hj
      have hmem := List.mem_of_getElem? hy
      have Htk : Hid ((hd ++ rtxL (ks.take j)) ++ (32 :: rtx y) = hd ++ rtxL (ks.take (j + 1))) := Lib.hid (by rw [rtxL_take hy]; simp)
      have hyl := rtx_len y (Hks.out y hmem)
      have hyn := nodes_kid hmem
      have hy20 : y.nodes ≤ 20 := by have := Hnd.out; omega
      have hck := Hks.out y hmem
      obtain ⟨yk, ya, yf, yn, yks⟩ := y
      obtain ⟨A', n', c', rfl, -⟩ := hxy.open_
      have g0 := hcell 0 (by omega); have g1 := hcell 1 (by omega); have g2 := hcell 2 (by omega); have g3 := hcell 3 (by omega); have g4 := hcell 4 (by omega)
      have g5 := hcell 5 (by omega); have g6 := hcell 6 (by omega); have g7 := hcell 7 (by omega); have g8 := hcell 8 (by omega); have g9 := hcell 9 (by omega)
      clear hcell
      unfold ndRow at g0 g1 g2 g3 g4 g5 g6 g7 g8 g9
      simp only [List.getElem?_cons_zero, List.getElem?_cons_succ, Nat.add_zero] at g0 g1 g2 g3 g4 g5 g6 g7 g8 g9
      clear hy
      have hxy2 := (hxy.under (Below.refl _ wr |>.alloc (Nat.le_refl _) (.cells #[.int .i64 yk, .string ⟨ya.nm.toArray⟩, .int .i64 ya.op, .int .i64 ya.ver, .int .i64 ya.slot, .string ⟨ya.fl.toArray⟩, .bool ya.on, .string ⟨yf.toArray⟩, .bool yn, .slice A' n' c'] 57)) fun q hq => Nat.lt_of_lt_of_le (HS.out q hq) HBr.out.size)
      clear hxy
      have hcall := HI.out _ hmem S _ _ hxy2 (fun q hq => by have := HS.out q hq; have := HBr.out.size; simp; omega) hck hy20
      unfold ndRow at hcall
      generalize rtx (.mk yk ya yf yn yks) = t at hcall Htk hyl
      generalize hd ++ rtxL (ks.take j) = cur at Htk hcl
      have HBn := Lib.hid (HBr.out.alloc HBr.out.size (.cells #[.int .i64 yk, .string ⟨ya.nm.toArray⟩, .int .i64 ya.op, .int .i64 ya.ver, .int .i64 ya.slot, .string ⟨ya.fl.toArray⟩, .bool ya.on, .string ⟨yf.toArray⟩, .bool yn, .slice A' n' c'] 57))
      have hcu := hcl.out
      have a1 : ∀ wx : World, (Op.stringOp .add ⟨#[32]⟩ ⟨t.toArray⟩).run Tryz.prog wx = .ok (.string ⟨(32 :: t).toArray⟩) wx := fun wx => rsadd [32] t (by simp; omega) wx
      have a2 := fun wx => rsadd cur (32 :: t) (by simp; omega) wx
      clear hxy2 hmem hck hcu hyl hyn hy20
      have Hcall := Lib.hid hcall; clear hcall
      go_wp2_with (first | (go_at_call 57; refine Hcall.out.mono ?_; rintro e w' ⟨rfl, hb'⟩; refine Hid.out ?_))
      refine Lib.hid ?_
      have HB' := Lib.hid (HBn.out.trans (hb'.mono HBn.out.size)); clear hb'
      go_wp2
      go_roundg (gk - 1)
      case measure => have := Hj.out; omega
      case rel => exact ⟨j + 1, Lib.hid (by have := Hj.out; omega), by go_num, by rw [← Htk.out], HB'.out⟩
    · have e : ks.take j = ks := List.take_of_length_le (by have := HK.out.len; omega)
      rw [e] at hcl ⊢
      have HC2 : Hid ((hd ++ rtxL ks) ++ [32, 41] = R) := Lib.hid (by rw [HC.out]; simp)
      generalize hd ++ rtxL ks = cur at HC2 hcl ⊢
      have hcu := hcl.out
      have a1 := fun wx => rsadd cur [32, 41] (by simp; omega) wx
      clear e hcu
      go_wp2
      go_ret
      exact ⟨ret_str HC2.out, HBr.out⟩
theorem rntext_any : ∀ (y : Nd) (S : Nat → Prop) (x : List Value) (w : World), RNd w S x y → (∀ k, S k → k < w.heap.size) → ckNd y = 0 → y.nodes ≤ 20 →
    Calls Tryz.prog 57 #[.agg x.toArray] w fun e w' => e = .returned (.string ⟨(rtx y).toArray⟩) ∧ Below w.heap.size w w' := by
  refine Nd.ind fun k a f no ks ih => ?_
  intro S x w hR hS h hn
  obtain ⟨A, n, c, rfl, hnc, hc, _, _, _, hK⟩ := hR.open_
  by_cases h1 : k = 1
  · subst h1; obtain ⟨nm, op, ver, slot, fl, on⟩ := a; exact rntext_leaf1 nm fl f op ver slot on no A n c ks w h
  by_cases h2 : k = 2
  · subst h2; obtain ⟨nm, op, ver, slot, fl, on⟩ := a; exact rntext_leaf2 nm fl f op ver slot on no A n c ks w h
  obtain ⟨_, _, k3, k5⟩ := ckNd_kids h h1 h2
  rcases (show k = 3 ∨ k = 4 ∨ k = 5 by omega) with rfl | rfl | rfl
  · exact rntext_kids3 a f no ks S A n c w ih hnc hc hK hS h hn
  · exact rntext_kids4 a f no ks S A n c w ih hnc hc hK hS h hn
  · cases no
    · exact rntext_kids5f a f ks S A n c w ih hnc hc hK hS h hn
    · exact rntext_kids5t a f ks S A n c w ih hnc hc hK hS h hn
end Go.Proofs.YthpkffeiehnamaaGreatDoor
