/- Parts of the proof: walks and plain laws, side by side. -/
import Derived.Test.YtokibfankmjphaaGreatDoorM22
import Derived.Laws.EntriesVeiled
import Derived.Test.YtokibfankmjphaaGreatDoorM4
import Derived.Test.YtokibfankmjphaaGreatDoorM10
import Derived.Test.YtokibfankmjphaaGreatDoorM21
import Derived.Test.YtokibfankmjphaaGreatDoorM3
import Derived.Test.YtokibfankmjphaaGreatDoorM1
set_option linter.unusedVariables false
set_option linter.unusedSimpArgs false
set_option linter.unusedSectionVars false
/- The loop of the closure of quartermasterref.CheckNeed, walked. -/
namespace Go.Proofs.YtokibfankmjphaaGreatDoor
open Go.RowKit Qm

/-- The walk of the kids, by what is known of them. -/
def RWalks (ks : List Nd) : Prop := ∀ x ∈ ks, ∀ (S : Nat → Prop) (cx : List Value) (bx : Nat) (w : World), RNd w S cx x → (∀ k, S k → k < w.heap.size) → w.cell? ⟨bx, 0, none⟩ = some (selfC bx) →
    Calls Tryz.prog 42 #[.agg cx.toArray, .pointer (some ⟨bx, 0, none⟩)] w fun e w' => e = .returned (.int .i64 (ckNd x)) ∧ Below w.heap.size w w'
set_option maxRecDepth 100000 in
set_option maxHeartbeats 3200000 in
theorem rwalk_kids3 (ks : List Nd) (S : Nat → Prop) (A : Option Addr) (n c bx : Nat) (w : World) (ih : RWalks ks) (hnc : n ≤ c) (hc : c ≤ maxLen) (hK : RKids w S A n ks) (hS : ∀ k, S k → k < w.heap.size) (hbx : w.cell? ⟨bx, 0, none⟩ = some (selfC bx)) :
    Calls Tryz.prog 42 #[.agg (ndRow 3 ⟨[], 0, 0, 0, [], false⟩ [] false A n c).toArray, .pointer (some ⟨bx, 0, none⟩)] w fun e w' => e = .returned (.int .i64 (ckNd (.mk 3 ⟨[], 0, 0, 0, [], false⟩ [] false ks))) ∧ Below w.heap.size w w' := by
  unfold ndRow
  have HI := Lib.hid ih; clear ih
  have HX0 := Lib.hid hbx
  have hbl : bx < w.heap.size := World.block_lt_of_cell? _ _ hbx
  have henter : ∀ (args : Array Value) (W : World), (callFunc 42 args).run Tryz.prog W = .ok (.enter 42 args) W := fun args W => by kernel_rfl
  clear hbx
  have HS := Lib.hid hS; clear hS
  have HK := Lib.hid hK; clear hK
  unfold maxLen at hc
  have HC : Hid (ckNd (.mk 3 ⟨[], 0, 0, 0, [], false⟩ [] false ks) = ckKids ks) := Lib.hid (by
    simp only [ckNd]; rw [if_neg (by omega), if_neg (by simp [leafK]), if_neg (by simp [At.zero]), if_neg (by simp), if_neg (by simp), if_neg (by simp [leafK])])
  have HB := Lib.hid ((Below.refl _ w).alloc (Nat.le_refl _) (.cells #[.int .i64 3, .string ⟨#[]⟩, .int .i64 0, .int .i64 0, .int .i64 0, .string ⟨#[]⟩, .bool false, .string ⟨#[]⟩, .bool false, .slice A n c] 46))
  go_enter Tryz.func42, Tryz.ntmps42
  go_wp2
  go_loopg [73] n (fun g iv wr => ∃ (j : Nat), Hid (j + g = n) ∧ iv = .int .i64 j ∧ Hid (ckKids ks = ckKids (ks.drop j)) ∧ Below w.heap.size w wr)
  case atStart => exact ⟨0, Lib.hid (Nat.zero_add _), rfl, Lib.hid rfl, HB.out⟩
  case round =>
    obtain ⟨j, Hj, rfl, Hcl, hb⟩ := hrel
    have HBr := Lib.hid hb; clear hb
    have hbx := (HBr.out.cell (p := ⟨bx, 0, none⟩) hbl).trans HX0.out
    unfold selfC at hbx
    have hbr : bx < wr.heap.size := Nat.lt_of_lt_of_le hbl HBr.out.size
    by_cases hj : j < n
    · obtain ⟨b, o, x, y, rfl, hb, hy, hxy, hcell⟩ := (HK.out.under HBr.out HS.out).at_ hj
      have Hdr := Lib.hid (drop_step hy)
      have hmem := List.mem_of_getElem? hy
      obtain ⟨yk, ya, yf, yn, yks⟩ := y
      obtain ⟨A', n', c', rfl, -⟩ := hxy.open_
      have g0 := hcell 0 (by omega); have g1 := hcell 1 (by omega); have g2 := hcell 2 (by omega); have g3 := hcell 3 (by omega); have g4 := hcell 4 (by omega)
      have g5 := hcell 5 (by omega); have g6 := hcell 6 (by omega); have g7 := hcell 7 (by omega); have g8 := hcell 8 (by omega); have g9 := hcell 9 (by omega)
      clear hcell
      unfold ndRow at g0 g1 g2 g3 g4 g5 g6 g7 g8 g9
      simp only [List.getElem?_cons_zero, List.getElem?_cons_succ, Nat.add_zero] at g0 g1 g2 g3 g4 g5 g6 g7 g8 g9
      clear hy
      have hxy2 := (hxy.under (Below.refl _ wr |>.alloc (Nat.le_refl _) (.cells #[.int .i64 yk, .string ⟨ya.nm.toArray⟩, .int .i64 ya.op, .int .i64 ya.ver, .int .i64 ya.slot, .string ⟨ya.fl.toArray⟩, .bool ya.on, .string ⟨yf.toArray⟩, .bool yn, .slice A' n' c'] 46)) fun q hq => Nat.lt_of_lt_of_le (HS.out q hq) HBr.out.size)
      clear hxy
      have hcall := HI.out _ hmem S _ bx _ hxy2 (fun q hq => by have := HS.out q hq; have := HBr.out.size; simp; omega) (((Below.refl _ wr |>.alloc (Nat.le_refl _) _).cell (p := ⟨bx, 0, none⟩) hbr).trans ((HBr.out.cell (p := ⟨bx, 0, none⟩) hbl).trans HX0.out))
      unfold ndRow at hcall
      have HX : Hid (ckKids (ks.drop j) = if ckNd (.mk yk ya yf yn yks) = 0 then ckKids (ks.drop (j + 1)) else ckNd (.mk yk ya yf yn yks)) := Lib.hid (by rw [Hdr.out]; simp only [ckKids])
      generalize hq : ckNd (.mk yk ya yf yn yks) = q at hcall HX
      have HBn := Lib.hid (HBr.out.alloc HBr.out.size (.cells #[.int .i64 yk, .string ⟨ya.nm.toArray⟩, .int .i64 ya.op, .int .i64 ya.ver, .int .i64 ya.slot, .string ⟨ya.fl.toArray⟩, .bool ya.on, .string ⟨yf.toArray⟩, .bool yn, .slice A' n' c'] 46))
      clear hq hxy2
      have Hcall := Lib.hid hcall; clear hcall
      by_cases h0 : q = 0
      · subst h0
        go_wp2_with (first | (go_at_call 42; refine Hcall.out.mono ?_; rintro e w' ⟨rfl, hb'⟩; refine Hid.out ?_))
        refine Lib.hid ?_
        have HB' := Lib.hid (HBn.out.trans (hb'.mono HBn.out.size)); clear hb'
        go_wp2_with fail
        go_roundg (gk - 1)
        case measure => have := Hj.out; omega
        case rel => exact ⟨j + 1, Lib.hid (by have := Hj.out; omega), by go_num, Lib.hid (by rw [Hcl.out, HX.out]; simp), HB'.out⟩
      · have h1 : (q != 0) = true := by simpa using h0
        have H0 := Lib.hid h0; clear h0
        go_wp2_with (first | (go_at_call 42; refine Hcall.out.mono ?_; rintro e w' ⟨rfl, hb'⟩; refine Hid.out ?_))
        refine Lib.hid ?_
        have HB' := Lib.hid (HBn.out.trans (hb'.mono HBn.out.size)); clear hb'
        go_wp2_with fail
        go_ret
        exact ⟨ret_int (by rw [HC.out, Hcl.out, HX.out, if_neg H0.out]), HB'.out⟩
    · go_wp2_with fail
      go_ret
      refine ⟨ret_int ?_, HBr.out⟩
      rw [HC.out, Hcl.out, List.drop_of_length_le (by have := HK.out.len; omega)]; rfl
set_option maxRecDepth 100000 in
set_option maxHeartbeats 3200000 in
theorem rwalk_kids4 (ks : List Nd) (S : Nat → Prop) (A : Option Addr) (n c bx : Nat) (w : World) (ih : RWalks ks) (hnc : n ≤ c) (hc : c ≤ maxLen) (hK : RKids w S A n ks) (hS : ∀ k, S k → k < w.heap.size) (hbx : w.cell? ⟨bx, 0, none⟩ = some (selfC bx)) :
    Calls Tryz.prog 42 #[.agg (ndRow 4 ⟨[], 0, 0, 0, [], false⟩ [] false A n c).toArray, .pointer (some ⟨bx, 0, none⟩)] w fun e w' => e = .returned (.int .i64 (ckNd (.mk 4 ⟨[], 0, 0, 0, [], false⟩ [] false ks))) ∧ Below w.heap.size w w' := by
  unfold ndRow
  have HI := Lib.hid ih; clear ih
  have HX0 := Lib.hid hbx
  have hbl : bx < w.heap.size := World.block_lt_of_cell? _ _ hbx
  have henter : ∀ (args : Array Value) (W : World), (callFunc 42 args).run Tryz.prog W = .ok (.enter 42 args) W := fun args W => by kernel_rfl
  clear hbx
  have HS := Lib.hid hS; clear hS
  have HK := Lib.hid hK; clear hK
  unfold maxLen at hc
  have HC : Hid (ckNd (.mk 4 ⟨[], 0, 0, 0, [], false⟩ [] false ks) = ckKids ks) := Lib.hid (by
    simp only [ckNd]; rw [if_neg (by omega), if_neg (by simp [leafK]), if_neg (by simp [At.zero]), if_neg (by simp), if_neg (by simp), if_neg (by simp [leafK])])
  have HB := Lib.hid ((Below.refl _ w).alloc (Nat.le_refl _) (.cells #[.int .i64 4, .string ⟨#[]⟩, .int .i64 0, .int .i64 0, .int .i64 0, .string ⟨#[]⟩, .bool false, .string ⟨#[]⟩, .bool false, .slice A n c] 46))
  go_enter Tryz.func42, Tryz.ntmps42
  go_wp2
  go_loopg [73] n (fun g iv wr => ∃ (j : Nat), Hid (j + g = n) ∧ iv = .int .i64 j ∧ Hid (ckKids ks = ckKids (ks.drop j)) ∧ Below w.heap.size w wr)
  case atStart => exact ⟨0, Lib.hid (Nat.zero_add _), rfl, Lib.hid rfl, HB.out⟩
  case round =>
    obtain ⟨j, Hj, rfl, Hcl, hb⟩ := hrel
    have HBr := Lib.hid hb; clear hb
    have hbx := (HBr.out.cell (p := ⟨bx, 0, none⟩) hbl).trans HX0.out
    unfold selfC at hbx
    have hbr : bx < wr.heap.size := Nat.lt_of_lt_of_le hbl HBr.out.size
    by_cases hj : j < n
    · obtain ⟨b, o, x, y, rfl, hb, hy, hxy, hcell⟩ := (HK.out.under HBr.out HS.out).at_ hj
      have Hdr := Lib.hid (drop_step hy)
      have hmem := List.mem_of_getElem? hy
      obtain ⟨yk, ya, yf, yn, yks⟩ := y
      obtain ⟨A', n', c', rfl, -⟩ := hxy.open_
      have g0 := hcell 0 (by omega); have g1 := hcell 1 (by omega); have g2 := hcell 2 (by omega); have g3 := hcell 3 (by omega); have g4 := hcell 4 (by omega)
      have g5 := hcell 5 (by omega); have g6 := hcell 6 (by omega); have g7 := hcell 7 (by omega); have g8 := hcell 8 (by omega); have g9 := hcell 9 (by omega)
      clear hcell
      unfold ndRow at g0 g1 g2 g3 g4 g5 g6 g7 g8 g9
      simp only [List.getElem?_cons_zero, List.getElem?_cons_succ, Nat.add_zero] at g0 g1 g2 g3 g4 g5 g6 g7 g8 g9
      clear hy
      have hxy2 := (hxy.under (Below.refl _ wr |>.alloc (Nat.le_refl _) (.cells #[.int .i64 yk, .string ⟨ya.nm.toArray⟩, .int .i64 ya.op, .int .i64 ya.ver, .int .i64 ya.slot, .string ⟨ya.fl.toArray⟩, .bool ya.on, .string ⟨yf.toArray⟩, .bool yn, .slice A' n' c'] 46)) fun q hq => Nat.lt_of_lt_of_le (HS.out q hq) HBr.out.size)
      clear hxy
      have hcall := HI.out _ hmem S _ bx _ hxy2 (fun q hq => by have := HS.out q hq; have := HBr.out.size; simp; omega) (((Below.refl _ wr |>.alloc (Nat.le_refl _) _).cell (p := ⟨bx, 0, none⟩) hbr).trans ((HBr.out.cell (p := ⟨bx, 0, none⟩) hbl).trans HX0.out))
      unfold ndRow at hcall
      have HX : Hid (ckKids (ks.drop j) = if ckNd (.mk yk ya yf yn yks) = 0 then ckKids (ks.drop (j + 1)) else ckNd (.mk yk ya yf yn yks)) := Lib.hid (by rw [Hdr.out]; simp only [ckKids])
      generalize hq : ckNd (.mk yk ya yf yn yks) = q at hcall HX
      have HBn := Lib.hid (HBr.out.alloc HBr.out.size (.cells #[.int .i64 yk, .string ⟨ya.nm.toArray⟩, .int .i64 ya.op, .int .i64 ya.ver, .int .i64 ya.slot, .string ⟨ya.fl.toArray⟩, .bool ya.on, .string ⟨yf.toArray⟩, .bool yn, .slice A' n' c'] 46))
      clear hq hxy2
      have Hcall := Lib.hid hcall; clear hcall
      by_cases h0 : q = 0
      · subst h0
        go_wp2_with (first | (go_at_call 42; refine Hcall.out.mono ?_; rintro e w' ⟨rfl, hb'⟩; refine Hid.out ?_))
        refine Lib.hid ?_
        have HB' := Lib.hid (HBn.out.trans (hb'.mono HBn.out.size)); clear hb'
        go_wp2_with fail
        go_roundg (gk - 1)
        case measure => have := Hj.out; omega
        case rel => exact ⟨j + 1, Lib.hid (by have := Hj.out; omega), by go_num, Lib.hid (by rw [Hcl.out, HX.out]; simp), HB'.out⟩
      · have h1 : (q != 0) = true := by simpa using h0
        have H0 := Lib.hid h0; clear h0
        go_wp2_with (first | (go_at_call 42; refine Hcall.out.mono ?_; rintro e w' ⟨rfl, hb'⟩; refine Hid.out ?_))
        refine Lib.hid ?_
        have HB' := Lib.hid (HBn.out.trans (hb'.mono HBn.out.size)); clear hb'
        go_wp2_with fail
        go_ret
        exact ⟨ret_int (by rw [HC.out, Hcl.out, HX.out, if_neg H0.out]), HB'.out⟩
    · go_wp2_with fail
      go_ret
      refine ⟨ret_int ?_, HBr.out⟩
      rw [HC.out, Hcl.out, List.drop_of_length_le (by have := HK.out.len; omega)]; rfl
set_option maxRecDepth 100000 in
set_option maxHeartbeats 3200000 in
theorem rwalk_kids5 (f : Qm.W) (no : Bool) (h3 : f.length ≤ maxLen) (hn : isName f = true) (ks : List Nd) (S : Nat → Prop) (A : Option Addr) (n c bx : Nat) (w : World) (ih : RWalks ks) (hnc : n ≤ c) (hc : c ≤ maxLen) (hK : RKids w S A n ks) (hS : ∀ k, S k → k < w.heap.size) (hbx : w.cell? ⟨bx, 0, none⟩ = some (selfC bx)) :
    Calls Tryz.prog 42 #[.agg (ndRow 5 ⟨[], 0, 0, 0, [], false⟩ f no A n c).toArray, .pointer (some ⟨bx, 0, none⟩)] w fun e w' => e = .returned (.int .i64 (ckNd (.mk 5 ⟨[], 0, 0, 0, [], false⟩ f no ks))) ∧ Below w.heap.size w w' := by
  unfold ndRow
  have HI := Lib.hid ih; clear ih
  have HX0 := Lib.hid hbx
  have hbl : bx < w.heap.size := World.block_lt_of_cell? _ _ hbx
  have henter : ∀ (args : Array Value) (W : World), (callFunc 42 args).run Tryz.prog W = .ok (.enter 42 args) W := fun args W => by kernel_rfl
  clear hbx
  have HS := Lib.hid hS; clear hS
  have HK := Lib.hid hK; clear hK
  unfold maxLen at hc
  have hnm := fun wx => rname_any ⟨f.toArray⟩ wx (by rw [bsz]; exact h3)
  rw [show (⟨f.toArray⟩ : ByteArray).data.toList = f from by simp, hn] at hnm
  have Hnm := Lib.hid hnm; clear hnm
  have HC : Hid (ckNd (.mk 5 ⟨[], 0, 0, 0, [], false⟩ f no ks) = ckKids ks) := Lib.hid (by
    simp only [ckNd]; rw [if_neg (by omega), if_neg (by simp [leafK]), if_neg (by simp [At.zero]), if_neg (by simp), if_neg (by simp [hn]), if_neg (by simp [leafK])])
  have HB := Lib.hid ((Below.refl _ w).alloc (Nat.le_refl _) (.cells #[.int .i64 5, .string ⟨#[]⟩, .int .i64 0, .int .i64 0, .int .i64 0, .string ⟨#[]⟩, .bool false, .string ⟨f.toArray⟩, .bool no, .slice A n c] 46))
  have HW := Lib.hid (Whole.new w _ 46 [.int .i64 5, .string ⟨#[]⟩, .int .i64 0, .int .i64 0, .int .i64 0, .string ⟨#[]⟩, .bool false, .string ⟨f.toArray⟩, .bool no, .slice A n c] rfl)
  clear h3 hn
  go_enter Tryz.func42, Tryz.ntmps42
  go_wp2_with (first | (go_at_call 18; refine (Hnm.out _).mono ?_; rintro e w1 ⟨rfl, hb1⟩; refine Hid.out ?_))
  refine Lib.hid ?_
  replace HB := Lib.hid (HB.out.trans (hb1.mono HB.out.size))
  have q9 := (HW.out.below hb1 HW.out.lt).cell 9
  simp only [List.getElem?_cons_zero, List.getElem?_cons_succ] at q9
  clear hb1 HW Hnm
  go_wp2
  go_loopg [73] n (fun g iv wr => ∃ (j : Nat), Hid (j + g = n) ∧ iv = .int .i64 j ∧ Hid (ckKids ks = ckKids (ks.drop j)) ∧ Below w.heap.size w wr)
  case atStart => exact ⟨0, Lib.hid (Nat.zero_add _), rfl, Lib.hid rfl, HB.out⟩
  case round =>
    obtain ⟨j, Hj, rfl, Hcl, hb⟩ := hrel
    have HBr := Lib.hid hb; clear hb
    have hbx := (HBr.out.cell (p := ⟨bx, 0, none⟩) hbl).trans HX0.out
    unfold selfC at hbx
    have hbr : bx < wr.heap.size := Nat.lt_of_lt_of_le hbl HBr.out.size
    by_cases hj : j < n
    · obtain ⟨b, o, x, y, rfl, hb, hy, hxy, hcell⟩ := (HK.out.under HBr.out HS.out).at_ hj
      have Hdr := Lib.hid (drop_step hy)
      have hmem := List.mem_of_getElem? hy
      obtain ⟨yk, ya, yf, yn, yks⟩ := y
      obtain ⟨A', n', c', rfl, -⟩ := hxy.open_
      have g0 := hcell 0 (by omega); have g1 := hcell 1 (by omega); have g2 := hcell 2 (by omega); have g3 := hcell 3 (by omega); have g4 := hcell 4 (by omega)
      have g5 := hcell 5 (by omega); have g6 := hcell 6 (by omega); have g7 := hcell 7 (by omega); have g8 := hcell 8 (by omega); have g9 := hcell 9 (by omega)
      clear hcell
      unfold ndRow at g0 g1 g2 g3 g4 g5 g6 g7 g8 g9
      simp only [List.getElem?_cons_zero, List.getElem?_cons_succ, Nat.add_zero] at g0 g1 g2 g3 g4 g5 g6 g7 g8 g9
      clear hy
      have hxy2 := (hxy.under (Below.refl _ wr |>.alloc (Nat.le_refl _) (.cells #[.int .i64 yk, .string ⟨ya.nm.toArray⟩, .int .i64 ya.op, .int .i64 ya.ver, .int .i64 ya.slot, .string ⟨ya.fl.toArray⟩, .bool ya.on, .string ⟨yf.toArray⟩, .bool yn, .slice A' n' c'] 46)) fun q hq => Nat.lt_of_lt_of_le (HS.out q hq) HBr.out.size)
      clear hxy
      have hcall := HI.out _ hmem S _ bx _ hxy2 (fun q hq => by have := HS.out q hq; have := HBr.out.size; simp; omega) (((Below.refl _ wr |>.alloc (Nat.le_refl _) _).cell (p := ⟨bx, 0, none⟩) hbr).trans ((HBr.out.cell (p := ⟨bx, 0, none⟩) hbl).trans HX0.out))
      unfold ndRow at hcall
      have HX : Hid (ckKids (ks.drop j) = if ckNd (.mk yk ya yf yn yks) = 0 then ckKids (ks.drop (j + 1)) else ckNd (.mk yk ya yf yn yks)) := Lib.hid (by rw [Hdr.out]; simp only [ckKids])
      generalize hq : ckNd (.mk yk ya yf yn yks) = q at hcall HX
      have HBn := Lib.hid (HBr.out.alloc HBr.out.size (.cells #[.int .i64 yk, .string ⟨ya.nm.toArray⟩, .int .i64 ya.op, .int .i64 ya.ver, .int .i64 ya.slot, .string ⟨ya.fl.toArray⟩, .bool ya.on, .string ⟨yf.toArray⟩, .bool yn, .slice A' n' c'] 46))
      clear hq hxy2
      have Hcall := Lib.hid hcall; clear hcall
      by_cases h0 : q = 0
      · subst h0
        go_wp2_with (first | (go_at_call 42; refine Hcall.out.mono ?_; rintro e w' ⟨rfl, hb'⟩; refine Hid.out ?_))
        refine Lib.hid ?_
        have HB' := Lib.hid (HBn.out.trans (hb'.mono HBn.out.size)); clear hb'
        go_wp2_with fail
        go_roundg (gk - 1)
        case measure => have := Hj.out; omega
        case rel => exact ⟨j + 1, Lib.hid (by have := Hj.out; omega), by go_num, Lib.hid (by rw [Hcl.out, HX.out]; simp), HB'.out⟩
      · have h1 : (q != 0) = true := by simpa using h0
        have H0 := Lib.hid h0; clear h0
        go_wp2_with (first | (go_at_call 42; refine Hcall.out.mono ?_; rintro e w' ⟨rfl, hb'⟩; refine Hid.out ?_))
        refine Lib.hid ?_
        have HB' := Lib.hid (HBn.out.trans (hb'.mono HBn.out.size)); clear hb'
        go_wp2_with fail
        go_ret
        exact ⟨ret_int (by rw [HC.out, Hcl.out, HX.out, if_neg H0.out]), HB'.out⟩
    · go_wp2_with fail
      go_ret
      refine ⟨ret_int ?_, HBr.out⟩
      rw [HC.out, Hcl.out, List.drop_of_length_le (by have := HK.out.len; omega)]; rfl
theorem rwalk_any : ∀ (y : Nd) (S : Nat → Prop) (x : List Value) (bx : Nat) (w : World), RNd w S x y → (∀ k, S k → k < w.heap.size) → w.cell? ⟨bx, 0, none⟩ = some (selfC bx) →
    Calls Tryz.prog 42 #[.agg x.toArray, .pointer (some ⟨bx, 0, none⟩)] w fun e w' => e = .returned (.int .i64 (ckNd y)) ∧ Below w.heap.size w w' := by
  refine Nd.ind fun k a f no ks ih => ?_
  intro S x bx w hR hS hbx
  obtain ⟨A, n, c, rfl, hnc, hc, h1, h2, h3, hK⟩ := hR.open_
  obtain ⟨nm, op, ver, slot, fl, on⟩ := a
  by_cases hk : k < 1 ∨ 5 < k
  · exact rwalk_out nm fl f op ver slot k on no A n c ks w bx hk
  by_cases h12 : k = 1 ∨ k = 2
  · rcases h12 with rfl | rfl
    · exact rwalk_leaf1 nm fl f op ver slot on no A n c ks w bx hnc hc h1 h2 hK.len
    · exact rwalk_leaf2 nm fl f op ver slot on no A n c ks w bx hnc hc h1 h2 hK.len
  by_cases ha : nm = [] ∧ op = 0 ∧ ver = 0 ∧ slot = 0 ∧ fl = [] ∧ on = false
  · obtain ⟨rfl, rfl, rfl, rfl, rfl, rfl⟩ := ha
    rcases (show k = 3 ∨ k = 4 ∨ k = 5 by omega) with rfl | rfl | rfl
    · by_cases hf : f = [] ∧ no = false
      · obtain ⟨rfl, rfl⟩ := hf
        exact rwalk_kids3 ks S A n c bx w ih hnc hc hK hS hbx
      · exact rwalk_flag3 f no A n c ks w bx hf
    · by_cases hf : f = [] ∧ no = false
      · obtain ⟨rfl, rfl⟩ := hf
        exact rwalk_kids4 ks S A n c bx w ih hnc hc hK hS hbx
      · exact rwalk_flag4 f no A n c ks w bx hf
    · cases hn : isName f
      · exact rwalk_name f no A n c ks w bx h3 hn
      · exact rwalk_kids5 f no h3 hn ks S A n c bx w ih hnc hc hK hS hbx
  · exact rwalk_bad nm fl f op ver slot k on no A n c ks w bx (by omega) (by omega) ha
end Go.Proofs.YtokibfankmjphaaGreatDoor

/- quartermasterref.CheckNeed, walked. -/
namespace Go.Proofs.YtokibfankmjphaaGreatDoor
open Go.RowKit Qm

set_option maxRecDepth 100000 in
set_option maxHeartbeats 1600000 in
theorem rcheckNeed_any (y : Nd) (S : Nat → Prop) (x : List Value) (w : World) (hR : RNd w S x y) (hS : ∀ k, S k → k < w.heap.size) :
    Calls Tryz.prog 19 #[.agg x.toArray] w fun e w' => e = .returned (.int .i64 (ckNeed y)) ∧ Below w.heap.size w w' := by
  have hm := szd_many y
  have hle := szd_le y 4 (by omega)
  have HC : Hid (ckNeed y = if 20 < (szd y 4).1 ∨ 4 < (szd y 4).2 then 2 else ckNd y) := Lib.hid (by unfold ckNeed; simp only [hm])
  have hz := fun wx hw h => sized_any y S x 4 wx hw h (by omega)
  clear hm
  have hb0 : Below w.heap.size w (w.alloc (.cells x.toArray 46)) := (Below.refl _ w).alloc (Nat.le_refl _) _
  have HB := Lib.hid hb0
  have HW := Lib.hid (Whole.new w _ 46 x rfl)
  have Hwk := Lib.hid (fun bx wx hw h hc => rwalk_any y S x bx wx hw h hc)
  have HR := Lib.hid hR; have HS := Lib.hid hS
  generalize szd y 4 = q at HC hz hle
  generalize ckNeed y = R at HC ⊢
  generalize ckNd y = v at HC Hwk
  obtain ⟨m, d⟩ := q
  simp only at HC hz hle
  obtain ⟨m1, m2, d1, d2⟩ := hle
  obtain ⟨k, a, f, no, ks⟩ := y
  obtain ⟨A, n, c, rfl, -⟩ := hR.open_
  clear hR hS hb0
  unfold ndRow at HB HW HR hz Hwk ⊢
  have hz4 : ((4 : Nat) : Int) = 4 := rfl
  simp only [hz4] at hz
  have Hz := Lib.hid (hz _ (HR.out.under HB.out HS.out) fun k hk => Nat.lt_of_lt_of_le (HS.out k hk) HB.out.size)
  clear hz
  have henter : ∀ (args : Array Value) (W : World), (callFunc 42 args).run Tryz.prog W = .ok (.enter 42 args) W := fun args W => by kernel_rfl
  by_cases hmm : 20 < m
  · have HC2 := Lib.hid (HC.out.trans (if_pos (.inl hmm)))
    go_enter Tryz.func19, Tryz.ntmps19
    go_wp2_with (first | (go_at_call 41; refine Hz.out.mono ?_; rintro e w1 ⟨rfl, hb1⟩; refine Hid.out ?_))
    refine Lib.hid ?_
    have HB1 := Lib.hid (HB.out.trans (hb1.mono HB.out.size))
    clear hb1
    go_wp2
    go_ret
    exact ⟨ret_int HC2.out.symm, HB1.out⟩
  have hmm' : decide (20 < m) = false := by simpa using hmm
  by_cases hdd : 4 < d
  · have HC2 := Lib.hid (HC.out.trans (if_pos (.inr hdd)))
    go_enter Tryz.func19, Tryz.ntmps19
    go_wp2_with (first | (go_at_call 41; refine Hz.out.mono ?_; rintro e w1 ⟨rfl, hb1⟩; refine Hid.out ?_))
    refine Lib.hid ?_
    have HB1 := Lib.hid (HB.out.trans (hb1.mono HB.out.size))
    clear hb1
    go_wp2
    go_ret
    exact ⟨ret_int HC2.out.symm, HB1.out⟩
  have hdd' : decide (4 < d) = false := by simpa using hdd
  have HC2 := Lib.hid (HC.out.trans (if_neg (by omega)))
  go_enter Tryz.func19, Tryz.ntmps19
  go_wp2_with (first | (go_at_call 41; refine Hz.out.mono ?_; rintro e w1 ⟨rfl, hb1⟩; refine Hid.out ?_))
  refine Lib.hid ?_
  have HB1 := Lib.hid (HB.out.trans (hb1.mono HB.out.size))
  have HW1 := Lib.hid (HW.out.below hb1 HW.out.lt); clear hb1
  have g0 := HW1.out.cell 0; have g1 := HW1.out.cell 1; have g2 := HW1.out.cell 2; have g3 := HW1.out.cell 3; have g4 := HW1.out.cell 4
  have g5 := HW1.out.cell 5; have g6 := HW1.out.cell 6; have g7 := HW1.out.cell 7; have g8 := HW1.out.cell 8; have g9 := HW1.out.cell 9
  simp only [List.getElem?_cons_zero, List.getElem?_cons_succ] at g0 g1 g2 g3 g4 g5 g6 g7 g8 g9
  have hlt := HW1.out.lt
  have hbl : Below w1.heap.size w1 (w1.alloc (.cells #[selfC w1.heap.size] 56)) := (Below.refl _ _).alloc (Nat.le_refl _) _
  have HB2 := Lib.hid (HB1.out.trans (hbl.mono HB1.out.size))
  have Hwk2 := Lib.hid (Hwk.out w1.heap.size _ (HR.out.under HB2.out HS.out) (fun k hk => Nat.lt_of_lt_of_le (HS.out k hk) HB2.out.size) ((Whole.new w1 _ 56 [selfC w1.heap.size] rfl).cell 0))
  clear hbl Hwk
  unfold selfC at Hwk2 HB2
  go_wp2_with (first | (go_at_call 42; refine Hwk2.out.mono ?_; rintro e w3 ⟨rfl, hb3⟩; refine Hid.out ?_))
  refine Lib.hid ?_
  have HB3 := Lib.hid (HB2.out.trans (hb3.mono HB2.out.size))
  clear hb3
  go_wp2
  go_ret
  exact ⟨ret_int HC2.out.symm, HB3.out⟩
end Go.Proofs.YtokibfankmjphaaGreatDoor

/- A list without doubles, sorted, is any list of the same members, sorted and compacted. -/
namespace Qm
open Go
theorem wle_trans {a b c : W} (h1 : a ≤ b) (h2 : b ≤ c) : a ≤ c := List.le_trans h1 h2
theorem wlt_of {a b : W} (h1 : a ≤ b) (h2 : a ≠ b) : a < b :=
  Decidable.byContradiction fun h => h2 (List.le_antisymm h1 (List.not_lt.1 h))
theorem wlt_of_le_lt {a b c : W} (h1 : a ≤ b) (h2 : b < c) : a < c := Std.lt_of_le_of_lt h1 h2
theorem compactUpTo_strict (d : Array W) (hs : ∀ i j, i ≤ j → j < d.size → d[i]! ≤ d[j]!) : ∀ m, m ≤ d.size → (Lib.compactUpTo d m).Pairwise (· < ·) ∧ ∀ x ∈ Lib.compactUpTo d m, ∃ j, j < m ∧ x = d[j]! := by
  intro m
  induction m with
  | zero => intro _; simp [Lib.compactUpTo]
  | succ m ih =>
    intro hm
    obtain ⟨h1, h2⟩ := ih (by omega)
    rw [Lib.compactUpTo_succ]
    split
    · rename_i hk
      refine ⟨List.pairwise_append.2 ⟨h1, by simp, fun x hx y hy => ?_⟩, fun x hx => ?_⟩
      · obtain ⟨j, hj, rfl⟩ := h2 x hx
        obtain rfl : y = d[m]! := by simpa using hy
        have hne : d[m - 1]! ≠ d[m]! := by
          intro e
          unfold Lib.keeps at hk
          simp at hk
          rcases hk with hk | hk
          · omega
          · exact hk e.symm
        exact wlt_of_le_lt (hs j (m - 1) (by omega) (by omega)) (wlt_of (hs (m - 1) m (by omega) (by omega)) hne)
      · rcases List.mem_append.1 hx with hx | hx
        · obtain ⟨j, hj, e⟩ := h2 x hx; exact ⟨j, by omega, e⟩
        · exact ⟨m, by omega, by simpa using hx⟩
    · rw [List.append_nil]
      exact ⟨h1, fun x hx => by obtain ⟨j, hj, e⟩ := h2 x hx; exact ⟨j, by omega, e⟩⟩
/-- Two strictly rising lists of the same members are one. -/
theorem strict_eq : ∀ {a b : List W}, a.Pairwise (· < ·) → b.Pairwise (· < ·) → (∀ x, x ∈ a ↔ x ∈ b) → a = b
  | [], [], _, _, _ => rfl
  | [], y :: _, _, _, h => by have := (h y).2 (List.mem_cons_self ..); simp at this
  | x :: _, [], _, _, h => by have := (h x).1 (List.mem_cons_self ..); simp at this
  | x :: r, y :: t, ha, hb, h => by
    obtain ⟨a1, a2⟩ := List.pairwise_cons.1 ha
    obtain ⟨b1, b2⟩ := List.pairwise_cons.1 hb
    have e : x = y := by
      rcases List.mem_cons.1 ((h x).1 (List.mem_cons_self ..)) with e | hx
      · exact e
      rcases List.mem_cons.1 ((h y).2 (List.mem_cons_self ..)) with e | hy
      · exact e.symm
      exact absurd (List.lt_trans (a1 y hy) (b1 x hx)) (List.lt_irrefl _)
    subst e
    congr 1
    refine strict_eq a2 b2 fun z => ⟨fun hz => ?_, fun hz => ?_⟩
    · rcases List.mem_cons.1 ((h z).1 (List.mem_cons_of_mem _ hz)) with e | h1
      · subst e; exact absurd (a1 z hz) (List.lt_irrefl _)
      · exact h1
    · rcases List.mem_cons.1 ((h z).2 (List.mem_cons_of_mem _ hz)) with e | h1
      · subst e; exact absurd (b1 z hz) (List.lt_irrefl _)
      · exact h1
end Qm

/- The document's list of flags is the program's. -/
namespace Go.Proofs.YtokibfankmjphaaGreatDoor
open Go.RowKit Qm

theorem sortW_pair (l : List Qm.W) : (sortW l).Pairwise (· ≤ ·) := by
  unfold sortW
  have := List.pairwise_mergeSort (le := fun x y : Qm.W => decide (x ≤ y)) (fun a b c h1 h2 => by simp at *; exact wle_trans h1 h2) (fun a b => by simp; exact List.le_total a b) l
  exact this.imp fun h => by simpa using h
theorem sortW_mem {l : List Qm.W} {x : Qm.W} : x ∈ sortW l ↔ x ∈ l := by unfold sortW; exact List.mem_mergeSort
theorem sortW_strict {l : List Qm.W} (h : l.Nodup) : (sortW l).Pairwise (· < ·) := by
  have hn : (sortW l).Nodup := (List.mergeSort_perm l _).nodup_iff.2 h
  exact (sortW_pair l).imp₂ (fun a b h1 h2 => wlt_of h1 h2) hn
theorem flags_same {l fs : List Qm.W} (h : l.Nodup) (hm : ∀ x, x ∈ l ↔ x ∈ fs) : sortW l = Lib.compact (sortW fs) := by
  refine strict_eq (sortW_strict h) ?_ fun x => by rw [sortW_mem, mem_compact, sortW_mem, hm]
  unfold Lib.compact
  refine (compactUpTo_strict _ (fun i j hij hj => ?_) _ (by simp)).1
  have hp := sortW_pair fs
  simp only [List.size_toArray] at hj
  rcases Nat.eq_or_lt_of_le hij with e | hlt
  · subst e; exact List.le_refl _
  · rw [List.pairwise_iff_getElem] at hp
    have := hp i j (by omega) hj hlt
    simpa [List.getElem!_toArray, hj, Nat.lt_of_le_of_lt hij hj] using this
end Go.Proofs.YtokibfankmjphaaGreatDoor

/- The closure of quartermasterref.FlagsOf, walked. -/
namespace Go.Proofs.YtokibfankmjphaaGreatDoor
open Go.RowKit Qm

/-- The map's box BM, the closure's box BF, the map b: what is in it. -/
structure Fm (BM BF b : Nat) (K : Qm.W → Bool) (m : Nat) (w : World) : Prop where
  mp : Whole w BM 64 [.map (some b)]
  fn : Whole w BF 77 [.func (.func 43) #[] #[.pointer (some ⟨BM, 0, none⟩), .pointer (some ⟨BF, 0, none⟩)]]
  set : StrSet Tryz.prog w b K m
  nm : BM ≠ b
  nf : BF ≠ b
def FmPost (BM BF b : Nat) (K : Qm.W → Bool) (m : Nat) (gs : List Qm.W) (w : World) (e : Ending) (w' : World) : Prop :=
  ∃ K' m', e = .returned (.tuple #[]) ∧ Fm BM BF b K' m' w' ∧ Far (fun i => i = b) w w' ∧ (∀ x, K' x = (K x || decide (x ∈ gs))) ∧ m' ≤ m + gs.length
/-- On the way. -/
structure Fy (w : World) (BM BF b : Nat) (K : Qm.W → Bool) (m : Nat) (gs : List Qm.W) (wx : World) : Prop where
  ex : ∃ K' m', Fm BM BF b K' m' wx ∧ (∀ x, K' x = (K x || decide (x ∈ gs))) ∧ m' ≤ m + gs.length
  far : Far (fun i => i = b) w wx
section
variable {w wx wy : World} {BM BF b m : Nat} {K : Qm.W → Bool} {gs hs : List Qm.W}
theorem Fm.below (h : Fm BM BF b K m wx) (hb : Below wx.heap.size wx wy) : Fm BM BF b K m wy :=
  ⟨h.mp.below hb h.mp.lt, h.fn.below hb h.fn.lt, h.set.kept (row := none) ⟨hb.os, hb.tape, hb.output, hb.size, fun i hi _ => hb.block i hi⟩ (by simp), h.nm, h.nf⟩
theorem Fm.put {K' : Qm.W → Bool} {m' : Nat} (h : Fm BM BF b K m wx) (hs : StrSet Tryz.prog wy b K' m') (hg : wx.grownBy wy (some b)) : Fm BM BF b K' m' wy :=
  ⟨h.mp.grown hg (by simpa using h.nm), h.fn.grown hg (by simpa using h.nf), hs, h.nm, h.nf⟩
theorem Fy.below (h : Fy w BM BF b K m gs wx) (hb : Below wx.heap.size wx wy) : Fy w BM BF b K m gs wy := by
  obtain ⟨K', m', h1, h2, h3⟩ := h.ex
  exact ⟨⟨K', m', h1.below hb, h2, h3⟩, h.far.trans (Far.of_below _ hb) fun _ _ e => e⟩
theorem Fy.call {K1 : Qm.W → Bool} {m1 : Nat} (hf : Far (fun i => i = b) w wx) (h2 : ∀ x, K1 x = (K x || decide (x ∈ gs))) (h3 : m1 ≤ m + gs.length) {e : Ending} (h : FmPost BM BF b K1 m1 hs wx e wy) : Fy w BM BF b K m (gs ++ hs) wy := by
  obtain ⟨K', m', _, f, far, hk, hm⟩ := h
  refine ⟨⟨K', m', f, fun x => ?_, by simp; omega⟩, hf.trans far fun _ _ e => e⟩
  rw [hk, h2, Bool.or_assoc]; simp [List.mem_append]
end
set_option maxRecDepth 100000 in
set_option maxHeartbeats 3200000 in
theorem rflagsC_any : ∀ (y : Nd) (S : Nat → Prop) (x : List Value) (BM BF b : Nat) (K : Qm.W → Bool) (m : Nat) (w : World), RNd w S x y → (∀ k, S k → k < w.heap.size ∧ ¬ k = b) → Fm BM BF b K m w → m + (flagsN y).length ≤ 10000 →
    Calls Tryz.prog 43 #[.agg x.toArray, .pointer (some ⟨BM, 0, none⟩), .pointer (some ⟨BF, 0, none⟩)] w (FmPost BM BF b K m (flagsN y) w) := by
  refine Nd.ind fun k a f no ks ih => ?_
  intro S x BM BF b K m w hR hS hF hcnt
  have HI := Lib.hid ih; clear ih
  obtain ⟨A, n, c, rfl, hnc, hc, h1, h2, h3, hK⟩ := hR.open_
  clear hR
  have HS := Lib.hid hS; have HK := Lib.hid hK
  have hfn : flagsN (.mk k a f no ks) = (if k = 5 then [f] else []) ++ flagsL ks := rfl
  rw [hfn] at hcnt ⊢
  clear hfn hS hK
  unfold ndRow
  have hb0 : Below w.heap.size w (w.alloc (.cells #[.int .i64 k, .string ⟨a.nm.toArray⟩, .int .i64 a.op, .int .i64 a.ver, .int .i64 a.slot, .string ⟨a.fl.toArray⟩, .bool a.on, .string ⟨f.toArray⟩, .bool no, .slice A n c] 46)) := (Below.refl _ w).alloc (Nat.le_refl _) _
  have HF0 := Lib.hid (hF.below hb0)
  have HB0 := Lib.hid hb0
  have HX := Lib.hid (Whole.new w _ 46 [.int .i64 k, .string ⟨a.nm.toArray⟩, .int .i64 a.op, .int .i64 a.ver, .int .i64 a.slot, .string ⟨a.fl.toArray⟩, .bool a.on, .string ⟨f.toArray⟩, .bool no, .slice A n c] rfl)
  have hbl := hF.set.lt
  have henter : ∀ (args : Array Value) (W : World), (callFunc 43 args).run Tryz.prog W = .ok (.enter 43 args) W := fun args W => by kernel_rfl
  have t1 := hF.mp.cell 0
  have t2 := hF.mp.lt
  simp only [List.getElem?_cons_zero] at t1
  unfold maxLen at hc
  by_cases hk : k = 5
  · subst hk
    rw [if_pos rfl] at hcnt ⊢
    obtain ⟨hd, ehd⟩ : ∃ hd, [f] = hd := ⟨_, rfl⟩
    obtain ⟨w5, hrun, hset5, hg5, hz5⟩ := HF0.out.set.put (t := 64) Tryz.underlying9 Tryz.underlying4 Tryz.underlying64 (x := f) h3 (by simp at hcnt; unfold maxLen; omega)
    rw [ehd] at hcnt ⊢
    have Hcnt := Lib.hid hcnt
    have HY : Hid (Fy w BM BF b K m hd w5) := Lib.hid ⟨⟨_, _, HF0.out.put hset5 hg5, fun x => by rw [← ehd, Bool.or_comm]; congr 1; rw [Bool.eq_iff_iff]; simp, by rw [← ehd]; split <;> simp⟩, (Far.of_below _ HB0.out).trans (Far.of_grown hg5 fun i e => by injection e) fun _ _ e => e⟩
    have g9 := (HX.out.grown hg5 (by intro e; injection e with e; omega)).cell 9
    simp only [List.getElem?_cons_zero, List.getElem?_cons_succ] at g9
    have hz6 : w.heap.size < w5.heap.size := by rw [hz5]; simp
    clear hcnt hF hb0 h1 h2 h3 hset5 hg5 ehd
    go_enter Tryz.func43, Tryz.ntmps43
    go_wp2
    go_loopg [15] n (fun g iv wr => ∃ (j : Nat), Hid (j + g = n) ∧ iv = .int .i64 j ∧ Hid (Fy w BM BF b K m (hd ++ flagsL (ks.take j)) wr))
    case atStart => exact ⟨0, Lib.hid (Nat.zero_add _), rfl, Lib.hid (by simpa [flagsL] using HY.out)⟩
    case round =>
      obtain ⟨j, Hj, rfl, HYr⟩ := hrel
      have hsz := HYr.out.far.size
      by_cases hj : j < n
      · obtain ⟨K1, m1, hf1, hk1, hm1⟩ := HYr.out.ex
        have HF1 := Lib.hid hf1
        have HK1 := Lib.hid hk1
        have hKr := HK.out.keep fun p hp => HYr.out.far.cell (HS.out _ hp).1 (fun e => (HS.out _ hp).2 e)
        obtain ⟨bb, o, x, y, rfl, hb, hy, hxy, hcell⟩ := hKr.at_ hj
        have hmem := List.mem_of_getElem? hy
        have Htk : Hid (flagsL (ks.take (j + 1)) = flagsL (ks.take j) ++ flagsN y) := Lib.hid (by rw [List.take_add_one, hy]; exact flagsL_snoc _ _)
        obtain ⟨yk, ya, yf, yn, yks⟩ := y
        obtain ⟨A', n', c', rfl, -⟩ := hxy.open_
        have g0 := hcell 0 (by omega); have g1 := hcell 1 (by omega); have g2 := hcell 2 (by omega); have g3 := hcell 3 (by omega); have g4 := hcell 4 (by omega)
        have g5 := hcell 5 (by omega); have g6 := hcell 6 (by omega); have g7 := hcell 7 (by omega); have g8 := hcell 8 (by omega); have g9 := hcell 9 (by omega)
        clear hcell
        unfold ndRow at g0 g1 g2 g3 g4 g5 g6 g7 g8 g9
        simp only [List.getElem?_cons_zero, List.getElem?_cons_succ, Nat.add_zero] at g0 g1 g2 g3 g4 g5 g6 g7 g8 g9
        have hbn : Below wr.heap.size wr (wr.alloc (.cells #[.int .i64 yk, .string ⟨ya.nm.toArray⟩, .int .i64 ya.op, .int .i64 ya.ver, .int .i64 ya.slot, .string ⟨ya.fl.toArray⟩, .bool ya.on, .string ⟨yf.toArray⟩, .bool yn, .slice A' n' c'] 46)) := (Below.refl _ wr).alloc (Nat.le_refl _) _
        have hxy2 := hxy.under hbn fun q hq => Nat.lt_of_lt_of_le (HS.out q hq).1 hsz
        have hlim : m1 + (flagsN (.mk yk ya yf yn yks)).length ≤ 10000 := by have h1 := flagsL_take ks (j + 1); rw [Htk.out, List.length_append] at h1; have h2 := Hcnt.out; rw [List.length_append] at h2 hm1; omega
        have Hcall := Lib.hid (HI.out _ hmem S _ BM BF b K1 m1 _ hxy2 (fun q hq => ⟨Nat.lt_of_lt_of_le (HS.out q hq).1 (Nat.le_trans hsz hbn.size), (HS.out q hq).2⟩) (HF1.out.below hbn) hlim)
        have Hfar := Lib.hid (HYr.out.far.trans (Far.of_below (fun i => i = b) hbn) fun _ _ e => e)
        have q1 := HF1.out.fn.cell 0
        have q2 := HF1.out.fn.lt
        simp only [List.getElem?_cons_zero] at q1
        unfold ndRow at Hcall
        clear hxy hxy2 hmem hy hbn hKr hf1 hk1 hlim
        go_wp2_with (first | (go_at_call 43; refine Hcall.out.mono ?_; intro e w' hp; obtain ⟨K', m', rfl, hp'⟩ := id hp; refine Hid.out ?_))
        refine Lib.hid ?_
        have HY2 := Lib.hid (Fy.call Hfar.out HK1.out hm1 hp)
        clear hp hp'
        go_wp2
        go_roundg (gk - 1)
        case measure => have := Hj.out; omega
        case rel => exact ⟨j + 1, Lib.hid (by have := Hj.out; omega), by go_num, Lib.hid (by rw [Htk.out, ← List.append_assoc]; exact HY2.out)⟩
      · have e : ks.take j = ks := List.take_of_length_le (by have := HK.out.len; omega)
        rw [e] at HYr
        go_wp2
        go_end0
        obtain ⟨K1, m1, hf1, hk1, hm1⟩ := HYr.out.ex
        exact ⟨K1, m1, rfl, hf1, HYr.out.far, hk1, hm1⟩
  · have hk' : (k == 5) = false := by simpa using hk
    rw [if_neg hk] at hcnt ⊢
    obtain ⟨hd, ehd⟩ : ∃ hd : List Qm.W, [] = hd := ⟨_, rfl⟩
    rw [ehd] at hcnt ⊢
    have Hcnt := Lib.hid hcnt
    have HY : Hid (Fy w BM BF b K m hd _) := Lib.hid ⟨⟨_, _, HF0.out, fun x => by rw [← ehd]; simp, by omega⟩, Far.of_below _ HB0.out⟩
    clear hcnt hF hb0 h1 h2 h3 ehd
    go_enter Tryz.func43, Tryz.ntmps43
    go_wp2
    go_loopg [15] n (fun g iv wr => ∃ (j : Nat), Hid (j + g = n) ∧ iv = .int .i64 j ∧ Hid (Fy w BM BF b K m (hd ++ flagsL (ks.take j)) wr))
    case atStart => exact ⟨0, Lib.hid (Nat.zero_add _), rfl, Lib.hid (by simpa [flagsL] using HY.out)⟩
    case round =>
      obtain ⟨j, Hj, rfl, HYr⟩ := hrel
      have hsz := HYr.out.far.size
      by_cases hj : j < n
      · obtain ⟨K1, m1, hf1, hk1, hm1⟩ := HYr.out.ex
        have HF1 := Lib.hid hf1
        have HK1 := Lib.hid hk1
        have hKr := HK.out.keep fun p hp => HYr.out.far.cell (HS.out _ hp).1 (fun e => (HS.out _ hp).2 e)
        obtain ⟨bb, o, x, y, rfl, hb, hy, hxy, hcell⟩ := hKr.at_ hj
        have hmem := List.mem_of_getElem? hy
        have Htk : Hid (flagsL (ks.take (j + 1)) = flagsL (ks.take j) ++ flagsN y) := Lib.hid (by rw [List.take_add_one, hy]; exact flagsL_snoc _ _)
        obtain ⟨yk, ya, yf, yn, yks⟩ := y
        obtain ⟨A', n', c', rfl, -⟩ := hxy.open_
        have g0 := hcell 0 (by omega); have g1 := hcell 1 (by omega); have g2 := hcell 2 (by omega); have g3 := hcell 3 (by omega); have g4 := hcell 4 (by omega)
        have g5 := hcell 5 (by omega); have g6 := hcell 6 (by omega); have g7 := hcell 7 (by omega); have g8 := hcell 8 (by omega); have g9 := hcell 9 (by omega)
        clear hcell
        unfold ndRow at g0 g1 g2 g3 g4 g5 g6 g7 g8 g9
        simp only [List.getElem?_cons_zero, List.getElem?_cons_succ, Nat.add_zero] at g0 g1 g2 g3 g4 g5 g6 g7 g8 g9
        have hbn : Below wr.heap.size wr (wr.alloc (.cells #[.int .i64 yk, .string ⟨ya.nm.toArray⟩, .int .i64 ya.op, .int .i64 ya.ver, .int .i64 ya.slot, .string ⟨ya.fl.toArray⟩, .bool ya.on, .string ⟨yf.toArray⟩, .bool yn, .slice A' n' c'] 46)) := (Below.refl _ wr).alloc (Nat.le_refl _) _
        have hxy2 := hxy.under hbn fun q hq => Nat.lt_of_lt_of_le (HS.out q hq).1 hsz
        have hlim : m1 + (flagsN (.mk yk ya yf yn yks)).length ≤ 10000 := by have h1 := flagsL_take ks (j + 1); rw [Htk.out, List.length_append] at h1; have h2 := Hcnt.out; rw [List.length_append] at h2 hm1; omega
        have Hcall := Lib.hid (HI.out _ hmem S _ BM BF b K1 m1 _ hxy2 (fun q hq => ⟨Nat.lt_of_lt_of_le (HS.out q hq).1 (Nat.le_trans hsz hbn.size), (HS.out q hq).2⟩) (HF1.out.below hbn) hlim)
        have Hfar := Lib.hid (HYr.out.far.trans (Far.of_below (fun i => i = b) hbn) fun _ _ e => e)
        have q1 := HF1.out.fn.cell 0
        have q2 := HF1.out.fn.lt
        simp only [List.getElem?_cons_zero] at q1
        unfold ndRow at Hcall
        clear hxy hxy2 hmem hy hbn hKr hf1 hk1 hlim
        go_wp2_with (first | (go_at_call 43; refine Hcall.out.mono ?_; intro e w' hp; obtain ⟨K', m', rfl, hp'⟩ := id hp; refine Hid.out ?_))
        refine Lib.hid ?_
        have HY2 := Lib.hid (Fy.call Hfar.out HK1.out hm1 hp)
        clear hp hp'
        go_wp2
        go_roundg (gk - 1)
        case measure => have := Hj.out; omega
        case rel => exact ⟨j + 1, Lib.hid (by have := Hj.out; omega), by go_num, Lib.hid (by rw [Htk.out, ← List.append_assoc]; exact HY2.out)⟩
      · have e : ks.take j = ks := List.take_of_length_le (by have := HK.out.len; omega)
        rw [e] at HYr
        go_wp2
        go_end0
        obtain ⟨K1, m1, hf1, hk1, hm1⟩ := HYr.out.ex
        exact ⟨K1, m1, rfl, hf1, HYr.out.far, hk1, hm1⟩
end Go.Proofs.YtokibfankmjphaaGreatDoor

/- sort.Strings, walked. -/
namespace Go.Proofs.YtokibfankmjphaaGreatDoor
open Go.RowKit Qm

set_option maxRecDepth 100000 in
theorem sortStrings_any (base g n cap : Nat) (fs : List Qm.W) (w : World) (hown : w.ownsRow base 9 1 (.slice (some ⟨g, 0, none⟩) n cap) n (strs fs)) (hn : n ≤ 100000) :
    Calls Tryz.prog 44 #[.slice (some ⟨g, 0, none⟩) n cap] w (SortPost base g n cap fs w) := by
  have H := Lib.hid (sortS_any base g n cap fs w hown hn)
  go_enter Tryz.func44, Tryz.ntmps44
  go_wp2_with (first | (go_at_call 67; refine H.out.mono ?_; rintro e w1 ⟨rfl, h1, h2⟩; refine Hid.out ?_))
  refine Lib.hid ?_
  go_wp2
  go_end0
  exact ⟨rfl, h1, h2⟩
end Go.Proofs.YtokibfankmjphaaGreatDoor

/- quartermasterref.FlagsOf: the state of its loop over the map. -/
namespace Go.Proofs.YtokibfankmjphaaGreatDoor
open Go.RowKit Qm

/-- The words of K that have come are 'l', the others are still to come. -/
structure Gone (K : Qm.W → Bool) (l : List Qm.W) (left : Lit → Bool) : Prop where
  nodup : l.Nodup
  short : ∀ x ∈ l, x.length ≤ maxLen
  sub : ∀ x : Qm.W, x.length ≤ maxLen → left (.string x) = true → K x = true ∧ x ∉ l
  all : ∀ x : Qm.W, x.length ≤ maxLen → K x = true → x ∈ l ∨ left (.string x) = true
  got : ∀ x ∈ l, K x = true
theorem Gone.start {D : DataW Unit} {K : Qm.W → Bool} (h : ∀ x : Qm.W, x.length ≤ maxLen → Maps.has D (.string x) = K x) : Gone K [] (Maps.has D) :=
  ⟨List.nodup_nil, fun _ h => by simp at h, fun x hx e => ⟨by rw [← h x hx]; exact e, by simp⟩, fun x hx e => .inr (by rw [h x hx]; exact e), fun _ h => by simp at h⟩
theorem Gone.step {K : Qm.W → Bool} {l : List Qm.W} {left : Lit → Bool} (h : Gone K l left) {x : Qm.W} (hx : x.length ≤ maxLen) (hl : left (.string x) = true) : Gone K (l ++ [x]) (fun z => left z && !z.sameKey (.string x)) := by
  obtain ⟨hk, hn⟩ := h.sub x hx hl
  have hs : ∀ y : Qm.W, (Lit.string y).sameKey (.string x) = decide (y = x) := fun y => by
    by_cases e : y = x <;> simp [Lit.sameKey, e]
  refine ⟨List.nodup_append.2 ⟨h.nodup, by simp, fun a ha b hb => ?_⟩, fun y hy => ?_, fun y hy e => ?_, fun y hy e => ?_, fun y hy => ?_⟩
  · obtain rfl : b = x := by simpa using hb
    exact fun e => hn (e ▸ ha)
  · rcases List.mem_append.1 hy with h1 | h1
    · exact h.short y h1
    · obtain rfl : y = x := by simpa using h1
      exact hx
  · simp only [hs, Bool.and_eq_true, Bool.not_eq_true', decide_eq_false_iff_not] at e
    obtain ⟨k1, k2⟩ := h.sub y hy e.1
    exact ⟨k1, by simp [k2, e.2]⟩
  · rcases h.all y hy e with h1 | h1
    · exact .inl (List.mem_append.2 (.inl h1))
    · by_cases ex : y = x
      · exact .inl (by simp [ex])
      · exact .inr (by simp [hs, h1, ex])
  · rcases List.mem_append.1 hy with h1 | h1
    · exact h.got y h1
    · obtain rfl : y = x := by simpa using h1
      exact hk
theorem Gone.done {K : Qm.W → Bool} {l : List Qm.W} {left : Lit → Bool} (h : Gone K l left) (h0 : ∀ kl, left kl = false) {x : Qm.W} (hx : x.length ≤ maxLen) : x ∈ l ↔ K x = true :=
  ⟨h.got x, fun e => (h.all x hx e).resolve_right (by rw [h0]; simp)⟩
end Go.Proofs.YtokibfankmjphaaGreatDoor
