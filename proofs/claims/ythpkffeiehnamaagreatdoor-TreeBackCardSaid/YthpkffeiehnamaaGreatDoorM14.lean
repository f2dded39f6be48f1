/- Parts of the proof: walks and plain laws, side by side. -/
import Derived.Test.YthpkffeiehnamaaGreatDoorM12
import Derived.Test.YthpkffeiehnamaaGreatDoorM13
import Derived.Test.YthpkffeiehnamaaGreatDoorM4
import Derived.Test.YthpkffeiehnamaaGreatDoorProg
import Derived.Test.YthpkffeiehnamaaGreatDoorM2
import Derived.Deep.QuietTactic
import Derived.BigQuiet
import Derived.Test.YthpkffeiehnamaaGreatDoorShelf
import Derived.Shelf.Strings.BuilderK
import Derived.Shelf.Strings.BuilderF
import Derived.Test.YthpkffeiehnamaaGreatDoorM5
import Derived.Deep.RegionHeld3
import Derived.Test.YthpkffeiehnamaaGreatDoorRows
import Derived.ProofKit
import Derived.LaidMore
import Derived.OpenShut
import Derived.Stop.Joined
import Derived.Stop.LaidErr
import Derived.Lib.LaidTab
import Derived.Test.YthpkffeiehnamaaGreatDoorM1
import Derived.Test.YthpkffeiehnamaaGreatDoorM3
import Derived.Test.YthpkffeiehnamaaGreatDoorM6
import Derived.Test.YthpkffeiehnamaaGreatDoorM7
import Derived.Test.YthpkffeiehnamaaGreatDoorM8
import Derived.Test.YthpkffeiehnamaaGreatDoorM9
import Derived.Test.YthpkffeiehnamaaGreatDoorM10
import Derived.Test.YthpkffeiehnamaaGreatDoorM11
set_option linter.unusedVariables false
set_option linter.unusedSimpArgs false
set_option linter.unusedSectionVars false
/- tree.Means, walked. -/
namespace Go.Proofs.YthpkffeiehnamaaGreatDoor
open Go.RowKit Qm

/-- An atom means a package: by name, version, slot; and the package has its flag. -/
def meant (a : At) (p : Pk) : Bool := decide (p.nm = a.nm) && (fitsP a p.ver p.slot && (decide (a.fl = []) || p.fs.contains a.fl))
def meantTo (ps : List Pk) (a : At) : Nat → List Int
  | 0 => []
  | j + 1 => meantTo ps a j ++ (match ps[j]? with | some p => if meant a p = true then [(j : Int)] else [] | none => [])
theorem meantTo_yes {ps : List Pk} {a : At} {j : Nat} {p : Pk} (h : ps[j]? = some p) (hm : meant a p = true) : meantTo ps a (j + 1) = meantTo ps a j ++ [(j : Int)] := by
  rw [meantTo, h]; simp only [hm, if_true]
theorem meantTo_no {ps : List Pk} {a : At} {j : Nat} {p : Pk} (h : ps[j]? = some p) (hm : meant a p = false) : meantTo ps a (j + 1) = meantTo ps a j := by
  rw [meantTo, h]; simp [hm]
theorem meantTo_len {ps : List Pk} {a : At} : ∀ j, (meantTo ps a j).length ≤ j
  | 0 => Nat.le_refl _
  | j + 1 => by
    have := meantTo_len (ps := ps) (a := a) j
    rw [meantTo, List.length_append]
    have : (match ps[j]? with | some p => if meant a p = true then [(j : Int)] else [] | none => []).length ≤ 1 := by
      split
      · split <;> simp
      · simp
    omega
theorem ckTree_len {ps : List Pk} (h : ckTree ps = 0) : ps.length ≤ 8 := by
  unfold ckTree at h
  split at h
  · cases h
  · omega
def meansE (ps : List Pk) (a : At) : Int := if ckTree ps ≠ 0 then ckTree ps else ckAtom a
def meansL (ps : List Pk) (a : At) : List Int := if meansE ps a = 0 then meantTo ps a ps.length else []

structure Mx (w : World) (A : Option Addr) (n c : Nat) (av : List Value) (wr : World) : Prop where
  below : Below w.heap.size w wr
  t : Whole wr w.heap.size 24 [.slice A n c]
  a : Whole wr (w.heap.size + 1) 26 av
theorem Mx.move {w : World} {A : Option Addr} {n c : Nat} {av : List Value} {w1 w2 : World} (h : Mx w A n c av w1) (hb : Below w1.heap.size w1 w2) : Mx w A n c av w2 :=
  ⟨h.below.trans (hb.mono h.below.size), h.t.below hb h.t.lt, h.a.below hb h.a.lt⟩
theorem Mx.new (w : World) (A : Option Addr) (n c : Nat) (av : List Value) : Mx w A n c av ((w.alloc (.cells #[.slice A n c] 24)).alloc (.cells av.toArray 26)) := by
  have hb1 : Below w.heap.size w (w.alloc (.cells #[.slice A n c] 24)) := (Below.refl _ w).alloc (Nat.le_refl _) _
  have ht := Whole.new w w.heap.size 24 [.slice A n c] rfl
  have hb2 : Below (w.alloc (.cells #[.slice A n c] 24)).heap.size (w.alloc (.cells #[.slice A n c] 24)) ((w.alloc (.cells #[.slice A n c] 24)).alloc (.cells av.toArray 26)) := (Below.refl _ _).alloc (Nat.le_refl _) _
  exact ⟨hb1.trans (hb2.mono hb1.size), ht.below hb2 ht.lt, Whole.new _ _ _ av (by simp)⟩
def MeansPost (w : World) (ps : List Pk) (a : At) (e : Ending) (w' : World) : Prop :=
  ∃ A c, e = .returned (.tuple #[.slice A (meansL ps a).length c, .int .i64 (meansE ps a)]) ∧ RInts w' (fun i => w.heap.size ≤ i ∧ i < w'.heap.size) A (meansL ps a).length (meansL ps a) ∧ (meansL ps a).length ≤ c ∧ c ≤ maxLen ∧ Below w.heap.size w w'
theorem MeansPost.err {w w' : World} {ps : List Pk} {a : At} {z : Int} (hz : z ≠ 0) (he : meansE ps a = z) (hb : Below w.heap.size w w') : MeansPost w ps a (.returned (.tuple #[.slice none 0 0, .int .i64 z])) w' := by
  have hl : meansL ps a = [] := by unfold meansL; rw [if_neg (by rw [he]; exact hz)]
  exact ⟨none, 0, by rw [hl, he]; rfl, by rw [hl]; exact Row.nil_, by rw [hl]; exact Nat.le_refl _, Nat.zero_le _, hb⟩
theorem MeansPost.ok {w w3 w' : World} {ps : List Pk} {a : At} {v : Value} (he : meansE ps a = 0) (hw : w.heap.size ≤ w3.heap.size) (hown : w'.ownsRow w3.heap.size 3 1 v (meantTo ps a ps.length).length ((meantTo ps a ps.length).map (.int .i64))) (hb : Below w.heap.size w w') :
    MeansPost w ps a (.returned (.tuple #[v, .int .i64 0])) w' := by
  have hl : meansL ps a = meantTo ps a ps.length := by unfold meansL; rw [if_pos he]
  obtain ⟨A, c, rfl, h1, h2, h3⟩ := own_form hown
  unfold MeansPost
  rw [hl, he]
  exact ⟨A, c, rfl, h3.more fun k hk => ⟨Nat.le_trans hw hk.1, hk.2⟩, h1, h2, hb⟩
theorem int_info5 : (Tryz.prog.info? 3).map (fun i => (i.zero, i.size, i.bytes)) = some (some (.int .i64 0), 1, 8) := by kernel_rfl
set_option maxRecDepth 100000 in
set_option maxHeartbeats 3200000 in
theorem means_any (ps : List Pk) (a : At) (S : Nat → Prop) (A : Option Addr) (n c : Nat) (w : World) (hT : RTree w S A n ps) (hnc : n ≤ c) (hc : c ≤ maxLen) (h1 : a.nm.length ≤ maxLen) (h2 : a.fl.length ≤ maxLen) (hS : ∀ k, S k → k < w.heap.size) :
    Calls Tryz.prog 6 #[.agg #[.slice A n c], .agg #[.string ⟨a.nm.toArray⟩, .int .i64 a.op, .int .i64 a.ver, .int .i64 a.slot, .string ⟨a.fl.toArray⟩, .bool a.on]] w (MeansPost w ps a) := by
  have hl := hT.len
  have X0 := Lib.hid (Mx.new w A n c [.string ⟨a.nm.toArray⟩, .int .i64 a.op, .int .i64 a.ver, .int .i64 a.slot, .string ⟨a.fl.toArray⟩, .bool a.on])
  have HT1 := Lib.hid (hT.under X0.out.below hS)
  have HS1 := Lib.hid (fun q hq => Nat.lt_of_lt_of_le (hS q hq) X0.out.below.size)
  have HT := Lib.hid hT; have HS := Lib.hid hS; clear hT hS
  have Htc := Lib.hid (fun wx h1 h2 => tCheck_any ps S A n c wx h1 hnc hc h2)
  have hcm := hc
  unfold maxLen at hcm
  have hac := fun wx => check_any ⟨a.nm.toArray⟩ ⟨a.fl.toArray⟩ a.op a.ver a.slot a.on wx (by rw [bsz]; exact h1) (by rw [bsz]; exact h2)
  rw [atOf_mk] at hac
  unfold atv at hac
  have Hac := Lib.hid hac; clear hac
  have HE : Hid (meansE ps a = if ckTree ps ≠ 0 then ckTree ps else ckAtom a) := Lib.hid rfl
  generalize hz : ckTree ps = z at Htc HE
  have HZ := Lib.hid hz; clear hz
  generalize ckAtom a = y at Hac HE
  by_cases z0 : z = 0
  · subst z0
    by_cases y0 : y = 0
    · subst y0
      have hn8 : n ≤ 8 := by rw [← hl]; exact ckTree_len HZ.out
      have HE0 : Hid (meansE ps a = 0) := Lib.hid (by rw [HE.out]; simp)
      clear HE
      go_enter Tryz.func6, Tryz.ntmps6
      go_wp2_with (first | (go_at_call 20; refine (Htc.out _ HT1.out HS1.out).mono ?_; rintro e w1 ⟨rfl, hb1⟩; refine Hid.out ?_))
      refine Lib.hid ?_
      have X1 := Lib.hid (X0.out.move hb1)
      clear hb1
      have a0 := X1.out.a.cell 0; have a1 := X1.out.a.cell 1; have a2 := X1.out.a.cell 2; have a3 := X1.out.a.cell 3; have a4 := X1.out.a.cell 4; have a5 := X1.out.a.cell 5
      simp only [List.getElem?_cons_zero, List.getElem?_cons_succ] at a0 a1 a2 a3 a4 a5
      have hlt := X1.out.a.lt
      go_wp2_with (first | (go_at_call 30; refine (Hac.out _).mono ?_; rintro e w2 ⟨rfl, hb2⟩; refine Hid.out ?_))
      refine Lib.hid ?_
      clear a0 a1 a2 a3 a4 a5 hlt
      have X2 := Lib.hid (X1.out.move hb2)
      clear hb2 X1 X0 HT1 HS1 Htc Hac
      have t0 := X2.out.t.cell 0
      simp only [List.getElem?_cons_zero] at t0
      obtain ⟨i0, hi, hz0, hz1, hz2⟩ := info_parts int_info5
      go_wp2
      clear t0
      go_loopg [8, 24] n (fun g lv iv wr => ∃ j : Nat, Hid (j + g = n) ∧ iv = .int .i64 j ∧ Hid (wr.ownsRow w2.heap.size 3 1 lv (meantTo ps a j).length ((meantTo ps a j).map (.int .i64))) ∧ Hid (Below w2.heap.size w2 wr))
      case atStart => exact ⟨0, Lib.hid (Nat.zero_add _), rfl, Lib.hid (World.ownsRow_nil _ _ _ _), Lib.hid (Below.refl _ _)⟩
      case round =>
        obtain ⟨j, Hj, rfl, Hown, HB⟩ := hrel
        have XR := Lib.hid (X2.out.move HB.out)
        by_cases hj : j < n
        · obtain ⟨b, o, p, B, m', c', k, f, g, no, D, q, d, rfl, hbS, hp, hP, hcell⟩ := (HT.out.under XR.out.below HS.out).at_ hj
          have Hyes := Lib.hid (fun h => meantTo_yes (a := a) hp h)
          have Hno := Lib.hid (fun h => meantTo_no (a := a) hp h)
          have HM : Hid (meant a p = (decide (p.nm = a.nm) && (fitsP a p.ver p.slot && (decide (a.fl = []) || p.fs.contains a.fl)))) := Lib.hid rfl
          have hml := meantTo_len (ps := ps) (a := a) j
          generalize meant a p = mm at Hyes Hno HM
          have g0 := hcell 0 (by omega); have g1 := hcell 1 (by omega); have g2 := hcell 2 (by omega); have g3 := hcell 3 (by omega); have g4 := hcell 4 (by omega); have g5 := hcell 5 (by omega); have g6 := hcell 6 (by omega); have g7 := hcell 7 (by omega); have g8 := hcell 8 (by omega); have g9 := hcell 9 (by omega); have g10 := hcell 10 (by omega); have g11 := hcell 11 (by omega); have g12 := hcell 12 (by omega); have g13 := hcell 13 (by omega)
          unfold pkRow ndRow at g0 g1 g2 g3 g4 g5 g6 g7 g8 g9 g10 g11 g12 g13
          simp only [List.getElem?_cons_zero, List.getElem?_cons_succ, Nat.add_zero] at g0 g1 g2 g3 g4 g5 g6 g7 g8 g9 g10 g11 g12 g13
          clear hcell hp
          have P1 := Lib.hid (Pb.new wr (pkRow p B m' c' (ndRow k f g no D q d)))
          have HFS := Lib.hid hP.fs
          have HPm := Lib.hid (Nat.le_trans hP.cap hP.max)
          have HSr : Hid (∀ x, S x → x < wr.heap.size) := Lib.hid fun x hx => Nat.lt_of_lt_of_le (HS.out x hx) XR.out.below.size
          clear hP
          have Hft := Lib.hid (fun wx => fits_any ⟨a.nm.toArray⟩ ⟨a.fl.toArray⟩ a.op a.ver a.slot p.ver p.slot a.on wx)
          rw [atOf_mk] at Hft
          unfold atv at Hft
          obtain ⟨nm, ver, slot, fs, nd⟩ := p
          unfold pkRow ndRow at P1
          dsimp only at g0 g1 g2 g3 g4 g5 g6 g7 g8 g9 g10 g11 g12 g13 P1 HFS Hft HM
          have a0 := XR.out.a.cell 0; have a1 := XR.out.a.cell 1; have a2 := XR.out.a.cell 2; have a3 := XR.out.a.cell 3; have a4 := XR.out.a.cell 4; have a5 := XR.out.a.cell 5
          simp only [List.getElem?_cons_zero, List.getElem?_cons_succ] at a0 a1 a2 a3 a4 a5
          have hlt := XR.out.a.lt
          generalize fitsP a ver slot = ft at Hft HM
          by_cases hn : nm = a.nm
          · subst hn
            have H1 : Hid (mm = (ft && (decide (a.fl = []) || fs.contains a.fl))) := Lib.hid (by rw [HM.out]; simp)
            clear HM
            cases ft
            · have HN := Lib.hid (Hno.out (by rw [H1.out]; rfl))
              go_wp2_with (first | (go_at_call 31; refine (Hft.out _).mono ?_; rintro e w4 ⟨rfl, hb4⟩; refine Hid.out ?_))
              refine Lib.hid ?_
              have HB4 := Lib.hid ((P1.out.move hb4).below)
              clear hb4
              go_wp2
              go_roundg (gk - 1)
              case measure => have := Hj.out; omega
              case rel => exact ⟨j + 1, Lib.hid (by have := Hj.out; omega), by go_num, Lib.hid (by rw [HN.out]; exact (Far.of_below (fun _ => False) HB4.out).own Hown.out fun _ _ h => h), Lib.hid (HB.out.trans (HB4.out.mono HB.out.size))⟩
            · by_cases hfl : a.fl = []
              · have HN := Lib.hid (Hyes.out (by rw [H1.out, decide_eq_true hfl]; rfl))
                have Hfl := Lib.hid hfl
                clear hfl
                go_wp2_with (first | (go_at_call 31; refine (Hft.out _).mono ?_; rintro e w4 ⟨rfl, hb4⟩; refine Hid.out ?_))
                refine Lib.hid ?_
                have P4 := Lib.hid (P1.out.move hb4)
                have X4 := Lib.hid (XR.out.move P4.out.below)
                clear hb4
                have HOW4 := Lib.hid ((Far.of_below (fun _ => False) P4.out.below).own Hown.out fun _ _ h => h)
                have b4 := X4.out.a.cell 4
                have p3 := P4.out.whole.cell 3
                simp only [List.getElem?_cons_zero, List.getElem?_cons_succ] at b4 p3
                rw [Hfl.out] at b4
                go_wp2_with (at_builtin; refine wpList_append_own _ rfl _ _ 27 rfl w2.heap.size 3 i0 (.int .i64 0) 1 8 Tryz.underlying27 hi hz0 hz1 hz2 rfl (by decide) _ _ _ rfl (HOW4.out.alloc _) ⟨w4.heap.size, 0, none⟩ 1 1 [.int .i64 (j : Int)] rfl rfl ?c1 ?c2 ?c3 ?c4 ?c5 ?_)
                case c1 => exact cell_one_new _ _ _
                case c2 => simp [Value.oneCell']
                case c3 => unfold maxLen; omega
                case c4 => omega
                case c5 => have := HB.out.size; have := P4.out.below.size; simp; omega
                intro lv' w6 hown6 hg6 _
                have HB4 := HB.out.trans (P4.out.below.mono HB.out.size)
                have hbel6 : Below w2.heap.size w2 w6 := (HB4.alloc HB4.size _).trans (below_of_grown hg6 (by have := HB4.size; simp; omega) (fun k e => (HOW4.out.lt k e).1))
                have hown7 : w6.ownsRow w2.heap.size 3 1 lv' (meantTo ps a (j + 1)).length ((meantTo ps a (j + 1)).map (Value.int .i64)) := by
                  rw [HN.out, List.length_append, List.map_append]; exact hown6
                have Hown7 := Lib.hid hown7; have Hbel6 := Lib.hid hbel6
                clear hown6 hg6 hown7 hbel6 HB4
                go_wp2_with fail
                go_roundg (gk - 1)
                case measure => have := Hj.out; omega
                case rel => exact ⟨j + 1, Lib.hid (by have := Hj.out; omega), by go_num, Hown7, Hbel6⟩
              · have hf1 : (a.fl == []) = false := by simpa using hfl
                have hf2 : a.fl.isEmpty = false := by simpa using hfl
                have Hfl := Lib.hid hfl
                clear hfl
                cases hq : fs.contains a.fl
                · have HN := Lib.hid (Hno.out (by rw [H1.out, decide_eq_false Hfl.out, hq]; rfl))
                  go_wp2_with (first | (go_at_call 31; refine (Hft.out _).mono ?_; rintro e w4 ⟨rfl, hb4⟩; refine Hid.out ?_))
                  refine Lib.hid ?_
                  have P4 := Lib.hid (P1.out.move hb4)
                  have X4 := Lib.hid (XR.out.move P4.out.below)
                  clear hb4
                  have HOW4 := Lib.hid ((Far.of_below (fun _ => False) P4.out.below).own Hown.out fun _ _ h => h)
                  have b4 := X4.out.a.cell 4
                  have p3 := P4.out.whole.cell 3
                  simp only [List.getElem?_cons_zero, List.getElem?_cons_succ] at b4 p3
                  have Hco := Lib.hid (containsS_any B m' c' fs a.fl w4 S (HFS.out.row.below P4.out.below HSr.out) HPm.out)
                  rw [hq] at Hco
                  go_wp2_with (first | (go_at_call 28; refine Hco.out.mono ?_; rintro e w5 ⟨rfl, hw5⟩; have hw6 := hw5.symm; subst hw6; refine Hid.out ?_))
                  refine Lib.hid ?_
                  go_wp2
                  go_roundg (gk - 1)
                  case measure => have := Hj.out; omega
                  case rel => exact ⟨j + 1, Lib.hid (by have := Hj.out; omega), by go_num, Lib.hid (by rw [HN.out]; exact HOW4.out), Lib.hid (HB.out.trans (P4.out.below.mono HB.out.size))⟩
                · have HN := Lib.hid (Hyes.out (by rw [H1.out, decide_eq_false Hfl.out, hq]; rfl))
                  go_wp2_with (first | (go_at_call 31; refine (Hft.out _).mono ?_; rintro e w4 ⟨rfl, hb4⟩; refine Hid.out ?_))
                  refine Lib.hid ?_
                  have P4 := Lib.hid (P1.out.move hb4)
                  have X4 := Lib.hid (XR.out.move P4.out.below)
                  clear hb4
                  have HOW4 := Lib.hid ((Far.of_below (fun _ => False) P4.out.below).own Hown.out fun _ _ h => h)
                  have b4 := X4.out.a.cell 4
                  have p3 := P4.out.whole.cell 3
                  simp only [List.getElem?_cons_zero, List.getElem?_cons_succ] at b4 p3
                  have Hco := Lib.hid (containsS_any B m' c' fs a.fl w4 S (HFS.out.row.below P4.out.below HSr.out) HPm.out)
                  rw [hq] at Hco
                  go_wp2_with (first | (go_at_call 28; refine Hco.out.mono ?_; rintro e w5 ⟨rfl, hw5⟩; have hw6 := hw5.symm; subst hw6; refine Hid.out ?_))
                  refine Lib.hid ?_
                  go_wp2_with (at_builtin; refine wpList_append_own _ rfl _ _ 27 rfl w2.heap.size 3 i0 (.int .i64 0) 1 8 Tryz.underlying27 hi hz0 hz1 hz2 rfl (by decide) _ _ _ rfl (HOW4.out.alloc _) ⟨w4.heap.size, 0, none⟩ 1 1 [.int .i64 (j : Int)] rfl rfl ?c1 ?c2 ?c3 ?c4 ?c5 ?_)
                  case c1 => exact cell_one_new _ _ _
                  case c2 => simp [Value.oneCell']
                  case c3 => unfold maxLen; omega
                  case c4 => omega
                  case c5 => have := HB.out.size; have := P4.out.below.size; simp; omega
                  intro lv' w6 hown6 hg6 _
                  have HB4 := HB.out.trans (P4.out.below.mono HB.out.size)
                  have hbel6 : Below w2.heap.size w2 w6 := (HB4.alloc HB4.size _).trans (below_of_grown hg6 (by have := HB4.size; simp; omega) (fun k e => (HOW4.out.lt k e).1))
                  have hown7 : w6.ownsRow w2.heap.size 3 1 lv' (meantTo ps a (j + 1)).length ((meantTo ps a (j + 1)).map (Value.int .i64)) := by
                    rw [HN.out, List.length_append, List.map_append]; exact hown6
                  have Hown7 := Lib.hid hown7; have Hbel6 := Lib.hid hbel6
                  clear hown6 hg6 hown7 hbel6 HB4
                  go_wp2_with fail
                  go_roundg (gk - 1)
                  case measure => have := Hj.out; omega
                  case rel => exact ⟨j + 1, Lib.hid (by have := Hj.out; omega), by go_num, Hown7, Hbel6⟩
          · have hn' : (nm == a.nm) = false := by simpa using hn
            have HN := Lib.hid (Hno.out (by rw [HM.out, decide_eq_false hn]; rfl))
            go_wp2
            go_roundg (gk - 1)
            case measure => have := Hj.out; omega
            case rel => exact ⟨j + 1, Lib.hid (by have := Hj.out; omega), by go_num, Lib.hid (by rw [HN.out]; exact Hown.out.alloc _), Lib.hid (HB.out.trans (P1.out.below.mono HB.out.size))⟩
        · have hjn : n = j := by have := Hj.out; omega
          subst hjn
          have HF := Lib.hid (MeansPost.ok (w := w) HE0.out X2.out.below.size (by rw [hl]; exact Hown.out) XR.out.below)
          go_wp2
          go_ret2
          exact HF.out
    · have HE1 : Hid (meansE ps a = y) := Lib.hid (by rw [HE.out]; simp)
      have y1 : (y != 0) = true := by simpa using y0
      go_enter Tryz.func6, Tryz.ntmps6
      go_wp2_with (first | (go_at_call 20; refine (Htc.out _ HT1.out HS1.out).mono ?_; rintro e w1 ⟨rfl, hb1⟩; refine Hid.out ?_))
      refine Lib.hid ?_
      have X1 := Lib.hid (X0.out.move hb1)
      clear hb1
      have a0 := X1.out.a.cell 0; have a1 := X1.out.a.cell 1; have a2 := X1.out.a.cell 2; have a3 := X1.out.a.cell 3; have a4 := X1.out.a.cell 4; have a5 := X1.out.a.cell 5
      simp only [List.getElem?_cons_zero, List.getElem?_cons_succ] at a0 a1 a2 a3 a4 a5
      have hlt := X1.out.a.lt
      go_wp2_with (first | (go_at_call 30; refine (Hac.out _).mono ?_; rintro e w2 ⟨rfl, hb2⟩; refine Hid.out ?_))
      refine Lib.hid ?_
      have X2 := Lib.hid (X1.out.move hb2)
      clear hb2
      go_wp2
      go_ret2
      exact MeansPost.err y0 HE1.out X2.out.below
  · have HE1 : Hid (meansE ps a = z) := Lib.hid (by rw [HE.out, if_pos z0])
    have z1 : (z != 0) = true := by simpa using z0
    go_enter Tryz.func6, Tryz.ntmps6
    go_wp2_with (first | (go_at_call 20; refine (Htc.out _ HT1.out HS1.out).mono ?_; rintro e w1 ⟨rfl, hb1⟩; refine Hid.out ?_))
    refine Lib.hid ?_
    have X1 := Lib.hid (X0.out.move hb1)
    clear hb1
    have a0 := X1.out.a.cell 0; have a1 := X1.out.a.cell 1; have a2 := X1.out.a.cell 2; have a3 := X1.out.a.cell 3; have a4 := X1.out.a.cell 4; have a5 := X1.out.a.cell 5
    simp only [List.getElem?_cons_zero, List.getElem?_cons_succ] at a0 a1 a2 a3 a4 a5
    have hlt := X1.out.a.lt
    go_wp2
    go_ret2
    exact MeansPost.err z0 HE1.out X1.out.below
end Go.Proofs.YthpkffeiehnamaaGreatDoor

/- What TreeMeans says, in plain words: no program in sight. -/
namespace Go.Proofs.YthpkffeiehnamaaGreatDoor
open Go.RowKit Qm

def isM (ps : List Pk) (a : At) (i : Nat) : Bool := match ps[i]? with | some p => meant a p | none => false
theorem meantTo_eq (ps : List Pk) (a : At) : ∀ j, meantTo ps a j = ((List.range j).filter (isM ps a)).map (fun (i : Nat) => (i : Int))
  | 0 => rfl
  | j + 1 => by
    rw [meantTo, meantTo_eq ps a j, List.range_succ, List.filter_append, List.map_append]
    congr 1
    rw [List.filter_cons, List.filter_nil]
    unfold isM
    cases ps[j]? with
    | none => rfl
    | some p =>
      dsimp only
      by_cases h : meant a p = true
      · rw [if_pos h, if_pos h]; rfl
      · rw [if_neg h, if_neg h]; rfl
/-- An atom of a name alone, or of a version's bound beside it. -/
def bare (nm : Qm.W) (op ver : Int) : At := ⟨nm, op, ver, 0, [], false⟩
theorem meant_bare (nm : Qm.W) (p : Pk) : meant (bare nm 0 0) p = decide (p.nm = nm) := by rw [Bool.eq_iff_iff]; simp [meant, bare, fitsP]; exact decide_eq_true_iff
theorem meant_least (nm : Qm.W) (v : Int) (p : Pk) : meant (bare nm 2 v) p = (decide (p.nm = nm) && decide (v ≤ p.ver)) := by rw [Bool.eq_iff_iff]; simp [meant, bare, fitsP]; exact and_congr decide_eq_true_iff decide_eq_true_iff
theorem meant_below (nm : Qm.W) (v : Int) (p : Pk) : meant (bare nm 3 v) p = (decide (p.nm = nm) && !decide (v ≤ p.ver)) := by
  rw [Bool.eq_iff_iff]; simp [meant, bare, fitsP]; exact and_congr decide_eq_true_iff decide_eq_true_iff
theorem isM_bare {ps : List Pk} {a : At} {i : Nat} (h : isM ps a i = true) : isM ps (bare a.nm 0 0) i = true := by
  unfold isM at h ⊢
  cases hp : ps[i]? with
  | none => rw [hp] at h; cases h
  | some p =>
    rw [hp] at h
    simp only [meant, Bool.and_eq_true] at h
    simp only [meant_bare]
    exact h.1
theorem meantTo_sub {ps : List Pk} {a : At} {j : Nat} : ∀ k ∈ meantTo ps a j, k ∈ meantTo ps (bare a.nm 0 0) j := by
  intro k hk
  rw [meantTo_eq] at hk ⊢
  obtain ⟨i, hi, rfl⟩ := List.mem_map.1 hk
  rw [List.mem_filter] at hi
  exact List.mem_map.2 ⟨i, List.mem_filter.2 ⟨hi.1, isM_bare hi.2⟩, rfl⟩
theorem meantTo_rises (ps : List Pk) (a : At) (j : Nat) : (meantTo ps a j).Pairwise (· ≤ ·) := by
  rw [meantTo_eq, List.pairwise_map]
  refine List.Pairwise.imp (R := (· < ·)) (fun h => by omega) ?_
  exact List.Pairwise.filter _ List.pairwise_lt_range
theorem meantTo_parts (ps : List Pk) (nm : Qm.W) (v : Int) (j : Nat) : (meantTo ps (bare nm 2 v) j ++ meantTo ps (bare nm 3 v) j).Perm (meantTo ps (bare nm 0 0) j) := by
  simp only [meantTo_eq, ← List.map_append]
  refine List.Perm.map _ ?_
  let q : Nat → Bool := fun i => match ps[i]? with | some p => decide (v ≤ p.ver) | none => false
  have h2 : isM ps (bare nm 2 v) = fun i => isM ps (bare nm 0 0) i && q i := by
    funext i
    show isM ps (bare nm 2 v) i = (isM ps (bare nm 0 0) i && q i)
    simp only [isM, q]
    cases ps[i]? with
    | none => rfl
    | some p => simp only [meant_least, meant_bare]
  have h3 : isM ps (bare nm 3 v) = fun i => isM ps (bare nm 0 0) i && !q i := by
    funext i
    show isM ps (bare nm 3 v) i = (isM ps (bare nm 0 0) i && !q i)
    simp only [isM, q]
    cases ps[i]? with
    | none => rfl
    | some p => simp only [meant_below, meant_bare]
  rw [h2, h3]
  have := List.filter_append_perm q ((List.range j).filter (isM ps (bare nm 0 0)))
  rw [List.filter_filter, List.filter_filter] at this
  simpa only [Bool.and_comm] using this
theorem sorted_eq : ∀ {xs ys : List Int}, xs.Perm ys → xs.Pairwise (· ≤ ·) → ys.Pairwise (· ≤ ·) → xs = ys := by
  intro xs ys hp hx hy
  exact List.Perm.eq_of_pairwise (le := (· ≤ ·)) (fun a b _ _ h1 h2 => by omega) hx hy hp
theorem meantTo_sorts (ps : List Pk) (nm : Qm.W) (v : Int) (j : Nat) : (meantTo ps (bare nm 2 v) j ++ meantTo ps (bare nm 3 v) j).mergeSort (fun x y => decide (x ≤ y)) = meantTo ps (bare nm 0 0) j := by
  refine sorted_eq ((List.mergeSort_perm _ _).trans (meantTo_parts ps nm v j)) ?_ (meantTo_rises ..)
  have := List.pairwise_mergeSort (le := fun (x y : Int) => decide (x ≤ y)) (fun a b c h1 h2 => by simp at *; omega) (fun a b => by simp; omega) (meantTo ps (bare nm 2 v) j ++ meantTo ps (bare nm 3 v) j)
  exact this.imp fun h => by simpa using h
end Go.Proofs.YthpkffeiehnamaaGreatDoor

/- Walks: slices.Equal. -/
namespace Go.Proofs.YthpkffeiehnamaaGreatDoor
open Go.RowKit

theorem take_eq_succ {α : Type} [DecidableEq α] {xs ys : List α} {k : Nat} (d : α) (h1 : k < xs.length) (h2 : k < ys.length) (h : xs.take k = ys.take k) (he : xs.getD k d = ys.getD k d) : xs.take (k+1) = ys.take (k+1) := by
  rw [List.take_succ_eq_append_getElem h1, List.take_succ_eq_append_getElem h2, h]
  simp [List.getD, h1, h2] at he
  rw [he]
theorem eq_of_take_all {α : Type} {xs ys : List α} {n : Nat} (h1 : xs.length = n) (h2 : ys.length = n) (h : xs.take n = ys.take n) : xs = ys := by
  rwa [List.take_of_length_le (by omega), List.take_of_length_le (by omega)] at h
theorem ne_of_getD {α : Type} {xs ys : List α} {k : Nat} (d : α) (h : xs.getD k d ≠ ys.getD k d) : xs ≠ ys := fun e => h (by rw [e])

set_option maxHeartbeats 400000 in
theorem equal_int (A A' : Option Addr) (n n' c c' : Nat) (xs ys : List Int) (w : World) (S : Nat → Prop) (hx : RInts w S A n xs) (hy : RInts w S A' n' ys) (hn : n ≤ maxLen) (hn' : n' ≤ maxLen) :
    Calls Tryz.prog 15 #[.slice A n c, .slice A' n' c'] w fun e w' => e = .returned (.bool (xs == ys)) ∧ ∃ nq, w' = w.drewN nq := by
  unfold maxLen at hn hn'
  have hl := Lib.hid hx.len
  have hl' := Lib.hid hy.len
  by_cases hne : n = n'
  · subst hne
    have h0 : ((n : Int) != (n : Int)) = false := by simp
    go_enter Tryz.func15, Tryz.ntmps15
    go_wp2
    go_loopw [13] (fun i wr => ∃ k : Nat, k ≤ n ∧ i = .int .i64 k ∧ Hid (xs.take k = ys.take k) ∧ ∃ nq, wr = w.drewN nq) (fun i _ => n - (intOf i).toNat)
    case atStart => exact ⟨0, Nat.zero_le _, rfl, by exact rfl, 0, rfl⟩
    case round =>
      obtain ⟨k, hk, rfl, Ht, nq, rfl⟩ := hrel
      by_cases hlt : k < n
      · obtain ⟨b, o, rfl, hb, hc⟩ := hx.at_ hlt
        obtain ⟨b', o', rfl, hb', hc'⟩ := hy.at_ hlt
        generalize hu : xs.getD k 0 = u at hc
        generalize hv : ys.getD k 0 = v at hc'
        have Hu := Lib.hid hu; clear hu
        have Hv := Lib.hid hv; clear hv
        by_cases huv : u = v
        · have h1 : (u != v) = false := by simpa using huv
          have Huv := Lib.hid huv; clear huv
          go_wp2
          go_quiet (fail)
          go_wp2
          go_roundw
          case rel => exact ⟨k + 1, by omega, by go_num, take_eq_succ 0 (by rw [hl.out]; exact hlt) (by rw [hl'.out]; exact hlt) Ht.out (by rw [Hu.out, Hv.out, Huv.out]), _, (by first | rfl | exact World.drewN_drewN _ _ _)⟩
          case measure => simp [intOf]; omega
        · have h1 : (u != v) = true := by simpa using huv
          go_wp2
          go_quiet (fail)
          go_wp2
          go_ret
          exact ⟨ret_bool (by symm; rw [beq_eq_false_iff_ne]; exact ne_of_getD 0 (by rw [Hu.out, Hv.out]; exact huv)), _, (by first | rfl | exact World.drewN_drewN _ _ _)⟩
      · have h1 : k = n := by omega
        subst h1
        go_wp2
        go_ret
        exact ⟨ret_bool (by symm; rw [beq_iff_eq]; exact eq_of_take_all hl.out hl'.out Ht.out), _, rfl⟩
  · have h0 : ((n : Int) != (n' : Int)) = true := by rw [bne_iff_ne]; omega
    go_enter Tryz.func15, Tryz.ntmps15
    go_wp2
    go_ret
    exact ⟨ret_bool (by symm; rw [beq_eq_false_iff_ne]; intro e; exact hne (by rw [← hl.out, ← hl'.out, e])), 0, rfl⟩
end Go.Proofs.YthpkffeiehnamaaGreatDoor

/- quartermasterlaw.forest, walked: it returns true. -/
namespace Go.Proofs.YthpkffeiehnamaaGreatDoor
open Go.RowKit Qm

theorem TParsePost.lit {w w' : World} {l : Qm.W} {e : Ending} (h : TParsePost w l e w') {ps : List Pk} {i : Nat} {z : Int} (hp : parseTree l = (ps, i, z)) :
    ∃ A c, e = .returned (.tuple #[.agg #[.slice A ps.length c], .int .i64 i, .int .i64 z]) ∧ RTree w' (fun i => w.heap.size ≤ i ∧ i < w'.heap.size) A ps.length ps ∧ ps.length ≤ c ∧ c ≤ maxLen ∧ Below w.heap.size w w' := by
  obtain ⟨A, n, c, rfl, hr, h1, h2, hb⟩ := h
  rw [hp] at hr ⊢
  have hl : ps.length = n := hr.len
  subst hl
  exact ⟨A, c, rfl, hr, h1, h2, hb⟩

def wordF1 : Qm.W := [97, 32, 49, 32, 49, 32, 120, 44, 121, 32, 120, 63, 32, 40, 32, 98, 32, 41, 10]
def wordF2 : Qm.W := [97, 32, 49, 32, 49, 32, 120, 44, 121, 32, 40, 32, 120, 63, 32, 40, 32, 98, 32, 41, 32, 41, 10, 98, 32, 50, 32, 49, 32, 32, 40, 32, 41, 10]
def pkFa : Pk := ⟨[97], 1, 1, [[120], [121]], .mk 3 At.zero [] false [.mk 5 At.zero [120] false [.mk 1 ⟨[98], 0, 0, 0, [], false⟩ [] false []]]⟩
def pkFb : Pk := ⟨[98], 2, 1, [], .mk 3 At.zero [] false []⟩
theorem parse_F1 : parseTree wordF1 = ([], 0, 4) := by kernel_rfl
theorem parse_F2 : parseTree wordF2 = ([pkFa, pkFb], 0, 0) := by kernel_rfl
theorem means_Fl : meansL [pkFa, pkFb] ⟨[97], 0, 0, 0, [121], false⟩ = [0] := by decide +kernel
theorem means_Fe : meansE [pkFa, pkFb] ⟨[97], 0, 0, 0, [121], false⟩ = 0 := by decide +kernel
set_option maxRecDepth 100000 in
set_option maxHeartbeats 3200000 in
theorem forest_any (w : World) (hL : LaidV w) (hM : MaxW w) :
    Calls Tryz.prog 7 #[] w fun e w' => e = .returned (.bool true) ∧ Below w.heap.size w w' := by
  have HLV := Lib.hid hL; have HMV := Lib.hid hM; clear hL hM
  have hp1 := fun wx h1 h2 => (tparse_any wordF1 wx (by decide) h1 h2).mono fun e w' h => h.lit parse_F1
  have hp2 := fun wx h1 h2 => (tparse_any wordF2 wx (by decide) h1 h2).mono fun e w' h => h.lit parse_F2
  have hme := fun S A c wx h1 h2 h3 h4 => means_any [pkFa, pkFb] ⟨[97], 0, 0, 0, [121], false⟩ S A 2 c wx h1 h2 h3 (by decide) (by decide) h4
  unfold MeansPost at hme
  rw [means_Fl, means_Fe] at hme
  simp only [List.length_cons, List.length_nil] at hp1 hp2 hme
  unfold wordF1 at hp1
  unfold wordF2 at hp2
  have Hp1 := Lib.hid hp1; have Hp2 := Lib.hid hp2; have Hme := Lib.hid hme
  clear hp1 hp2 hme
  go_enter Tryz.func7, Tryz.ntmps7
  go_wp2_with (first | (go_at_call 17; refine (Hp1.out _ HLV.out HMV.out).mono ?_; rintro e w1 ⟨A1, c1, rfl, -, -, -, hb1⟩; refine Hid.out ?_))
  refine Lib.hid ?_
  have HB2 := Lib.hid (hb1.alloc hb1.size (.cells #[.slice A1 0 c1] 24))
  clear hb1
  go_wp2_with (first | (go_at_call 17; refine (Hp2.out _ (HLV.out.below HB2.out) (HMV.out.below HB2.out)).mono ?_; rintro e w3 ⟨A, c, rfl, hT, hc1, hc2, hb3⟩; refine Hid.out ?_))
  refine Lib.hid ?_
  have hal : Below w3.heap.size w3 (w3.alloc (.cells #[.slice A 2 c] 24)) := (Below.refl _ _).alloc (Nat.le_refl _) _
  have HB3 := Lib.hid (HB2.out.trans (hb3.mono HB2.out.size))
  have HT4 := Lib.hid ((hT.under hal fun i hi => hi.2).more (S' := fun i => i < w3.heap.size) fun i hi => hi.2)
  have HW4 := Lib.hid (Whole.new w3 _ 24 [.slice A 2 c] rfl)
  have HB4 := Lib.hid (HB3.out.trans (hal.mono HB3.out.size))
  clear hb3 hT hal
  have hlt3 : w3.heap.size < (w3.alloc (.cells #[.slice A 2 c] 24)).heap.size := HW4.out.lt
  go_wp2_with (first | (go_at_call 6; refine (Hme.out (fun i => i < w3.heap.size) _ _ _ HT4.out hc1 hc2 (fun k hk => Nat.lt_trans hk hlt3)).mono ?_; rintro e w5 ⟨Al, cl, rfl, hl, hl1, hl2, hb5⟩; refine Hid.out ?_))
  refine Lib.hid ?_
  have HB5 := Lib.hid (HB4.out.trans (hb5.mono HB4.out.size))
  have t0 := (HW4.out.below hb5 HW4.out.lt).cell 0
  simp only [List.getElem?_cons_zero] at t0
  have tlt := (HW4.out.below hb5 HW4.out.lt).lt
  obtain ⟨b, o, p, B, m, c', k, a, f, no, D, q, d, rfl, hbS, hp, hP, hcell⟩ := (HT4.out.under hb5 (fun i hi => Nat.lt_trans hi hlt3)).at_ (j := 1) (by decide)
  simp only [List.getElem?_cons_succ, List.getElem?_cons_zero, Option.some.injEq] at hp
  have hm : m = 0 := by have := hP.fs.len; rw [← hp] at this; simpa [pkFb] using this.symm
  subst hm
  have g3 := hcell 3 (by omega)
  have g17 : w5.cell? ⟨b, o + 17, none⟩ = some (.slice B 0 c') := g3
  have hbl : b < w5.heap.size := Nat.lt_trans hbS tlt
  clear g3 hcell hp hP hlt3
  have hal : Below w5.heap.size w5 (w5.alloc (.cells #[.int .i64 0] 3)) := (Below.refl _ _).alloc (Nat.le_refl _) _
  have heq := equal_int Al (some ⟨w5.heap.size, 0, none⟩) 1 1 cl 1 [0] [0] (w5.alloc (.cells #[.int .i64 0] 3)) (fun q => q < (w5.alloc (.cells #[.int .i64 0] 3)).heap.size) ((hl.below hal fun k hk => hk.2).more fun k hk => Nat.lt_of_lt_of_le hk.2 hal.size) ((Whole.new w5 w5.heap.size 3 [.int .i64 0] rfl).ints (xs := [0]) (by simp) rfl) (by omega) (by decide)
  have Heq := Lib.hid heq
  clear heq hal hl hb5
  go_wp2_with (first | (go_at_call 15; refine Heq.out.mono ?_; rintro e w7 ⟨rfl, q7, rfl⟩; refine Hid.out ?_))
  refine Lib.hid ?_
  go_wp2
  go_ret
  exact ⟨rfl, below_drewN (HB5.out.alloc HB5.out.size _) _⟩
end Go.Proofs.YthpkffeiehnamaaGreatDoor

/- strings.Builder.WriteString, String off the shelf (their layings: those of strings.Join, String). (Of the shelf: Tryz.lays169 Tryz.Builder_Extra_169) -/
namespace Go.Proofs.YthpkffeiehnamaaGreatDoor
open Go.RowKit Go.Shelf

theorem lays166 : Lays.n166 Tryz.prog Tryz.lays156_ren := { Tryz.lays156 with }
theorem writeString_any (B b : Nat) (bs : List Value) (s : ByteArray) (w : World) (h : Lib.IsBuilderF 74 5 B b bs w) (hlen : bs.length + s.size ≤ 140737488355328) (hBw : B ≤ w.heap.size) :
    Calls Tryz.prog 39 #[.pointer (some ⟨b, 0, none⟩), .string s] w fun e w' => e = .returned (.tuple #[.int .i64 s.size, .nilIface]) ∧ (Lib.BuilderAtF 74 5 B b (.pointer (some ⟨b, 0, none⟩)) (bs ++ Lib.strCells s) w' ∧ Below B w w' ∧ Lib.OthersKept 5 (some b) w w') :=
  Any.Builder_WriteString_k lays166 Tryz.Builder_Extra_156 B b bs s w h hlen hBw
theorem builderString_any (B b : Nat) (l : List UInt8) (w : World) (h : Lib.IsBuilderF 74 5 B b (Lib.byteCells l) w) (hBw : B ≤ w.heap.size) :
    Calls Tryz.prog 42 #[.pointer (some ⟨b, 0, none⟩)] w fun e w' => e = .returned (.string ⟨l.toArray⟩) ∧ Below B w w' :=
  (Any.Builder_String_any_f Tryz.lays169 Tryz.Builder_Extra_169 B b l w h hBw).mono fun _ _ ⟨h1, _, h2⟩ => ⟨h1, h2⟩
end Go.Proofs.YthpkffeiehnamaaGreatDoor

/- tree.Print, walked. (Of the shelf: Tryz.strings_Join_none Tryz.strings_Join) -/
namespace Go.Proofs.YthpkffeiehnamaaGreatDoor
open Go.RowKit Qm

theorem itoa_any (v : Int) (w : World) (h0 : -9223372036854775808 ≤ v) (h1 : v ≤ 9223372036854775807) (hL : LaidV w) :
    Calls Tryz.prog 40 #[.int .i64 v] w fun e w' => e = .returned (.string ⟨(Lib.itoa v).toArray⟩) ∧ Below w.heap.size w w' := by
  obtain ⟨_, _, h3⟩ := hL
  refine (Tryz.strconv_Itoa v h0 h1 w h3).mono ?_
  rintro e w2 ⟨rfl, k, os, rfl⟩
  exact ⟨rfl, Lib.below_grow _ _ (Nat.le_refl _) _ _⟩
theorem joinW_any (A : Option Addr) (n c : Nat) (ws : List Qm.W) (w : World) (S : Nat → Prop) (hr : Row w S A n (strs ws)) (hS : ∀ k, S k → k < w.heap.size) (hc : n ≤ c) (d : UInt8) (hlen : fullLen ws ≤ 1000000) :
    Calls Tryz.prog 41 #[.slice A n c, .string ⟨#[d]⟩] w fun e w' => e = .returned (.string ⟨(joinB d ws).toArray⟩) ∧ Below w.heap.size w w' := by
  have hl : ws.length = n := by have := hr.len; simpa [strs] using this
  subst hl
  by_cases h0 : ws = []
  · subst h0
    refine (Tryz.strings_Join_none A c ⟨#[d]⟩ w).mono ?_
    rintro e w' ⟨rfl, rfl⟩
    exact ⟨rfl, Below.refl _ _⟩
  · have hp : 0 < ws.length := List.length_pos_iff.2 h0
    obtain ⟨b, o, rfl, _⟩ := hr.some_lit hp
    exact join_any b o c ws w S hr hS hp hc d hlen
theorem builder_move {T e : TypeId} {B b : Nat} {bs : List Value} {w w' : World} (h : Lib.IsBuilderF T e B b bs w) (hb : Below w.heap.size w w') : Lib.IsBuilderF T e B b bs w' := by
  have key : ∀ {p : Value}, Lib.BuilderAtF T e B b p bs w → Lib.BuilderAtF T e B b p bs w' := by
    rintro p ⟨h1, v, h2, h3, h4⟩
    have hlt : b < w.heap.size := (Array.getElem?_eq_some_iff.1 h2).1
    refine ⟨h1, v, (hb.block b hlt).trans h2, h3.kept (grown_of_below hb none) ?_, h4⟩
    cases v.ownBlock
    · exact .inl rfl
    · exact .inr (by simp)
  rcases h with h | h
  · exact .inl (key h)
  · exact .inr (key h)
theorem builder_new (w : World) : Lib.IsBuilderF 74 5 w.heap.size w.heap.size (Lib.byteCells []) (w.alloc (.cells #[.pointer none, .slice none 0 0] 74)) :=
  .inl ⟨Nat.le_refl _, .slice none 0 0, heap_alloc_new w _, World.ownsRowF_nil _ _ _ _, by intro h; cases h⟩
theorem others_whole {w w' : World} {b k : Nat} {t : TypeId} {vs : List Value} (h : Lib.OthersKept 5 (some b) w w') (hw : Whole w k t vs) (hk : k ≠ b) (ht : t ≠ 5) : Whole w' k t vs :=
  h k _ hw (by intro e; injection e with e; exact hk e) (by intro c fz e; injection e with _ e _; exact ht e)
theorem take_snocT {ks : List Pk} {j : Nat} {y : Pk} (h : ks[j]? = some y) : ks.take (j + 1) = ks.take j ++ [y] := by
  obtain ⟨hj, rfl⟩ := List.getElem?_eq_some_iff.1 h
  rw [List.take_succ_eq_append_getElem hj]
theorem treeText_snoc : ∀ (ps : List Pk) (p : Pk), treeText (ps ++ [p]) = treeText ps ++ (pkLine p ++ [10])
  | [], p => by simp [treeText]
  | q :: r, p => by simp [treeText, treeText_snoc r p]
theorem pkLine_len {p : Pk} (h : PkOk p) : (pkLine p).length ≤ 5000 := by
  have h1 := (isName_len h.nm).2
  have h2 := (itoa_len (n := p.ver) (by have := h.ver; omega) (by have := h.ver; omega)).2
  have h3 := (itoa_len (n := p.slot) (by have := h.slot; omega) (by have := h.slot; omega)).2
  have h4 := ndText_len h.nd
  have h5 : (joinB 44 p.fs).length ≤ 18 := by
    have hn := ckFlags_names h.fs
    have hl := h.len
    match hp : p.fs with
    | [] => simp [joinB]
    | [f] => rw [hp] at hn; have := (isName_len (hn f (by simp))).2; simp [joinB]; omega
    | [f, g] => rw [hp] at hn; have := (isName_len (hn f (by simp))).2; have := (isName_len (hn g (by simp))).2; simp [joinB]; omega
    | f :: g :: x :: r => rw [hp] at hl; simp at hl
  unfold pkLine
  simp only [List.length_append, List.length_cons]; omega
theorem treeText_len {ps : List Pk} (h : ∀ p ∈ ps, PkOk p) : (treeText ps).length ≤ 5001 * ps.length := by
  induction ps with
  | nil => simp [treeText]
  | cons p r ih =>
    have := pkLine_len (h p (List.mem_cons_self ..))
    have := ih fun q hq => h q (List.mem_cons_of_mem _ hq)
    simp only [treeText, List.length_append, List.length_cons]; omega
theorem fullLen_fs {fs : List Qm.W} (h : ∀ f ∈ fs, isName f = true) (hl : fs.length ≤ 2) : fullLen fs ≤ 1000000 := by
  match fs, hl with
  | [], _ => simp [fullLen]
  | [f], _ => have := (isName_len (h f (by simp))).2; simp [fullLen]; omega
  | [f, g], _ => have := (isName_len (h f (by simp))).2; have := (isName_len (h g (by simp))).2; simp [fullLen]; omega
theorem sadd (a b : Qm.W) (h : a.length + b.length ≤ 1000000) (wx : World) : (Op.stringOp .add ⟨a.toArray⟩ ⟨b.toArray⟩).run Tryz.prog wx = .ok (.string ⟨(a ++ b).toArray⟩) wx := by
  rw [run_string_add_sum wx _ _ (by rw [bsz, bsz]; omega)]
  exact congrArg (fun z => Result.ok (Value.string z) wx) (bapp a b)
def printT (ps : List Pk) : Qm.W := if ckTree ps = 0 then treeText ps else []
/-- The tree's box, and the builder with what is written. -/
structure Pt (w : World) (A : Option Addr) (n c : Nat) (B : Nat) (l : Qm.W) (wr : World) : Prop where
  x : Tx w A n c wr
  b : Lib.IsBuilderF 74 5 B B (Lib.byteCells l) wr
  lt : w.heap.size < B
theorem Pt.move {w : World} {A : Option Addr} {n c B : Nat} {l : Qm.W} {wx wy : World} (h : Pt w A n c B l wx) (hb : Below wx.heap.size wx wy) : Pt w A n c B l wy := ⟨h.x.move hb, builder_move h.b hb, h.lt⟩
theorem Pt.ltB {w : World} {A : Option Addr} {n c B : Nat} {l : Qm.W} {wx : World} (h : Pt w A n c B l wx) : B < wx.heap.size := by
  rcases h.b with h | h <;> exact h.lt

set_option maxRecDepth 100000 in
set_option maxHeartbeats 6400000 in
theorem tprint_any (ps : List Pk) (S : Nat → Prop) (A : Option Addr) (n c : Nat) (w : World) (hT : RTree w S A n ps) (hnc : n ≤ c) (hc : c ≤ maxLen) (hS : ∀ k, S k → k < w.heap.size) (hL : LaidV w) :
    Calls Tryz.prog 16 #[.agg #[.slice A n c]] w fun e w' => e = .returned (.tuple #[.string ⟨(printT ps).toArray⟩, .int .i64 (ckTree ps)]) ∧ Below w.heap.size w w' := by
  have hl := hT.len
  have HLV := Lib.hid hL; clear hL
  have X0 := Lib.hid (Tx.new w A n c)
  have HT := Lib.hid hT; have HS := Lib.hid hS; clear hT hS
  have Hck := Lib.hid (tCheck_any ps S A n c _ (HT.out.under X0.out.below HS.out) hnc hc (fun k hk => Nat.lt_of_lt_of_le (HS.out k hk) X0.out.below.size))
  have HP : Hid (printT ps = if ckTree ps = 0 then treeText ps else []) := Lib.hid rfl
  generalize printT ps = P at HP ⊢
  generalize hz : ckTree ps = z at Hck HP ⊢
  have HZ := Lib.hid hz; clear hz
  unfold maxLen at hc
  by_cases z0 : z = 0
  · subst z0
    have HP1 : Hid (P = treeText ps) := Lib.hid (by rw [HP.out, if_pos rfl])
    have HOK : Hid (∀ p ∈ ps, PkOk p) := Lib.hid fun p hp => pkOk (ckTree_mem HZ.out p hp)
    have hn8 : n ≤ 8 := by rw [← hl]; exact ckTree_len HZ.out
    clear HP
    go_enter Tryz.func16, Tryz.ntmps16
    go_wp2_with (first | (go_at_call 20; refine Hck.out.mono ?_; rintro e w2 ⟨rfl, hb2⟩; refine Hid.out ?_))
    refine Lib.hid ?_
    have X2 := Lib.hid (X0.out.move hb2)
    have hal : Below w2.heap.size w2 (w2.alloc (.cells #[.pointer none, .slice none 0 0] 74)) := (Below.refl _ _).alloc (Nat.le_refl _) _
    have P3 : Hid (Pt w A n c w2.heap.size [] (w2.alloc (.cells #[.pointer none, .slice none 0 0] 74))) := Lib.hid ⟨X2.out.move hal, builder_new w2, X2.out.whole.lt⟩
    clear hb2 hal X0 Hck
    have t0 := X2.out.whole.cell 0
    simp only [List.getElem?_cons_zero] at t0
    have tlt := X2.out.whole.lt
    go_wp2_with fail
    clear t0 tlt X2
    generalize w2.heap.size = B at P3 ⊢
    go_loopg [18] n (fun g iv wr => ∃ j : Nat, Hid (j + g = n) ∧ iv = .int .i64 j ∧ Hid (Pt w A n c B (treeText (ps.take j)) wr))
    case atStart => exact ⟨0, Lib.hid (Nat.zero_add _), rfl, P3⟩
    case round =>
      obtain ⟨j, Hj, rfl, PR⟩ := hrel
      clear P3
      by_cases hj : j < n
      · obtain ⟨b, o, p, D, m, c', k, a, f, no, E, q, d, rfl, hbS, hp, hPk, hcell⟩ := (HT.out.under PR.out.x.below HS.out).at_ hj
        have HTX : Hid (treeText (ps.take (j + 1)) = treeText (ps.take j) ++ (pkLine p ++ [10])) := Lib.hid (by rw [take_snocT hp, treeText_snoc])
        have hok := HOK.out p (List.mem_of_getElem? hp)
        have HLN : Hid ((treeText (ps.take j)).length ≤ 50000 ∧ (pkLine p).length ≤ 5000) := Lib.hid ⟨by
          have := treeText_len (ps := ps.take j) fun x hx => HOK.out x (List.mem_of_mem_take hx)
          have h2 : (ps.take j).length ≤ 8 := by rw [List.length_take]; omega
          omega, pkLine_len hok⟩
        have HPL : Hid (pkLine p = p.nm ++ (32 :: Lib.itoa p.ver ++ (32 :: Lib.itoa p.slot ++ (32 :: joinB 44 p.fs ++ (32 :: ndText p.nd))))) := Lib.hid rfl
        have g0 := hcell 0 (by omega); have g1 := hcell 1 (by omega); have g2 := hcell 2 (by omega); have g3 := hcell 3 (by omega); have g4 := hcell 4 (by omega); have g5 := hcell 5 (by omega); have g6 := hcell 6 (by omega); have g7 := hcell 7 (by omega); have g8 := hcell 8 (by omega); have g9 := hcell 9 (by omega); have g10 := hcell 10 (by omega); have g11 := hcell 11 (by omega); have g12 := hcell 12 (by omega); have g13 := hcell 13 (by omega)
        unfold pkRow ndRow at g0 g1 g2 g3 g4 g5 g6 g7 g8 g9 g10 g11 g12 g13
        simp only [List.getElem?_cons_zero, List.getElem?_cons_succ, Nat.add_zero] at g0 g1 g2 g3 g4 g5 g6 g7 g8 g9 g10 g11 g12 g13
        clear hcell hp
        have B1 := Lib.hid (Pb.new wr (pkRow p D m c' (ndRow k a f no E q d)))
        have hSr : ∀ x, S x → x < wr.heap.size := fun x hx => Nat.lt_of_lt_of_le (HS.out x hx) PR.out.x.below.size
        have hnd := hPk.nd
        have hpr := nprint_any p.nd S (ndRow k a f no E q d) _ (hnd.under B1.out.below hSr) (fun x hx => Nat.lt_of_lt_of_le (hSr x hx) B1.out.below.size)
        rw [hok.nd, show printNd p.nd = ndText p.nd by unfold printNd; rw [if_pos hok.nd]] at hpr
        have HFS := Lib.hid (hPk.fs)
        have hcap := hPk.cap
        have hmax := hPk.max
        have HFL := Lib.hid (fullLen_fs (ckFlags_names hok.fs) hok.len)
        have hv := hok.ver; have hsl := hok.slot
        obtain ⟨nm, ver, slot, fs, nd⟩ := p
        dsimp only at g0 g1 g2 g3 hpr HFS HPL HFL hv hsl
        have P4 := Lib.hid (PR.out.move B1.out.below)
        unfold pkRow ndRow at B1 P4
        unfold pkRow ndRow at hpr
        dsimp only at B1 P4 hpr
        have Hpr := Lib.hid hpr
        have HSR := Lib.hid hSr
        clear hpr hSr hnd hPk hok
        generalize pkLine ⟨nm, ver, slot, fs, nd⟩ = ln at HTX HLN HPL
        generalize ndText nd = tn at Hpr HPL
        have Hi1 := Lib.hid (fun wx h => itoa_any ver wx (by omega) (by omega) h)
        have Hi2 := Lib.hid (fun wx h => itoa_any slot wx (by omega) (by omega) h)
        have Hjo := Lib.hid (fun wx h1 h2 => joinW_any D m c' fs wx S h1 h2 hcap 44 HFL.out)
        have t0 := PR.out.x.whole.cell 0
        simp only [List.getElem?_cons_zero] at t0
        have tlt := PR.out.x.whole.lt
        have hbl : b < wr.heap.size := HSR.out b hbS
        unfold maxLen at hmax
        go_wp2_with (first | (go_at_call 38; refine Hpr.out.mono ?_; rintro e w5 ⟨rfl, hb5⟩; refine Hid.out ?_))
        refine Lib.hid ?_
        have P5 := Lib.hid (P4.out.move hb5)
        have B5 := Lib.hid (B1.out.move hb5)
        have HFS5 := Lib.hid (HFS.out.row.below B5.out.below HSR.out)
        have HSZ5 := Lib.hid B5.out.below.size
        clear hb5 t0 tlt g0 g1 g2 g3 g4 g5 g6 g7 g8 g9 g10 g11 g12 g13 P4 B1 Hpr
        have p0 := B5.out.whole.cell 0; have p1 := B5.out.whole.cell 1; have p2 := B5.out.whole.cell 2; have p3 := B5.out.whole.cell 3
        simp only [List.getElem?_cons_zero, List.getElem?_cons_succ] at p0 p1 p2 p3
        have plt := B5.out.whole.lt
        have hsum : nm.length + (Lib.itoa ver).length + (Lib.itoa slot).length + (joinB 44 fs).length + tn.length + 4 = ln.length := by rw [HPL.out]; simp; omega
        have hl1 := HLN.out.1
        have hl2 := HLN.out.2
        have HLE : Hid (nm ++ [32] ++ Lib.itoa ver ++ [32] ++ Lib.itoa slot ++ [32] ++ joinB 44 fs ++ [32] ++ tn ++ [10] = ln ++ [10]) := Lib.hid (by rw [HPL.out]; simp)
        generalize joinB 44 fs = J at *
        have a1 := fun wx => sadd nm [32] (by simp; omega) wx
        have a2 := fun wx => sadd (nm ++ [32]) (Lib.itoa ver) (by simp; omega) wx
        have a3 := fun wx => sadd (nm ++ [32] ++ Lib.itoa ver) [32] (by simp; omega) wx
        have a4 := fun wx => sadd (nm ++ [32] ++ Lib.itoa ver ++ [32]) (Lib.itoa slot) (by simp; omega) wx
        have a5 := fun wx => sadd (nm ++ [32] ++ Lib.itoa ver ++ [32] ++ Lib.itoa slot) [32] (by simp; omega) wx
        have a6 := fun wx => sadd (nm ++ [32] ++ Lib.itoa ver ++ [32] ++ Lib.itoa slot ++ [32]) J (by simp; omega) wx
        have a7 := fun wx => sadd (nm ++ [32] ++ Lib.itoa ver ++ [32] ++ Lib.itoa slot ++ [32] ++ J) [32] (by simp; omega) wx
        have a8 := fun wx => sadd (nm ++ [32] ++ Lib.itoa ver ++ [32] ++ Lib.itoa slot ++ [32] ++ J ++ [32]) tn (by simp; omega) wx
        have a9 := fun wx => sadd (nm ++ [32] ++ Lib.itoa ver ++ [32] ++ Lib.itoa slot ++ [32] ++ J ++ [32] ++ tn) [10] (by simp; omega) wx
        rw [HLE.out] at a9
        generalize nm ++ [32] ++ Lib.itoa ver ++ [32] ++ Lib.itoa slot ++ [32] ++ J ++ [32] ++ tn = L8 at a8 a9
        generalize nm ++ [32] ++ Lib.itoa ver ++ [32] ++ Lib.itoa slot ++ [32] ++ J ++ [32] = L7 at a7 a8
        generalize nm ++ [32] ++ Lib.itoa ver ++ [32] ++ Lib.itoa slot ++ [32] ++ J = L6 at a6 a7
        generalize nm ++ [32] ++ Lib.itoa ver ++ [32] ++ Lib.itoa slot ++ [32] = L5 at a5 a6
        generalize nm ++ [32] ++ Lib.itoa ver ++ [32] ++ Lib.itoa slot = L4 at a4 a5
        generalize nm ++ [32] ++ Lib.itoa ver ++ [32] = L3 at a3 a4
        generalize nm ++ [32] ++ Lib.itoa ver = L2 at a2 a3
        generalize nm ++ [32] = L1 at a1 a2
        have hlnl : (ln ++ [10]).length ≤ 5001 := by simp; omega
        generalize ln ++ [10] = L9 at *
        rw [show ([32] : Qm.W).toArray = #[32] from rfl] at a1 a3 a5 a7
        rw [show ([10] : Qm.W).toArray = #[10] from rfl] at a9
        go_wp2_with fail
        go_region_held3 (fun w' => w'.cell? ⟨wr.heap.size, 0, none⟩ = some (.string ⟨nm.toArray⟩) ∧ w'.cell? ⟨wr.heap.size, 1, none⟩ = some (.int .i64 ver) ∧ w'.cell? ⟨wr.heap.size, 2, none⟩ = some (.int .i64 slot) ∧ w'.cell? ⟨wr.heap.size, 3, none⟩ = some (.slice D m c'))
          (first | go_keep | exact ⟨p0, p1, p2, p3⟩)
          (first
            | (go_at_call 40
               refine (itoa_any _ _ (by omega) (by omega) (by first | exact HLV.out.below P5.out.x.below | exact HLV.out.below (below_drewN P5.out.x.below 1))).mono ?_
               rintro e wn ⟨rfl, hb⟩
               (first | replace P5 := Lib.hid (P5.out.move hb) | replace P5 := Lib.hid (P5.out.move ((below_drewN (Below.refl _ _) _).trans hb)))
               (first | replace B5 := Lib.hid (B5.out.move hb) | replace B5 := Lib.hid (B5.out.move ((below_drewN (Below.refl _ _) _).trans hb)))
               clear hb p0 p1 p2 p3 plt
               have p0 := B5.out.whole.cell 0; have p1 := B5.out.whole.cell 1; have p2 := B5.out.whole.cell 2; have p3 := B5.out.whole.cell 3
               simp only [List.getElem?_cons_zero, List.getElem?_cons_succ] at p0 p1 p2 p3
               have plt := B5.out.whole.lt
               )
            | (go_at_call 41
               refine (Hjo.out _ (HFS.out.row.below B5.out.below HSR.out) (fun k hk => Nat.lt_of_lt_of_le (HSR.out k hk) B5.out.below.size)).mono ?_
               rintro e wn ⟨rfl, hb⟩
               (first | replace P5 := Lib.hid (P5.out.move hb) | replace P5 := Lib.hid (P5.out.move ((below_drewN (Below.refl _ _) _).trans hb)))
               (first | replace B5 := Lib.hid (B5.out.move hb) | replace B5 := Lib.hid (B5.out.move ((below_drewN (Below.refl _ _) _).trans hb)))
               clear hb p0 p1 p2 p3 plt
               have p0 := B5.out.whole.cell 0; have p1 := B5.out.whole.cell 1; have p2 := B5.out.whole.cell 2; have p3 := B5.out.whole.cell 3
               simp only [List.getElem?_cons_zero, List.getElem?_cons_succ] at p0 p1 p2 p3
               have plt := B5.out.whole.lt
               )
            | (go_at_call 39
               refine (writeString_any B B _ _ _ P5.out.b (by rw [Lib.byteCells_length, bsz]; omega) (Nat.le_of_lt P5.out.ltB)).mono ?_
               rintro e wn ⟨rfl, hbd, hbB, hok⟩
               have hwp := others_whole hok B5.out.whole (by have := P5.out.ltB; have := PR.out.ltB; omega) (by decide)
               clear p0 p1 p2 p3 plt
               have p0 := hwp.cell 0; have p1 := hwp.cell 1; have p2 := hwp.cell 2; have p3 := hwp.cell 3
               simp only [List.getElem?_cons_zero, List.getElem?_cons_succ] at p0 p1 p2 p3)
            | fail)
        have P6 : Hid (Pt w (some ⟨b, o, none⟩) n c B (treeText (ps.take (j + 1))) wn) := Lib.hid (by
          refine ⟨⟨P5.out.x.below.trans (hbB.mono (Nat.le_of_lt PR.out.lt)), others_whole hok P5.out.x.whole (by have := PR.out.lt; omega) (by decide)⟩, .inr ?_, PR.out.lt⟩
          rw [HTX.out]
          have e : Lib.byteCells (treeText (ps.take j)) ++ Lib.strCells ⟨L9.toArray⟩ = Lib.byteCells (treeText (ps.take j) ++ L9) := by
            rw [Lib.strCells_toArray]; simp [Lib.byteCells]
          rw [← e]; exact hbd)
        clear hbd hbB hok P5 B5 p0 p1 p2 p3 hwp a1 a2 a3 a4 a5 a6 a7 a8 a9
        go_wp2
        go_roundg (gk - 1)
        case measure => have := Hj.out; omega
        case rel => exact ⟨j + 1, Lib.hid (by have := Hj.out; omega), by go_num, P6⟩
      · obtain rfl : n = j := by have := Hj.out; omega
        have HF : Hid (P = treeText (ps.take n)) := Lib.hid (by rw [HP1.out, List.take_of_length_le (by omega)])
        have hst := builderString_any B B (treeText (ps.take n)) wr PR.out.b (Nat.le_of_lt PR.out.ltB)
        rw [← HF.out] at hst
        have Hst := Lib.hid hst; clear hst
        go_wp2_with (first | (go_at_call 42; refine Hst.out.mono ?_; rintro e w3 ⟨rfl, hb3⟩; refine Hid.out ?_))
        refine Lib.hid ?_
        go_wp2
        go_ret2
        exact ⟨rfl, PR.out.x.below.trans (hb3.mono (Nat.le_of_lt PR.out.lt))⟩
  · have z1 : (z != 0) = true := by simpa using z0
    have HP1 : Hid (P = []) := Lib.hid (by rw [HP.out, if_neg z0])
    go_enter Tryz.func16, Tryz.ntmps16
    go_wp2_with (first | (go_at_call 20; refine Hck.out.mono ?_; rintro e w2 ⟨rfl, hb2⟩; refine Hid.out ?_))
    refine Lib.hid ?_
    have X2 := Lib.hid (X0.out.move hb2)
    clear hb2
    go_wp2
    go_ret2
    rw [HP1.out]
    exact ⟨rfl, X2.out.below⟩
end Go.Proofs.YthpkffeiehnamaaGreatDoor

/- Arguments that can be read as data, opened: atoms, strings; what the listed variables hold. -/
namespace Go.Proofs.YthpkffeiehnamaaGreatDoor
open Go.ChangeShapes Go.WideShapes Go.ChangeAt Go.RowKit Qm

section
variable {H : Type} {enc : TypeId × Value → H} {w : World} {base : Nat} {sp : Nat → Bool} {held : Bool}
/-- One cell's field of a struct. -/
theorem field_cell {P : Program} {t : TypeId} {fs : Array Field} {fuel : Nat} {cs : List Value} {x : DataW H × List MemPlace} (ht : P.underlying t = some (.struct fs)) (h : DataW.trod enc P w base sp held fuel t cs = some x)
    (i : Nat) {f : Field} (hf : fs[i]? = some f) (hc : P.cellsOf f.type = 1) (hlt : f.offset < P.cellsOf t) : ∃ c n y, cs[f.offset]? = some c ∧ DataW.trod enc P w base sp held n f.type [c] = some y := by
  obtain ⟨xs, n, _, _, hl, hxl, hx⟩ := DataW.trod_struct ht h
  have h1 := hx i f hf
  have hlt' : f.offset < cs.length := by omega
  have hi : i < fs.size := (Array.getElem?_eq_some_iff.1 hf).1
  rw [hc, List.drop_eq_getElem_cons hlt'] at h1
  refine ⟨cs[f.offset], n, xs[i]'(by omega), List.getElem?_eq_getElem hlt', ?_⟩
  rw [List.getElem?_eq_getElem (by omega)] at h1
  have e : (cs[f.offset] :: List.drop (f.offset + 1) cs).take 1 = [cs[f.offset]] := rfl
  rw [e] at h1
  exact h1
def In64 (x : Int) : Prop := -9223372036854775808 ≤ x ∧ x ≤ 9223372036854775807
theorem i64_le {x : Int} (h : (Lit.int .i64 x).wf = true) : In64 x := by
  unfold In64
  simp [Lit.wf, IntKind.min, IntKind.max, IntKind.bits, IntKind.signed] at h; omega
theorem six_of {α : Type} {cs : List α} {a b c d e f : α} (hl : cs.length = 6) (h0 : cs[0]? = some a) (h1 : cs[1]? = some b) (h2 : cs[2]? = some c) (h3 : cs[3]? = some d) (h4 : cs[4]? = some e) (h5 : cs[5]? = some f) : cs = [a, b, c, d, e, f] := by
  match cs, hl with
  | [_, _, _, _, _, _], _ => simp at h0 h1 h2 h3 h4 h5; simp [h0, h1, h2, h3, h4, h5]
theorem str_one {P : Program} {t : TypeId} {n : Nat} {c : Value} {y : DataW H × List MemPlace} (ht : P.underlying t = some .string) (h : DataW.trod enc P w base sp held n t [c] = some y) : ∃ s : ByteArray, c = .string s ∧ s.size ≤ maxLen := by
  obtain ⟨s, e, _, hs⟩ := DataW.trod_string ht h
  simp at e
  exact ⟨s, e, hs⟩
theorem int_one {P : Program} {t : TypeId} {n : Nat} {c : Value} {y : DataW H × List MemPlace} (ht : P.underlying t = some (.int .i64)) (h : DataW.trod enc P w base sp held n t [c] = some y) : ∃ x : Int, c = .int .i64 x ∧ In64 x := by
  obtain ⟨x, e, _, hs⟩ := DataW.trod_int ht h
  simp at e
  exact ⟨x, e, i64_le hs⟩
theorem bool_one_ {P : Program} {t : TypeId} {n : Nat} {c : Value} {y : DataW H × List MemPlace} (ht : P.underlying t = some .bool) (h : DataW.trod enc P w base sp held n t [c] = some y) : ∃ x : Bool, c = .bool x := by
  obtain ⟨x, e, _⟩ := DataW.trod_bool ht h
  simp at e
  exact ⟨x, e⟩
/-- An atom's six cells. -/
theorem atom_cells {fuel : Nat} {cs : List Value} {x : DataW H × List MemPlace} (h : DataW.trod enc Tryz.prog w base sp held fuel 26 cs = some x) :
    ∃ (s f : ByteArray) (op ver slot : Int) (on : Bool), cs = [.string s, .int .i64 op, .int .i64 ver, .int .i64 slot, .string f, .bool on] ∧ s.size ≤ maxLen ∧ f.size ≤ maxLen ∧ In64 op ∧
      In64 ver ∧ In64 slot := by
  have hT := Tryz.underlying26
  have hl : cs.length = 6 := by
    obtain ⟨_, _, _, _, hl, _⟩ := DataW.trod_struct hT h
    rw [hl]; kernel_rfl
  obtain ⟨c0, n0, y0, e0, k0⟩ := field_cell hT h 0 rfl (by kernel_rfl) (of_decide_eq_true (by kernel_rfl))
  obtain ⟨c1, n1, y1, e1, k1⟩ := field_cell hT h 1 rfl (by kernel_rfl) (of_decide_eq_true (by kernel_rfl))
  obtain ⟨c2, n2, y2, e2, k2⟩ := field_cell hT h 2 rfl (by kernel_rfl) (of_decide_eq_true (by kernel_rfl))
  obtain ⟨c3, n3, y3, e3, k3⟩ := field_cell hT h 3 rfl (by kernel_rfl) (of_decide_eq_true (by kernel_rfl))
  obtain ⟨c4, n4, y4, e4, k4⟩ := field_cell hT h 4 rfl (by kernel_rfl) (of_decide_eq_true (by kernel_rfl))
  obtain ⟨c5, n5, y5, e5, k5⟩ := field_cell hT h 5 rfl (by kernel_rfl) (of_decide_eq_true (by kernel_rfl))
  obtain ⟨s, rfl, hs⟩ := str_one Tryz.underlying9 k0
  obtain ⟨op, rfl, ho⟩ := int_one Tryz.underlying3 k1
  obtain ⟨ver, rfl, hv⟩ := int_one Tryz.underlying3 k2
  obtain ⟨slot, rfl, hsl⟩ := int_one Tryz.underlying3 k3
  obtain ⟨f, rfl, hf⟩ := str_one Tryz.underlying9 k4
  obtain ⟨on, rfl⟩ := bool_one_ Tryz.underlying4 k5
  exact ⟨s, f, op, ver, slot, on, six_of hl e0 e1 e2 e3 e4 e5, hs, hf, ho, hv, hsl⟩
set_option maxRecDepth 100000 in
/-- An atom, by value. -/
theorem open_atom {r : Reach} {b0 : Nat} {v : Value} {d : DataW H} {p : List MemPlace} (hv : Value.okWide Tryz.prog w r b0 26 v) (h : DataW.Trod enc Tryz.prog w base sp held 26 v d p) :
    ∃ (s f : ByteArray) (op ver slot : Int) (on : Bool), v = atv s op ver slot f on ∧ s.size ≤ maxLen ∧ f.size ≤ maxLen ∧ In64 op ∧
      In64 ver ∧ In64 slot := by
  obtain ⟨cs, rfl, _⟩ := okWide_struct Tryz.underlying26 hv
  obtain ⟨fuel, hf⟩ := h
  obtain ⟨s, f, op, ver, slot, on, e, hh⟩ := atom_cells hf
  have e' : cs.toList = [.string s, .int .i64 op, .int .i64 ver, .int .i64 slot, .string f, .bool on] := by simpa [Value.cells] using e
  refine ⟨s, f, op, ver, slot, on, ?_, hh⟩
  obtain ⟨l⟩ := cs
  simp only at e'
  subst e'
  rfl
end

/-! what the listed variables hold -/
theorem laid_at {P : Program} {w : World} : ∀ {l : List (String × DataW Unit)} {k : Nat} {x : String × DataW Unit}, laidMet P l w → l[k]? = some x → ∃ r, laidMet P (x :: r) w
  | [], _, _, _, h => by simp at h
  | y :: r, 0, x, h, hk => by
    simp only [List.getElem?_cons_zero, Option.some.injEq] at hk
    subst hk
    exact ⟨r, h⟩
  | y :: r, k + 1, x, h, hk => laid_at h.tail (by simpa using hk)
theorem gPow : Tryz.prog.globalNamed "internal/strconv.uint64pow10" = some 1 := by kernel_rfl
theorem gRng : Tryz.prog.globalNamed "strconv.ErrRange" = some 3 := by kernel_rfl
theorem gSyn : Tryz.prog.globalNamed "strconv.ErrSyntax" = some 2 := by kernel_rfl
theorem tPow : (Tryz.prog.globals[1]?).map (·.type) = some 193 := by kernel_rfl
theorem tRng : (Tryz.prog.globals[3]?).map (·.type) = some 77 := by kernel_rfl
theorem tSyn : (Tryz.prog.globals[2]?).map (·.type) = some 77 := by kernel_rfl
theorem rowErr : ∀ u, Tryz.prog.typeName? 3 u = some "*errors.errorString" → u = 212 := fun _ h => typeName_ptr_named (nm := "errors.errorString") (by kernel_rfl) (by kernel_rfl) (by decide) _ h
theorem laidV_of {w : World} {l : List (String × DataW Unit)} (h : laidMet Tryz.prog l w) {i j k : Nat} (hi : l[i]? = some ("internal/strconv.uint64pow10", Rows.laid_internal_strconv_uint64pow10)) (hj : l[j]? = some ("strconv.ErrRange", Rows.laid_strconv_ErrRange)) (hk : l[k]? = some ("strconv.ErrSyntax", Rows.laid_strconv_ErrSyntax)) : LaidV w := by
  obtain ⟨_, h1⟩ := laid_at h hi
  obtain ⟨_, h2⟩ := laid_at h hj
  obtain ⟨_, h3⟩ := laid_at h hk
  obtain ⟨a2, s2, e2, _⟩ := laid_sentinel h2 gRng tRng Tryz.underlying77 rowErr Tryz.underlying212 Tryz.underlying214 rfl rfl Tryz.underlying9 (by kernel_rfl) (by kernel_rfl)
  obtain ⟨a3, s3, e3, _⟩ := laid_sentinel h3 gSyn tSyn Tryz.underlying77 rowErr Tryz.underlying212 Tryz.underlying214 rfl rfl Tryz.underlying9 (by kernel_rfl) (by kernel_rfl)
  exact ⟨⟨_, _, e3⟩, ⟨_, _, e2⟩, Lib.tabIs_of_head gPow tPow Tryz.underlying193 Tryz.underlying118 (by kernel_rfl) (by kernel_rfl) h1⟩
end Go.Proofs.YthpkffeiehnamaaGreatDoor
