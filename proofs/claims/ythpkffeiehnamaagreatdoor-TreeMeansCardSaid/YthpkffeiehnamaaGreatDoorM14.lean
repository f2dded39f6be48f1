/- Parts of the proof: walks and plain laws, side by side. -/
import Derived.Test.YthpkffeiehnamaaGreatDoorM12
import Derived.Test.YthpkffeiehnamaaGreatDoorM13
import Derived.Test.YthpkffeiehnamaaGreatDoorM4
import Derived.Test.YthpkffeiehnamaaGreatDoorProg
import Derived.Test.YthpkffeiehnamaaGreatDoorM2
import Derived.Deep.QuietTactic
import Derived.BigQuiet
import Derived.Deep.LoopGhost
import Derived.Test.YthpkffeiehnamaaGreatDoorShelf
import Derived.LoopN
import Derived.IntWalk
import Derived.Deep.RegionHeld3
import Derived.Laws.EntriesVeiled
import Derived.Test.YthpkffeiehnamaaGreatDoorM1
import Derived.Test.YthpkffeiehnamaaGreatDoorM3
import Derived.Test.YthpkffeiehnamaaGreatDoorM5
import Derived.Test.YthpkffeiehnamaaGreatDoorM6
import Derived.Test.YthpkffeiehnamaaGreatDoorM7
import Derived.Test.YthpkffeiehnamaaGreatDoorM8
import Derived.Test.YthpkffeiehnamaaGreatDoorM9
import Derived.Test.YthpkffeiehnamaaGreatDoorM10
import Derived.Test.YthpkffeiehnamaaGreatDoorM11
set_option linter.unusedVariables false
set_option linter.unusedSimpArgs false
set_option linter.unusedSectionVars false
/- tree.Means, walked. -/
namespace Go.Proofs.YthpkffeiehnamaaGreatDoor
open Go.RowKit Qm

/-- An atom means a package: by name, version, slot; and the package has its flag. -/
def meant (a : At) (p : Pk) : Bool := decide (p.nm = a.nm) && (fitsP a p.ver p.slot && (decide (a.fl = []) || p.fs.contains a.fl))
def meantTo (ps : List Pk) (a : At) : Nat → List Int
  | 0 => []
  | j + 1 => meantTo ps a j ++ (match ps[j]? with | some p => if meant a p = true then [(j : Int)] else [] | none => [])
theorem meantTo_yes {ps : List Pk} {a : At} {j : Nat} {p : Pk} (h : ps[j]? = some p) (hm : meant a p = true) : meantTo ps a (j + 1) = meantTo ps a j ++ [(j : Int)] := by
  rw [meantTo, h]; simp only [hm, if_true]
theorem meantTo_no {ps : List Pk} {a : At} {j : Nat} {p : Pk} (h : ps[j]? = some p) (hm : meant a p = false) : meantTo ps a (j + 1) = meantTo ps a j := by
  rw [meantTo, h]; simp [hm]
theorem meantTo_len {ps : List Pk} {a : At} : ∀ j, (meantTo ps a j).length ≤ j
  | 0 => Nat.le_refl _
  | j + 1 => by
    have := meantTo_len (ps := ps) (a := a) j
    rw [meantTo, List.length_append]
    have : (match ps[j]? with | some p => if meant a p = true then [(j : Int)] else [] | none => []).length ≤ 1 := by
      split
      · split <;> simp
      · simp
    omega
theorem ckTree_len {ps : List Pk} (h : ckTree ps = 0) : ps.length ≤ 8 := by
  unfold ckTree at h
  split at h
  · cases h
  · omega
def meansE (ps : List Pk) (a : At) : Int := if ckTree ps ≠ 0 then ckTree ps else ckAtom a
def meansL (ps : List Pk) (a : At) : List Int := if meansE ps a = 0 then meantTo ps a ps.length else []

structure Mx (w : World) (A : Option Addr) (n c : Nat) (av : List Value) (wr : World) : Prop where
  below : Below w.heap.size w wr
  t : Whole wr w.heap.size 24 [.slice A n c]
  a : Whole wr (w.heap.size + 1) 26 av
theorem Mx.move {w : World} {A : Option Addr} {n c : Nat} {av : List Value} {w1 w2 : World} (h : Mx w A n c av w1) (hb : Below w1.heap.size w1 w2) : Mx w A n c av w2 :=
  ⟨h.below.trans (hb.mono h.below.size), h.t.below hb h.t.lt, h.a.below hb h.a.lt⟩
theorem Mx.new (w : World) (A : Option Addr) (n c : Nat) (av : List Value) : Mx w A n c av ((w.alloc (.cells #[.slice A n c] 24)).alloc (.cells av.toArray 26)) := by
  have hb1 : Below w.heap.size w (w.alloc (.cells #[.slice A n c] 24)) := (Below.refl _ w).alloc (Nat.le_refl _) _
  have ht := Whole.new w w.heap.size 24 [.slice A n c] rfl
  have hb2 : Below (w.alloc (.cells #[.slice A n c] 24)).heap.size (w.alloc (.cells #[.slice A n c] 24)) ((w.alloc (.cells #[.slice A n c] 24)).alloc (.cells av.toArray 26)) := (Below.refl _ _).alloc (Nat.le_refl _) _
  exact ⟨hb1.trans (hb2.mono hb1.size), ht.below hb2 ht.lt, Whole.new _ _ _ av (by simp)⟩
def MeansPost (w : World) (ps : List Pk) (a : At) (e : Ending) (w' : World) : Prop :=
  ∃ A c, e = .returned (.tuple #[.slice A (meansL ps a).length c, .int .i64 (meansE ps a)]) ∧ RInts w' (fun i => w.heap.size ≤ i ∧ i < w'.heap.size) A (meansL ps a).length (meansL ps a) ∧ (meansL ps a).length ≤ c ∧ c ≤ maxLen ∧ Below w.heap.size w w'
theorem MeansPost.err {w w' : World} {ps : List Pk} {a : At} {z : Int} (hz : z ≠ 0) (he : meansE ps a = z) (hb : Below w.heap.size w w') : MeansPost w ps a (.returned (.tuple #[.slice none 0 0, .int .i64 z])) w' := by
  have hl : meansL ps a = [] := by unfold meansL; rw [if_neg (by rw [he]; exact hz)]
  exact ⟨none, 0, by rw [hl, he]; rfl, by rw [hl]; exact Row.nil_, by rw [hl]; exact Nat.le_refl _, Nat.zero_le _, hb⟩
theorem MeansPost.ok {w w3 w' : World} {ps : List Pk} {a : At} {v : Value} (he : meansE ps a = 0) (hw : w.heap.size ≤ w3.heap.size) (hown : w'.ownsRow w3.heap.size 3 1 v (meantTo ps a ps.length).length ((meantTo ps a ps.length).map (.int .i64))) (hb : Below w.heap.size w w') :
    MeansPost w ps a (.returned (.tuple #[v, .int .i64 0])) w' := by
  have hl : meansL ps a = meantTo ps a ps.length := by unfold meansL; rw [if_pos he]
  obtain ⟨A, c, rfl, h1, h2, h3⟩ := own_form hown
  unfold MeansPost
  rw [hl, he]
  exact ⟨A, c, rfl, h3.more fun k hk => ⟨Nat.le_trans hw hk.1, hk.2⟩, h1, h2, hb⟩
theorem int_info5 : (Tryz.prog.info? 3).map (fun i => (i.zero, i.size, i.bytes)) = some (some (.int .i64 0), 1, 8) := by kernel_rfl
set_option maxRecDepth 100000 in
set_option maxHeartbeats 3200000 in
theorem means_any (ps : List Pk) (a : At) (S : Nat → Prop) (A : Option Addr) (n c : Nat) (w : World) (hT : RTree w S A n ps) (hnc : n ≤ c) (hc : c ≤ maxLen) (h1 : a.nm.length ≤ maxLen) (h2 : a.fl.length ≤ maxLen) (hS : ∀ k, S k → k < w.heap.size) :
    Calls Tryz.prog 6 #[.agg #[.slice A n c], .agg #[.string ⟨a.nm.toArray⟩, .int .i64 a.op, .int .i64 a.ver, .int .i64 a.slot, .string ⟨a.fl.toArray⟩, .bool a.on]] w (MeansPost w ps a) := by
  have hl := hT.len
  have X0 := Lib.hid (Mx.new w A n c [.string ⟨a.nm.toArray⟩, .int .i64 a.op, .int .i64 a.ver, .int .i64 a.slot, .string ⟨a.fl.toArray⟩, .bool a.on])
  have HT1 := Lib.hid (hT.under X0.out.below hS)
  have HS1 := Lib.hid (fun q hq => Nat.lt_of_lt_of_le (hS q hq) X0.out.below.size)
  have HT := Lib.hid hT; have HS := Lib.hid hS; clear hT hS
  have Htc := Lib.hid (fun wx h1 h2 => tCheck_any ps S A n c wx h1 hnc hc h2)
  have hcm := hc
  unfold maxLen at hcm
  have hac := fun wx => check_any ⟨a.nm.toArray⟩ ⟨a.fl.toArray⟩ a.op a.ver a.slot a.on wx (by rw [bsz]; exact h1) (by rw [bsz]; exact h2)
  rw [atOf_mk] at hac
  unfold atv at hac
  have Hac := Lib.hid hac; clear hac
  have HE : Hid (meansE ps a = if ckTree ps ≠ 0 then ckTree ps else ckAtom a) := Lib.hid rfl
  generalize hz : ckTree ps = z at Htc HE
  have HZ := Lib.hid hz; clear hz
  generalize ckAtom a = y at Hac HE
  by_cases z0 : z = 0
  · subst z0
    by_cases y0 : y = 0
    · subst y0
      have hn8 : n ≤ 8 := by rw [← hl]; exact ckTree_len HZ.out
      have HE0 : Hid (meansE ps a = 0) := Lib.hid (by rw [HE.out]; simp)
      clear HE
      go_enter Tryz.func6, Tryz.ntmps6
      go_wp2_with (first | (go_at_call 20; refine (Htc.out _ HT1.out HS1.out).mono ?_; rintro e w1 ⟨rfl, hb1⟩; refine Hid.out ?_))
      refine Lib.hid ?_
      have X1 := Lib.hid (X0.out.move hb1)
      clear hb1
      have a0 := X1.out.a.cell 0; have a1 := X1.out.a.cell 1; have a2 := X1.out.a.cell 2; have a3 := X1.out.a.cell 3; have a4 := X1.out.a.cell 4; have a5 := X1.out.a.cell 5
      simp only [List.getElem?_cons_zero, List.getElem?_cons_succ] at a0 a1 a2 a3 a4 a5
      have hlt := X1.out.a.lt
      go_wp2_with (first | (go_at_call 30; refine (Hac.out _).mono ?_; rintro e w2 ⟨rfl, hb2⟩; refine Hid.out ?_))
      refine Lib.hid ?_
      clear a0 a1 a2 a3 a4 a5 hlt
      have X2 := Lib.hid (X1.out.move hb2)
      clear hb2 X1 X0 HT1 HS1 Htc Hac
      have t0 := X2.out.t.cell 0
      simp only [List.getElem?_cons_zero] at t0
      obtain ⟨i0, hi, hz0, hz1, hz2⟩ := info_parts int_info5
      go_wp2
      clear t0
      go_loopg [8, 24] n (fun g lv iv wr => ∃ j : Nat, Hid (j + g = n) ∧ iv = .int .i64 j ∧ Hid (wr.ownsRow w2.heap.size 3 1 lv (meantTo ps a j).length ((meantTo ps a j).map (.int .i64))) ∧ Hid (Below w2.heap.size w2 wr))
      case atStart => exact ⟨0, Lib.hid (Nat.zero_add _), rfl, Lib.hid (World.ownsRow_nil _ _ _ _), Lib.hid (Below.refl _ _)⟩
      case round =>
        obtain ⟨j, Hj, rfl, Hown, HB⟩ := hrel
        have XR := Lib.hid (X2.out.move HB.out)
        by_cases hj : j < n
        · obtain ⟨b, o, p, B, m', c', k, f, g, no, D, q, d, rfl, hbS, hp, hP, hcell⟩ := (HT.out.under XR.out.below HS.out).at_ hj
          have Hyes := Lib.hid (fun h => meantTo_yes (a := a) hp h)
          have Hno := Lib.hid (fun h => meantTo_no (a := a) hp h)
          have HM : Hid (meant a p = (decide (p.nm = a.nm) && (fitsP a p.ver p.slot && (decide (a.fl = []) || p.fs.contains a.fl)))) := Lib.hid rfl
          have hml := meantTo_len (ps := ps) (a := a) j
          generalize meant a p = mm at Hyes Hno HM
          have g0 := hcell 0 (by omega); have g1 := hcell 1 (by omega); have g2 := hcell 2 (by omega); have g3 := hcell 3 (by omega); have g4 := hcell 4 (by omega); have g5 := hcell 5 (by omega); have g6 := hcell 6 (by omega); have g7 := hcell 7 (by omega); have g8 := hcell 8 (by omega); have g9 := hcell 9 (by omega); have g10 := hcell 10 (by omega); have g11 := hcell 11 (by omega); have g12 := hcell 12 (by omega); have g13 := hcell 13 (by omega)
          unfold pkRow ndRow at g0 g1 g2 g3 g4 g5 g6 g7 g8 g9 g10 g11 g12 g13
          simp only [List.getElem?_cons_zero, List.getElem?_cons_succ, Nat.add_zero] at g0 g1 g2 g3 g4 g5 g6 g7 g8 g9 g10 g11 g12 g13
          clear hcell hp
          have P1 := Lib.hid (Pb.new wr (pkRow p B m' c' (ndRow k f g no D q d)))
          have HFS := Lib.hid hP.fs
          have HPm := Lib.hid (Nat.le_trans hP.cap hP.max)
          have HSr : Hid (∀ x, S x → x < wr.heap.size) := Lib.hid fun x hx => Nat.lt_of_lt_of_le (HS.out x hx) XR.out.below.size
          clear hP
          have Hft := Lib.hid (fun wx => fits_any ⟨a.nm.toArray⟩ ⟨a.fl.toArray⟩ a.op a.ver a.slot p.ver p.slot a.on wx)
          rw [atOf_mk] at Hft
          unfold atv at Hft
          obtain ⟨nm, ver, slot, fs, nd⟩ := p
          unfold pkRow ndRow at P1
          dsimp only at g0 g1 g2 g3 g4 g5 g6 g7 g8 g9 g10 g11 g12 g13 P1 HFS Hft HM
          have a0 := XR.out.a.cell 0; have a1 := XR.out.a.cell 1; have a2 := XR.out.a.cell 2; have a3 := XR.out.a.cell 3; have a4 := XR.out.a.cell 4; have a5 := XR.out.a.cell 5
          simp only [List.getElem?_cons_zero, List.getElem?_cons_succ] at a0 a1 a2 a3 a4 a5
          have hlt := XR.out.a.lt
          generalize fitsP a ver slot = ft at Hft HM
          by_cases hn : nm = a.nm
          · subst hn
            have H1 : Hid (mm = (ft && (decide (a.fl = []) || fs.contains a.fl))) := Lib.hid (by rw [HM.out]; simp)
            clear HM
            cases ft
            · have HN := Lib.hid (Hno.out (by rw [H1.out]; rfl))
              go_wp2_with (first | (go_at_call 31; refine (Hft.out _).mono ?_; rintro e w4 ⟨rfl, hb4⟩; refine Hid.out ?_))
              refine Lib.hid ?_
              have HB4 := Lib.hid ((P1.out.move hb4).below)
              clear hb4
              go_wp2
              go_roundg (gk - 1)
              case measure => have := Hj.out; omega
              case rel => exact ⟨j + 1, Lib.hid (by have := Hj.out; omega), by go_num, Lib.hid (by rw [HN.out]; exact (Far.of_below (fun _ => False) HB4.out).own Hown.out fun _ _ h => h), Lib.hid (HB.out.trans (HB4.out.mono HB.out.size))⟩
            · by_cases hfl : a.fl = []
              · have HN := Lib.hid (Hyes.out (by rw [H1.out, decide_eq_true hfl]; rfl))
                have Hfl := Lib.hid hfl
                clear hfl
                go_wp2_with (first | (go_at_call 31; refine (Hft.out _).mono ?_; rintro e w4 ⟨rfl, hb4⟩; refine Hid.out ?_))
                refine Lib.hid ?_
                have P4 := Lib.hid (P1.out.move hb4)
                have X4 := Lib.hid (XR.out.move P4.out.below)
                clear hb4
                have HOW4 := Lib.hid ((Far.of_below (fun _ => False) P4.out.below).own Hown.out fun _ _ h => h)
                have b4 := X4.out.a.cell 4
                have p3 := P4.out.whole.cell 3
                simp only [List.getElem?_cons_zero, List.getElem?_cons_succ] at b4 p3
                rw [Hfl.out] at b4
                go_wp2_with (at_builtin; refine wpList_append_own _ rfl _ _ 27 rfl w2.heap.size 3 i0 (.int .i64 0) 1 8 Tryz.underlying27 hi hz0 hz1 hz2 rfl (by decide) _ _ _ rfl (HOW4.out.alloc _) ⟨w4.heap.size, 0, none⟩ 1 1 [.int .i64 (j : Int)] rfl rfl ?c1 ?c2 ?c3 ?c4 ?c5 ?_)
                case c1 => exact cell_one_new _ _ _
                case c2 => simp [Value.oneCell']
                case c3 => unfold maxLen; omega
                case c4 => omega
                case c5 => have := HB.out.size; have := P4.out.below.size; simp; omega
                intro lv' w6 hown6 hg6 _
                have HB4 := HB.out.trans (P4.out.below.mono HB.out.size)
                have hbel6 : Below w2.heap.size w2 w6 := (HB4.alloc HB4.size _).trans (below_of_grown hg6 (by have := HB4.size; simp; omega) (fun k e => (HOW4.out.lt k e).1))
                have hown7 : w6.ownsRow w2.heap.size 3 1 lv' (meantTo ps a (j + 1)).length ((meantTo ps a (j + 1)).map (Value.int .i64)) := by
                  rw [HN.out, List.length_append, List.map_append]; exact hown6
                have Hown7 := Lib.hid hown7; have Hbel6 := Lib.hid hbel6
                clear hown6 hg6 hown7 hbel6 HB4
                go_wp2_with fail
                go_roundg (gk - 1)
                case measure => have := Hj.out; omega
                case rel => exact ⟨j + 1, Lib.hid (by have := Hj.out; omega), by go_num, Hown7, Hbel6⟩
              · have hf1 : (a.fl == []) = false := by simpa using hfl
                have hf2 : a.fl.isEmpty = false := by simpa using hfl
                have Hfl := Lib.hid hfl
                clear hfl
                cases hq : fs.contains a.fl
                · have HN := Lib.hid (Hno.out (by rw [H1.out, decide_eq_false Hfl.out, hq]; rfl))
                  go_wp2_with (first | (go_at_call 31; refine (Hft.out _).mono ?_; rintro e w4 ⟨rfl, hb4⟩; refine Hid.out ?_))
                  refine Lib.hid ?_
                  have P4 := Lib.hid (P1.out.move hb4)
                  have X4 := Lib.hid (XR.out.move P4.out.below)
                  clear hb4
                  have HOW4 := Lib.hid ((Far.of_below (fun _ => False) P4.out.below).own Hown.out fun _ _ h => h)
                  have b4 := X4.out.a.cell 4
                  have p3 := P4.out.whole.cell 3
                  simp only [List.getElem?_cons_zero, List.getElem?_cons_succ] at b4 p3
                  have Hco := Lib.hid (containsS_any B m' c' fs a.fl w4 S (HFS.out.row.below P4.out.below HSr.out) HPm.out)
                  rw [hq] at Hco
                  go_wp2_with (first | (go_at_call 28; refine Hco.out.mono ?_; rintro e w5 ⟨rfl, hw5⟩; have hw6 := hw5.symm; subst hw6; refine Hid.out ?_))
                  refine Lib.hid ?_
                  go_wp2
                  go_roundg (gk - 1)
                  case measure => have := Hj.out; omega
                  case rel => exact ⟨j + 1, Lib.hid (by have := Hj.out; omega), by go_num, Lib.hid (by rw [HN.out]; exact HOW4.out), Lib.hid (HB.out.trans (P4.out.below.mono HB.out.size))⟩
                · have HN := Lib.hid (Hyes.out (by rw [H1.out, decide_eq_false Hfl.out, hq]; rfl))
                  go_wp2_with (first | (go_at_call 31; refine (Hft.out _).mono ?_; rintro e w4 ⟨rfl, hb4⟩; refine Hid.out ?_))
                  refine Lib.hid ?_
                  have P4 := Lib.hid (P1.out.move hb4)
                  have X4 := Lib.hid (XR.out.move P4.out.below)
                  clear hb4
                  have HOW4 := Lib.hid ((Far.of_below (fun _ => False) P4.out.below).own Hown.out fun _ _ h => h)
                  have b4 := X4.out.a.cell 4
                  have p3 := P4.out.whole.cell 3
                  simp only [List.getElem?_cons_zero, List.getElem?_cons_succ] at b4 p3
                  have Hco := Lib.hid (containsS_any B m' c' fs a.fl w4 S (HFS.out.row.below P4.out.below HSr.out) HPm.out)
                  rw [hq] at Hco
                  go_wp2_with (first | (go_at_call 28; refine Hco.out.mono ?_; rintro e w5 ⟨rfl, hw5⟩; have hw6 := hw5.symm; subst hw6; refine Hid.out ?_))
                  refine Lib.hid ?_
                  go_wp2_with (at_builtin; refine wpList_append_own _ rfl _ _ 27 rfl w2.heap.size 3 i0 (.int .i64 0) 1 8 Tryz.underlying27 hi hz0 hz1 hz2 rfl (by decide) _ _ _ rfl (HOW4.out.alloc _) ⟨w4.heap.size, 0, none⟩ 1 1 [.int .i64 (j : Int)] rfl rfl ?c1 ?c2 ?c3 ?c4 ?c5 ?_)
                  case c1 => exact cell_one_new _ _ _
                  case c2 => simp [Value.oneCell']
                  case c3 => unfold maxLen; omega
                  case c4 => omega
                  case c5 => have := HB.out.size; have := P4.out.below.size; simp; omega
                  intro lv' w6 hown6 hg6 _
                  have HB4 := HB.out.trans (P4.out.below.mono HB.out.size)
                  have hbel6 : Below w2.heap.size w2 w6 := (HB4.alloc HB4.size _).trans (below_of_grown hg6 (by have := HB4.size; simp; omega) (fun k e => (HOW4.out.lt k e).1))
                  have hown7 : w6.ownsRow w2.heap.size 3 1 lv' (meantTo ps a (j + 1)).length ((meantTo ps a (j + 1)).map (Value.int .i64)) := by
                    rw [HN.out, List.length_append, List.map_append]; exact hown6
                  have Hown7 := Lib.hid hown7; have Hbel6 := Lib.hid hbel6
                  clear hown6 hg6 hown7 hbel6 HB4
                  go_wp2_with fail
                  go_roundg (gk - 1)
                  case measure => have := Hj.out; omega
                  case rel => exact ⟨j + 1, Lib.hid (by have := Hj.out; omega), by go_num, Hown7, Hbel6⟩
          · have hn' : (nm == a.nm) = false := by simpa using hn
            have HN := Lib.hid (Hno.out (by rw [HM.out, decide_eq_false hn]; rfl))
            go_wp2
            go_roundg (gk - 1)
            case measure => have := Hj.out; omega
            case rel => exact ⟨j + 1, Lib.hid (by have := Hj.out; omega), by go_num, Lib.hid (by rw [HN.out]; exact Hown.out.alloc _), Lib.hid (HB.out.trans (P1.out.below.mono HB.out.size))⟩
        · have hjn : n = j := by have := Hj.out; omega
          subst hjn
          have HF := Lib.hid (MeansPost.ok (w := w) HE0.out X2.out.below.size (by rw [hl]; exact Hown.out) XR.out.below)
          go_wp2
          go_ret2
          exact HF.out
    · have HE1 : Hid (meansE ps a = y) := Lib.hid (by rw [HE.out]; simp)
      have y1 : (y != 0) = true := by simpa using y0
      go_enter Tryz.func6, Tryz.ntmps6
      go_wp2_with (first | (go_at_call 20; refine (Htc.out _ HT1.out HS1.out).mono ?_; rintro e w1 ⟨rfl, hb1⟩; refine Hid.out ?_))
      refine Lib.hid ?_
      have X1 := Lib.hid (X0.out.move hb1)
      clear hb1
      have a0 := X1.out.a.cell 0; have a1 := X1.out.a.cell 1; have a2 := X1.out.a.cell 2; have a3 := X1.out.a.cell 3; have a4 := X1.out.a.cell 4; have a5 := X1.out.a.cell 5
      simp only [List.getElem?_cons_zero, List.getElem?_cons_succ] at a0 a1 a2 a3 a4 a5
      have hlt := X1.out.a.lt
      go_wp2_with (first | (go_at_call 30; refine (Hac.out _).mono ?_; rintro e w2 ⟨rfl, hb2⟩; refine Hid.out ?_))
      refine Lib.hid ?_
      have X2 := Lib.hid (X1.out.move hb2)
      clear hb2
      go_wp2
      go_ret2
      exact MeansPost.err y0 HE1.out X2.out.below
  · have HE1 : Hid (meansE ps a = z) := Lib.hid (by rw [HE.out, if_pos z0])
    have z1 : (z != 0) = true := by simpa using z0
    go_enter Tryz.func6, Tryz.ntmps6
    go_wp2_with (first | (go_at_call 20; refine (Htc.out _ HT1.out HS1.out).mono ?_; rintro e w1 ⟨rfl, hb1⟩; refine Hid.out ?_))
    refine Lib.hid ?_
    have X1 := Lib.hid (X0.out.move hb1)
    clear hb1
    have a0 := X1.out.a.cell 0; have a1 := X1.out.a.cell 1; have a2 := X1.out.a.cell 2; have a3 := X1.out.a.cell 3; have a4 := X1.out.a.cell 4; have a5 := X1.out.a.cell 5
    simp only [List.getElem?_cons_zero, List.getElem?_cons_succ] at a0 a1 a2 a3 a4 a5
    have hlt := X1.out.a.lt
    go_wp2
    go_ret2
    exact MeansPost.err z0 HE1.out X1.out.below
end Go.Proofs.YthpkffeiehnamaaGreatDoor

/- What TreeMeans says, in plain words: no program in sight. -/
namespace Go.Proofs.YthpkffeiehnamaaGreatDoor
open Go.RowKit Qm

def isM (ps : List Pk) (a : At) (i : Nat) : Bool := match ps[i]? with | some p => meant a p | none => false
theorem meantTo_eq (ps : List Pk) (a : At) : ∀ j, meantTo ps a j = ((List.range j).filter (isM ps a)).map (fun (i : Nat) => (i : Int))
  | 0 => rfl
  | j + 1 => by
    rw [meantTo, meantTo_eq ps a j, List.range_succ, List.filter_append, List.map_append]
    congr 1
    rw [List.filter_cons, List.filter_nil]
    unfold isM
    cases ps[j]? with
    | none => rfl
    | some p =>
      dsimp only
      by_cases h : meant a p = true
      · rw [if_pos h, if_pos h]; rfl
      · rw [if_neg h, if_neg h]; rfl
/-- An atom of a name alone, or of a version's bound beside it. -/
def bare (nm : Qm.W) (op ver : Int) : At := ⟨nm, op, ver, 0, [], false⟩
theorem meant_bare (nm : Qm.W) (p : Pk) : meant (bare nm 0 0) p = decide (p.nm = nm) := by rw [Bool.eq_iff_iff]; simp [meant, bare, fitsP]; exact decide_eq_true_iff
theorem meant_least (nm : Qm.W) (v : Int) (p : Pk) : meant (bare nm 2 v) p = (decide (p.nm = nm) && decide (v ≤ p.ver)) := by rw [Bool.eq_iff_iff]; simp [meant, bare, fitsP]; exact and_congr decide_eq_true_iff decide_eq_true_iff
theorem meant_below (nm : Qm.W) (v : Int) (p : Pk) : meant (bare nm 3 v) p = (decide (p.nm = nm) && !decide (v ≤ p.ver)) := by
  rw [Bool.eq_iff_iff]; simp [meant, bare, fitsP]; exact and_congr decide_eq_true_iff decide_eq_true_iff
theorem isM_bare {ps : List Pk} {a : At} {i : Nat} (h : isM ps a i = true) : isM ps (bare a.nm 0 0) i = true := by
  unfold isM at h ⊢
  cases hp : ps[i]? with
  | none => rw [hp] at h; cases h
  | some p =>
    rw [hp] at h
    simp only [meant, Bool.and_eq_true] at h
    simp only [meant_bare]
    exact h.1
theorem meantTo_sub {ps : List Pk} {a : At} {j : Nat} : ∀ k ∈ meantTo ps a j, k ∈ meantTo ps (bare a.nm 0 0) j := by
  intro k hk
  rw [meantTo_eq] at hk ⊢
  obtain ⟨i, hi, rfl⟩ := List.mem_map.1 hk
  rw [List.mem_filter] at hi
  exact List.mem_map.2 ⟨i, List.mem_filter.2 ⟨hi.1, isM_bare hi.2⟩, rfl⟩
theorem meantTo_rises (ps : List Pk) (a : At) (j : Nat) : (meantTo ps a j).Pairwise (· ≤ ·) := by
  rw [meantTo_eq, List.pairwise_map]
  refine List.Pairwise.imp (R := (· < ·)) (fun h => by omega) ?_
  exact List.Pairwise.filter _ List.pairwise_lt_range
theorem meantTo_parts (ps : List Pk) (nm : Qm.W) (v : Int) (j : Nat) : (meantTo ps (bare nm 2 v) j ++ meantTo ps (bare nm 3 v) j).Perm (meantTo ps (bare nm 0 0) j) := by
  simp only [meantTo_eq, ← List.map_append]
  refine List.Perm.map _ ?_
  let q : Nat → Bool := fun i => match ps[i]? with | some p => decide (v ≤ p.ver) | none => false
  have h2 : isM ps (bare nm 2 v) = fun i => isM ps (bare nm 0 0) i && q i := by
    funext i
    show isM ps (bare nm 2 v) i = (isM ps (bare nm 0 0) i && q i)
    simp only [isM, q]
    cases ps[i]? with
    | none => rfl
    | some p => simp only [meant_least, meant_bare]
  have h3 : isM ps (bare nm 3 v) = fun i => isM ps (bare nm 0 0) i && !q i := by
    funext i
    show isM ps (bare nm 3 v) i = (isM ps (bare nm 0 0) i && !q i)
    simp only [isM, q]
    cases ps[i]? with
    | none => rfl
    | some p => simp only [meant_below, meant_bare]
  rw [h2, h3]
  have := List.filter_append_perm q ((List.range j).filter (isM ps (bare nm 0 0)))
  rw [List.filter_filter, List.filter_filter] at this
  simpa only [Bool.and_comm] using this
theorem sorted_eq : ∀ {xs ys : List Int}, xs.Perm ys → xs.Pairwise (· ≤ ·) → ys.Pairwise (· ≤ ·) → xs = ys := by
  intro xs ys hp hx hy
  exact List.Perm.eq_of_pairwise (le := (· ≤ ·)) (fun a b _ _ h1 h2 => by omega) hx hy hp
theorem meantTo_sorts (ps : List Pk) (nm : Qm.W) (v : Int) (j : Nat) : (meantTo ps (bare nm 2 v) j ++ meantTo ps (bare nm 3 v) j).mergeSort (fun x y => decide (x ≤ y)) = meantTo ps (bare nm 0 0) j := by
  refine sorted_eq ((List.mergeSort_perm _ _).trans (meantTo_parts ps nm v j)) ?_ (meantTo_rises ..)
  have := List.pairwise_mergeSort (le := fun (x y : Int) => decide (x ≤ y)) (fun a b c h1 h2 => by simp at *; omega) (fun a b => by simp; omega) (meantTo ps (bare nm 2 v) j ++ meantTo ps (bare nm 3 v) j)
  exact this.imp fun h => by simpa using h
end Go.Proofs.YthpkffeiehnamaaGreatDoor

/- Walks: slices.Equal. -/
namespace Go.Proofs.YthpkffeiehnamaaGreatDoor
open Go.RowKit

theorem take_eq_succ {α : Type} [DecidableEq α] {xs ys : List α} {k : Nat} (d : α) (h1 : k < xs.length) (h2 : k < ys.length) (h : xs.take k = ys.take k) (he : xs.getD k d = ys.getD k d) : xs.take (k+1) = ys.take (k+1) := by
  rw [List.take_succ_eq_append_getElem h1, List.take_succ_eq_append_getElem h2, h]
  simp [List.getD, h1, h2] at he
  rw [he]
theorem eq_of_take_all {α : Type} {xs ys : List α} {n : Nat} (h1 : xs.length = n) (h2 : ys.length = n) (h : xs.take n = ys.take n) : xs = ys := by
  rwa [List.take_of_length_le (by omega), List.take_of_length_le (by omega)] at h
theorem ne_of_getD {α : Type} {xs ys : List α} {k : Nat} (d : α) (h : xs.getD k d ≠ ys.getD k d) : xs ≠ ys := fun e => h (by rw [e])

set_option maxHeartbeats 400000 in
theorem equal_int (A A' : Option Addr) (n n' c c' : Nat) (xs ys : List Int) (w : World) (S : Nat → Prop) (hx : RInts w S A n xs) (hy : RInts w S A' n' ys) (hn : n ≤ maxLen) (hn' : n' ≤ maxLen) :
    Calls Tryz.prog 15 #[.slice A n c, .slice A' n' c'] w fun e w' => e = .returned (.bool (xs == ys)) ∧ ∃ nq, w' = w.drewN nq := by
  unfold maxLen at hn hn'
  have hl := Lib.hid hx.len
  have hl' := Lib.hid hy.len
  by_cases hne : n = n'
  · subst hne
    have h0 : ((n : Int) != (n : Int)) = false := by simp
    go_enter Tryz.func15, Tryz.ntmps15
    go_wp2
    go_loopw [13] (fun i wr => ∃ k : Nat, k ≤ n ∧ i = .int .i64 k ∧ Hid (xs.take k = ys.take k) ∧ ∃ nq, wr = w.drewN nq) (fun i _ => n - (intOf i).toNat)
    case atStart => exact ⟨0, Nat.zero_le _, rfl, by exact rfl, 0, rfl⟩
    case round =>
      obtain ⟨k, hk, rfl, Ht, nq, rfl⟩ := hrel
      by_cases hlt : k < n
      · obtain ⟨b, o, rfl, hb, hc⟩ := hx.at_ hlt
        obtain ⟨b', o', rfl, hb', hc'⟩ := hy.at_ hlt
        generalize hu : xs.getD k 0 = u at hc
        generalize hv : ys.getD k 0 = v at hc'
        have Hu := Lib.hid hu; clear hu
        have Hv := Lib.hid hv; clear hv
        by_cases huv : u = v
        · have h1 : (u != v) = false := by simpa using huv
          have Huv := Lib.hid huv; clear huv
          go_wp2
          go_quiet (fail)
          go_wp2
          go_roundw
          case rel => exact ⟨k + 1, by omega, by go_num, take_eq_succ 0 (by rw [hl.out]; exact hlt) (by rw [hl'.out]; exact hlt) Ht.out (by rw [Hu.out, Hv.out, Huv.out]), _, (by first | rfl | exact World.drewN_drewN _ _ _)⟩
          case measure => simp [intOf]; omega
        · have h1 : (u != v) = true := by simpa using huv
          go_wp2
          go_quiet (fail)
          go_wp2
          go_ret
          exact ⟨ret_bool (by symm; rw [beq_eq_false_iff_ne]; exact ne_of_getD 0 (by rw [Hu.out, Hv.out]; exact huv)), _, (by first | rfl | exact World.drewN_drewN _ _ _)⟩
      · have h1 : k = n := by omega
        subst h1
        go_wp2
        go_ret
        exact ⟨ret_bool (by symm; rw [beq_iff_eq]; exact eq_of_take_all hl.out hl'.out Ht.out), _, rfl⟩
  · have h0 : ((n : Int) != (n' : Int)) = true := by rw [bne_iff_ne]; omega
    go_enter Tryz.func15, Tryz.ntmps15
    go_wp2
    go_ret
    exact ⟨ret_bool (by symm; rw [beq_eq_false_iff_ne]; intro e; exact hne (by rw [← hl.out, ← hl'.out, e])), 0, rfl⟩
end Go.Proofs.YthpkffeiehnamaaGreatDoor

/- quartermasterlaw.forest, walked: it returns true. -/
namespace Go.Proofs.YthpkffeiehnamaaGreatDoor
open Go.RowKit Qm

theorem TParsePost.lit {w w' : World} {l : Qm.W} {e : Ending} (h : TParsePost w l e w') {ps : List Pk} {i : Nat} {z : Int} (hp : parseTree l = (ps, i, z)) :
    ∃ A c, e = .returned (.tuple #[.agg #[.slice A ps.length c], .int .i64 i, .int .i64 z]) ∧ RTree w' (fun i => w.heap.size ≤ i ∧ i < w'.heap.size) A ps.length ps ∧ ps.length ≤ c ∧ c ≤ maxLen ∧ Below w.heap.size w w' := by
  obtain ⟨A, n, c, rfl, hr, h1, h2, hb⟩ := h
  rw [hp] at hr ⊢
  have hl : ps.length = n := hr.len
  subst hl
  exact ⟨A, c, rfl, hr, h1, h2, hb⟩

def wordF1 : Qm.W := [97, 32, 49, 32, 49, 32, 120, 44, 121, 32, 120, 63, 32, 40, 32, 98, 32, 41, 10]
def wordF2 : Qm.W := [97, 32, 49, 32, 49, 32, 120, 44, 121, 32, 40, 32, 120, 63, 32, 40, 32, 98, 32, 41, 32, 41, 10, 98, 32, 50, 32, 49, 32, 32, 40, 32, 41, 10]
def pkFa : Pk := ⟨[97], 1, 1, [[120], [121]], .mk 3 At.zero [] false [.mk 5 At.zero [120] false [.mk 1 ⟨[98], 0, 0, 0, [], false⟩ [] false []]]⟩
def pkFb : Pk := ⟨[98], 2, 1, [], .mk 3 At.zero [] false []⟩
theorem parse_F1 : parseTree wordF1 = ([], 0, 4) := by kernel_rfl
theorem parse_F2 : parseTree wordF2 = ([pkFa, pkFb], 0, 0) := by kernel_rfl
theorem means_Fl : meansL [pkFa, pkFb] ⟨[97], 0, 0, 0, [121], false⟩ = [0] := by decide +kernel
theorem means_Fe : meansE [pkFa, pkFb] ⟨[97], 0, 0, 0, [121], false⟩ = 0 := by decide +kernel
set_option maxRecDepth 100000 in
set_option maxHeartbeats 3200000 in
theorem forest_any (w : World) (hL : LaidV w) (hM : MaxW w) :
    Calls Tryz.prog 7 #[] w fun e w' => e = .returned (.bool true) ∧ Below w.heap.size w w' := by
  have HLV := Lib.hid hL; have HMV := Lib.hid hM; clear hL hM
  have hp1 := fun wx h1 h2 => (tparse_any wordF1 wx (by decide) h1 h2).mono fun e w' h => h.lit parse_F1
  have hp2 := fun wx h1 h2 => (tparse_any wordF2 wx (by decide) h1 h2).mono fun e w' h => h.lit parse_F2
  have hme := fun S A c wx h1 h2 h3 h4 => means_any [pkFa, pkFb] ⟨[97], 0, 0, 0, [121], false⟩ S A 2 c wx h1 h2 h3 (by decide) (by decide) h4
  unfold MeansPost at hme
  rw [means_Fl, means_Fe] at hme
  simp only [List.length_cons, List.length_nil] at hp1 hp2 hme
  unfold wordF1 at hp1
  unfold wordF2 at hp2
  have Hp1 := Lib.hid hp1; have Hp2 := Lib.hid hp2; have Hme := Lib.hid hme
  clear hp1 hp2 hme
  go_enter Tryz.func7, Tryz.ntmps7
  go_wp2_with (first | (go_at_call 17; refine (Hp1.out _ HLV.out HMV.out).mono ?_; rintro e w1 ⟨A1, c1, rfl, -, -, -, hb1⟩; refine Hid.out ?_))
  refine Lib.hid ?_
  have HB2 := Lib.hid (hb1.alloc hb1.size (.cells #[.slice A1 0 c1] 24))
  clear hb1
  go_wp2_with (first | (go_at_call 17; refine (Hp2.out _ (HLV.out.below HB2.out) (HMV.out.below HB2.out)).mono ?_; rintro e w3 ⟨A, c, rfl, hT, hc1, hc2, hb3⟩; refine Hid.out ?_))
  refine Lib.hid ?_
  have hal : Below w3.heap.size w3 (w3.alloc (.cells #[.slice A 2 c] 24)) := (Below.refl _ _).alloc (Nat.le_refl _) _
  have HB3 := Lib.hid (HB2.out.trans (hb3.mono HB2.out.size))
  have HT4 := Lib.hid ((hT.under hal fun i hi => hi.2).more (S' := fun i => i < w3.heap.size) fun i hi => hi.2)
  have HW4 := Lib.hid (Whole.new w3 _ 24 [.slice A 2 c] rfl)
  have HB4 := Lib.hid (HB3.out.trans (hal.mono HB3.out.size))
  clear hb3 hT hal
  have hlt3 : w3.heap.size < (w3.alloc (.cells #[.slice A 2 c] 24)).heap.size := HW4.out.lt
  go_wp2_with (first | (go_at_call 6; refine (Hme.out (fun i => i < w3.heap.size) _ _ _ HT4.out hc1 hc2 (fun k hk => Nat.lt_trans hk hlt3)).mono ?_; rintro e w5 ⟨Al, cl, rfl, hl, hl1, hl2, hb5⟩; refine Hid.out ?_))
  refine Lib.hid ?_
  have HB5 := Lib.hid (HB4.out.trans (hb5.mono HB4.out.size))
  have t0 := (HW4.out.below hb5 HW4.out.lt).cell 0
  simp only [List.getElem?_cons_zero] at t0
  have tlt := (HW4.out.below hb5 HW4.out.lt).lt
  obtain ⟨b, o, p, B, m, c', k, a, f, no, D, q, d, rfl, hbS, hp, hP, hcell⟩ := (HT4.out.under hb5 (fun i hi => Nat.lt_trans hi hlt3)).at_ (j := 1) (by decide)
  simp only [List.getElem?_cons_succ, List.getElem?_cons_zero, Option.some.injEq] at hp
  have hm : m = 0 := by have := hP.fs.len; rw [← hp] at this; simpa [pkFb] using this.symm
  subst hm
  have g3 := hcell 3 (by omega)
  have g17 : w5.cell? ⟨b, o + 17, none⟩ = some (.slice B 0 c') := g3
  have hbl : b < w5.heap.size := Nat.lt_trans hbS tlt
  clear g3 hcell hp hP hlt3
  have hal : Below w5.heap.size w5 (w5.alloc (.cells #[.int .i64 0] 3)) := (Below.refl _ _).alloc (Nat.le_refl _) _
  have heq := equal_int Al (some ⟨w5.heap.size, 0, none⟩) 1 1 cl 1 [0] [0] (w5.alloc (.cells #[.int .i64 0] 3)) (fun q => q < (w5.alloc (.cells #[.int .i64 0] 3)).heap.size) ((hl.below hal fun k hk => hk.2).more fun k hk => Nat.lt_of_lt_of_le hk.2 hal.size) ((Whole.new w5 w5.heap.size 3 [.int .i64 0] rfl).ints (xs := [0]) (by simp) rfl) (by omega) (by decide)
  have Heq := Lib.hid heq
  clear heq hal hl hb5
  go_wp2_with (first | (go_at_call 15; refine Heq.out.mono ?_; rintro e w7 ⟨rfl, q7, rfl⟩; refine Hid.out ?_))
  refine Lib.hid ?_
  go_wp2
  go_ret
  exact ⟨rfl, below_drewN (HB5.out.alloc HB5.out.size _) _⟩
end Go.Proofs.YthpkffeiehnamaaGreatDoor

/- Walks: slices.IndexFunc, slices.ContainsFunc of ints with a function value that only reads. -/
namespace Go.Proofs.YthpkffeiehnamaaGreatDoor
open Go.RowKit
/-- a function value that only reads, and answers as p -/
def Asks (w : World) (F : FuncId) (caps : Array Value) (xs : List Int) (p : Int → Bool) : Prop :=
  (∀ (args : Array Value) (W : World), (callFunc F args).run Tryz.prog W = .ok (.enter F args) W) ∧ ∀ x ∈ xs, ∀ d, Calls Tryz.prog F (#[.int .i64 x] ++ caps) (w.drewN d) fun e w' => e = .returned (.bool (p x)) ∧ ∃ q, w' = w.drewN q
def idxOf (p : Int → Bool) (xs : List Int) : Int := match xs.findIdx? p with | some i => (i : Int) | none => -1
theorem idxOf_hit {p : Int → Bool} {xs : List Int} {k : Nat} {x : Int} (hk : k < xs.length) (hx : xs.getD k 0 = x) (hp : p x = true) (hn : (xs.take k).any p = false) : idxOf p xs = k := by
  have e : xs = xs.take k ++ x :: xs.drop (k+1) := by
    rw [List.getD_eq_getElem?_getD, List.getElem?_eq_getElem hk, Option.getD_some] at hx
    rw [← hx, List.getElem_cons_drop, List.take_append_drop]
  have h1 : (xs.take k).findIdx? p = none := by
    rw [List.findIdx?_eq_none_iff]; intro y hy; exact by simpa using List.any_eq_false.1 hn y hy
  unfold idxOf
  rw [e, List.findIdx?_append, h1]
  simp [List.findIdx?_cons, hp]; omega
theorem idxOf_none {p : Int → Bool} {xs : List Int} (h : xs.any p = false) : idxOf p xs = -1 := by
  have h1 : xs.findIdx? p = none := by
    rw [List.findIdx?_eq_none_iff]; intro y hy; exact by simpa using List.any_eq_false.1 h y hy
  unfold idxOf; rw [h1]
theorem idxOf_any (p : Int → Bool) (xs : List Int) : (decide (idxOf p xs ≥ 0)) = xs.any p := by
  cases h : xs.any p
  · rw [idxOf_none h]; rfl
  · unfold idxOf
    cases h1 : xs.findIdx? p with
    | none =>
      rw [List.findIdx?_eq_none_iff] at h1
      obtain ⟨x, hx, hp⟩ := List.any_eq_true.1 h
      rw [h1 x hx] at hp; cases hp
    | some i => simp
theorem take_any_succ {p : Int → Bool} {xs : List Int} {k : Nat} {x : Int} (hk : k < xs.length) (hx : xs.getD k 0 = x) (hp : p x = false) (hn : (xs.take k).any p = false) : (xs.take (k+1)).any p = false := by
  rw [List.getD_eq_getElem?_getD, List.getElem?_eq_getElem hk, Option.getD_some] at hx
  rw [List.take_succ_eq_append_getElem hk, List.any_append, hn, hx]; simp [hp]

set_option maxHeartbeats 1000000 in
theorem indexFunc_any (A : Option Addr) (n c : Nat) (xs : List Int) (F : FuncId) (caps : Array Value) (p : Int → Bool) (w : World) (S : Nat → Prop) (hr : RInts w S A n xs) (hn : n ≤ maxLen) (hp : Asks w F caps xs p) :
    Calls Tryz.prog 32 #[.slice A n c, .func (.func F) #[] caps] w fun e w' => e = .returned (.int .i64 (idxOf p xs)) ∧ ∃ q, w' = w.drewN q := by
  unfold maxLen at hn
  have Hlen := Lib.hid hr.len
  have Hp := Lib.hid hp; have Hr := Lib.hid hr
  clear hp hr
  go_enter Tryz.func32, Tryz.ntmps32
  go_wp2_with fail
  go_loopg [8] n (fun g i wr => ∃ (k d : Nat), Hid (k + g = n) ∧ i = .int .i64 k ∧ wr = w.drewN d ∧ Hid ((xs.take k).any p = false))
  case atStart => exact ⟨0, 0, Nat.zero_add _, rfl, rfl, rfl⟩
  case round =>
    obtain ⟨k, d, Hk, rfl, rfl, Hany⟩ := hrel
    by_cases hk : k < n
    · obtain ⟨b, o, rfl, hb, hc⟩ := Hr.out.at_ hk
      have hlc : k < xs.length := by rw [Hlen.out]; exact hk
      generalize hx : xs.getD k 0 = x at hc
      have Hx := Lib.hid hx; clear hx
      have Hlc := Lib.hid hlc; clear hlc
      have Hcall := Lib.hid (Hp.out.2 x (by rw [← Hx.out, List.getD_eq_getElem?_getD, List.getElem?_eq_getElem Hlc.out]; exact List.getElem_mem _) d)
      have henter := Hp.out.1
      generalize hpx : p x = px at Hcall
      have Hpx := Lib.hid hpx; clear hpx
      go_wp2_with fail
      refine Hcall.out.mono ?_
      rintro e w' ⟨rfl, q, rfl⟩
      cases px
      · go_wp2_with fail
        go_roundg (gk - 1)
        case measure => have := Hk.out; omega
        case rel => exact ⟨k + 1, q, by have := Hk.out; show _ = _; omega, by go_num, rfl, take_any_succ Hlc.out Hx.out Hpx.out Hany.out⟩
      · go_wp2_with fail
        go_ret
        exact ⟨ret_int (idxOf_hit Hlc.out Hx.out Hpx.out Hany.out).symm, _, rfl⟩
    · go_wp2_with fail
      go_ret
      have hk' : k = n := by have := Hk.out; omega
      subst hk'
      refine ⟨ret_int ?_, _, rfl⟩
      rw [idxOf_none]
      have := Hany.out
      rwa [List.take_of_length_le (by rw [Hlen.out]; exact Nat.le_refl _)] at this
set_option maxHeartbeats 400000 in
theorem containsFunc_any (A : Option Addr) (n c : Nat) (xs : List Int) (F : FuncId) (caps : Array Value) (p : Int → Bool) (w : World) (S : Nat → Prop) (hr : RInts w S A n xs) (hn : n ≤ maxLen) (hp : Asks w F caps xs p) :
    Calls Tryz.prog 9 #[.slice A n c, .func (.func F) #[] caps] w fun e w' => e = .returned (.bool (xs.any p)) ∧ ∃ q, w' = w.drewN q := by
  have Hcall := Lib.hid (indexFunc_any A n c xs F caps p w S hr hn hp)
  clear hr hp
  go_enter Tryz.func9, Tryz.ntmps9
  go_wp2_with fail
  refine Hcall.out.mono ?_
  rintro e w' ⟨rfl, q, rfl⟩
  generalize hi : idxOf p xs = i
  have Hi := Lib.hid hi; clear hi
  go_wp2_with fail
  go_ret
  refine ⟨ret_bool ?_, _, rfl⟩
  rw [← idxOf_any, Hi.out]
end Go.Proofs.YthpkffeiehnamaaGreatDoor

/- What TreeMeans calls: slices.Contains, IsSorted, Concat, Sort of ints; its closures. -/
namespace Go.Proofs.YthpkffeiehnamaaGreatDoor
open Go.RowKit Qm

theorem ints_cell {w : World} {S : Nat → Prop} {b o n : Nat} {xs : List Int} (h : RInts w S (some ⟨b, o, none⟩) n xs) : ∀ j, j < xs.length → w.cell? ⟨b, o + j, none⟩ = some (.int .i64 (xs.getD j 0)) := by
  intro j hj
  obtain ⟨b', o', e, _, hc⟩ := h.at_ (k := j) (by have := h.len; omega)
  injection e with e; injection e with e1 e2
  subst e1 e2
  exact hc
theorem containsI_any (A : Option Addr) (n c : Nat) (xs : List Int) (x : Int) (w : World) (S : Nat → Prop) (h : RInts w S A n xs) (hn : n ≤ maxLen) :
    Calls Tryz.prog 11 #[.slice A n c, .int .i64 x] w fun e w' => e = .returned (.bool (xs.contains x)) ∧ w' = w := by
  have hl := h.len
  unfold maxLen at hn
  by_cases h0 : n = 0
  · subst h0
    obtain rfl := List.eq_nil_of_length_eq_zero hl
    exact (Tryz.slices_Contains_int_empty A c x w).mono fun e w' ⟨he, hw⟩ => ⟨by simpa using he, hw⟩
  · obtain ⟨b, o, rfl, _⟩ := Row.some_lit h (by omega)
    refine (Tryz.slices_Contains_int b o n c xs x w (by omega) (by omega) (ints_cell h)).mono fun e w' ⟨he, hw⟩ => ⟨?_, hw⟩
    rw [he, List.take_of_length_le (by omega)]

/-! slices.Grow of nil, slices.Concat of two, of ints -/
def GrowI (w : World) (e : Ending) (w' : World) : Prop :=
  ∃ (A : Option Addr) (c : Nat), e = .returned (.slice A 0 c) ∧ w'.ownsRow w.heap.size 3 1 (.slice A 0 c) 0 [] ∧ Below w.heap.size w w'
set_option maxRecDepth 100000 in
set_option maxHeartbeats 2000000 in
theorem growI_any (n : Nat) (w : World) (hn : n ≤ 100000) : Calls Tryz.prog 35 #[.slice none 0 0, .int .i64 n] w (GrowI w) := by
  obtain ⟨i0, hi0, hz0, hs0, hby⟩ := info_parts int_info5
  by_cases h0 : n = 0
  · subst h0
    go_enter Tryz.func35, Tryz.ntmps35
    go_wp2
    go_ret
    exact ⟨none, 0, rfl, World.ownsRow_nil _ _ _ _, Below.refl _ _⟩
  · have hpos : 0 < (n : Int) := by omega
    have hold : (Builtin.firstCells i0.size 0 (.slice none 0 0)).run Tryz.prog w.drew = .ok #[] w.drew := run_firstCells_none w.drew i0.size 0 0 0
    have hrz : ∀ ty, (Builtin.append_ #[27, 3] ty #[.slice none 0 0, .int .i64 (n : Int)]).run Tryz.prog w =
        .ok (.slice (some ⟨w.heap.size, 0, none⟩) n (grownCap w n 0 3)) (w.drew.alloc (.cells (#[] ++ Builtin.zeroCells (Value.int .i64 0).cells n ++ Builtin.zeroCells (Value.int .i64 0).cells (grownCap w n 0 3 - n)) 3)) := fun ty => by
      have h := Lib.run_append_grow_zeros (P := Tryz.prog) w 27 3 ty 3 i0 (.int .i64 0) .i64 .i64 Tryz.underlying27 Tryz.underlying3 hi0 hz0 none 0 0 [] hold n (by omega) (by omega) (by omega) (by omega) (by rw [hby]; omega)
        (by rw [hby, Nat.zero_add]; exact growslice_fits (by omega) (by omega))
      simpa using h
    have hGn : n ≤ grownCap w n 0 3 := grownCap_ge w _ _ _
    have hGm : grownCap w n 0 3 ≤ maxLen := grownCap_le_maxLen w n 0 3 (by unfold maxLen; omega)
    generalize hG : grownCap w n 0 3 = G at hrz hGn hGm
    have hrz' : Hid _ := hrz
    have HG := Lib.hid hG
    have hgm := hGm
    unfold maxLen at hgm
    have Hgm := Lib.hid hGm
    clear hG hrz hold hGm
    go_enter Tryz.func35, Tryz.ntmps35
    go_wp2_with (at_builtin; refine Lib.wpList_append_run _ rfl _ _ _ _ rfl _ _ rfl rfl _ _ (hrz'.out _) ?_)
    go_wp2
    go_ret
    exact ⟨_, G, rfl, (World.ownsRow_made w _ G (Nat.le_refl _) Hgm.out (by simp [size_zeroCells]; omega)).drew, below_drewN ((Below.refl _ _).alloc (Nat.le_refl _) _) 1⟩
def OwnPost (w : World) (xs : List Int) (e : Ending) (w' : World) : Prop :=
  ∃ A c, e = .returned (.slice A xs.length c) ∧ w'.ownsRow w.heap.size 3 1 (.slice A xs.length c) xs.length (xs.map (.int .i64)) ∧ Below w.heap.size w w'
set_option maxRecDepth 100000 in
set_option maxHeartbeats 4000000 in
theorem concatI_any (b : Nat) (t : TypeId) (A1 A2 : Option Addr) (n1 c1 n2 c2 : Nat) (xs ys : List Int) (w : World) (S : Nat → Prop) (hS : ∀ k, S k → k < w.heap.size) (hw : Whole w b t [.slice A1 n1 c1, .slice A2 n2 c2])
    (h1 : RInts w S A1 n1 xs) (h2 : RInts w S A2 n2 ys) (hn : n1 + n2 ≤ 100000) :
    Calls Tryz.prog 13 #[.slice (some ⟨b, 0, none⟩) 2 2] w (OwnPost w (xs ++ ys)) := by
  obtain ⟨i0, hi, hz0, hz1, hz2⟩ := info_parts int_info5
  have HL : Hid ((xs ++ ys).length = n1 + n2 ∧ xs.length = n1) := Lib.hid ⟨by have := h1.len; have := h2.len; simp; omega, h1.len⟩
  have Hi := Lib.hid hi; have Hz0 := Lib.hid hz0; have Hz1 := Lib.hid hz1; have Hz2 := Lib.hid hz2
  have H1 := Lib.hid h1; have H2 := Lib.hid h2; have Hw := Lib.hid hw
  clear hi hz0 hz1 hz2 h1 h2
  have hc0 := hw.cell 0
  have hc1 := hw.cell 1
  simp only [List.getElem?_cons_zero, List.getElem?_cons_succ] at hc0 hc1
  clear hw
  have hn0 : n1 ≤ 100000 := by omega
  have hn1 : n2 ≤ 100000 := by omega
  have hgrow := growI_any (n1 + n2) w hn
  have Hgrow := Lib.hid hgrow; clear hgrow
  go_enter Tryz.func13, Tryz.ntmps13
  go_wp2_with fail
  refine wp_loop_rounds 3 ?_
  rw [rounds_succ]
  go_wp2_with fail
  rw [rounds_succ]
  go_wp2_with fail
  rw [rounds_succ]
  go_wp2_with fail
  refine Hgrow.out.mono ?_
  rintro e w1 ⟨A, c, rfl, hown, hb1⟩
  have Hown := Lib.hid hown; have Hb1 := Lib.hid hb1
  have hd0 := (hb1.cell (p := ⟨b, 0, none⟩) Hw.out.lt).trans hc0
  have hd1 := (hb1.cell (p := ⟨b, 1, none⟩) Hw.out.lt).trans hc1
  clear hc0 hc1 hown hb1
  go_wp2_with fail
  refine wp_loop_rounds 3 ?_
  rw [rounds_succ]
  go_wp2_with (at_builtin; refine wpList_append_row rfl _ _ 27 rfl w.heap.size 3 i0 (.int .i64 0) 8 Tryz.underlying27 Hi.out Hz0.out Hz1.out Hz2.out rfl _ 0 [] rfl Hown.out A1 n1 c1 (xs.map (.int .i64)) rfl S (Row.below H1.out Hb1.out hS) (by intro u hu; obtain ⟨x, _, rfl⟩ := List.mem_map.1 hu; rfl) (by unfold maxLen; omega) (by omega) Hb1.out.size ?_)
  intro A5 c5 w5 hn5 hc5 hown5 hg5
  have hb5 : Below w.heap.size w w5 := Hb1.out.grown hg5 Hb1.out.size (fun k e => (Hown.out.lt k e).1)
  have hs5 : w.heap.size ≤ w5.heap.size := hb5.size
  have hown5' : w5.ownsRow w.heap.size 3 1 (.slice A5 n1 c5) n1 (xs.map (.int .i64)) := by simpa using hown5
  have Hb5 := Lib.hid hb5; have Hown5 := Lib.hid hown5'
  have he1 := (hb5.cell (p := ⟨b, 1, none⟩) Hw.out.lt).trans (Hw.out.cell 1)
  simp only [List.getElem?_cons_zero, List.getElem?_cons_succ] at he1
  clear hd0 hd1 hown5 hg5 hb5 hown5'
  go_wp2_with fail
  rw [rounds_succ]
  go_wp2_with (at_builtin; refine wpList_append_row rfl _ _ 27 rfl w.heap.size 3 i0 (.int .i64 0) 8 Tryz.underlying27 Hi.out Hz0.out Hz1.out Hz2.out rfl _ n1 (xs.map (.int .i64)) rfl Hown5.out A2 n2 c2 (ys.map (.int .i64)) rfl S (Row.below H2.out Hb5.out hS) (by intro u hu; obtain ⟨x, _, rfl⟩ := List.mem_map.1 hu; rfl) (by unfold maxLen; omega) (by omega) hs5 ?_)
  intro A6 c6 w6 hn6 hc6 hown6 hg6
  have hb6 : Below w.heap.size w w6 := Hb5.out.grown hg6 hs5 (fun k e => (Hown5.out.lt k e).1)
  have Hb6 := Lib.hid hb6; have Hown6 := Lib.hid hown6
  clear he1 hown6 hg6 hb6
  go_wp2_with fail
  rw [rounds_succ]
  go_wp2_with fail
  go_ret
  unfold OwnPost
  rw [HL.out.1, List.map_append]
  exact ⟨A6, c6, rfl, Hown6.out, Hb6.out⟩

/-! slices.Sort -/
open Go.Sort in
theorem far_sortedI {w : World} {g n : Nat} {os : Array Obj} (d : Array Int) : Far (fun i => i = g) w (grow (putRow (Value.int .i64) (Sort.ahead w n) g 0 d) os) := by
  refine ⟨⟨rfl, rfl, rfl, by simp [grow, putRow, mapBlock, Sort.ahead], fun k hk => absurd hk (by omega)⟩, fun i hi hn => ?_⟩
  rw [heap_grow_old _ _ (by simpa [putRow, mapBlock, Sort.ahead] using hi)]
  simp only [putRow, mapBlock, Sort.ahead, Array.getElem?_modify]
  rw [if_neg (fun e => hn e.symm)]
def sortI (xs : List Int) : List Int := xs.mergeSort fun x y => decide (x ≤ y)
def SortI (base : Nat) (A : Option Addr) (n c : Nat) (xs : List Int) (w : World) (e : Ending) (w' : World) : Prop :=
  e = .returned (.tuple #[]) ∧ w'.ownsRow base 3 1 (.slice A n c) n ((sortI xs).map (.int .i64)) ∧ Far (fun i => (Value.slice A n c).ownBlock = some i) w w'
open Go.Sort in
theorem sortI_any (base : Nat) (A : Option Addr) (n c : Nat) (xs : List Int) (w : World) (hown : w.ownsRow base 3 1 (.slice A n c) n (xs.map (.int .i64))) (hn : n ≤ 100000) :
    Calls Tryz.prog 14 #[.slice A n c] w (SortI base A n c xs w) := by
  have hl : xs.length = n := by have := hown.1; simpa using this
  by_cases h0 : n = 0
  · subst h0
    obtain rfl := List.eq_nil_of_length_eq_zero hl
    refine (Tryz.slices_Sort_int_none A c w).mono ?_
    rintro e w' ⟨rfl, rfl⟩
    exact ⟨rfl, by simpa [sortI] using hown, Far.refl _ _⟩
  · obtain ⟨g, cap', hv, hb, hlt, hnc, hcm, _, hH⟩ := Lib.holds_of_ownsRow hown (by intro e; injection e with _ e2 _; exact h0 e2)
    injection hv with hv1 _ hv2
    subst hv1 hv2
    have h := Tryz.slices_Sort_int g 0 c xs w hH hlt (by omega)
    rw [hl] at h
    refine h.mono ?_
    rintro e w' ⟨rfl, k, os, rfl⟩
    refine ⟨rfl, ?_, (far_sortedI _).mono fun i hi => by rw [hi]; rfl⟩
    have hs : (sortI xs).length = n := by unfold sortI; rw [List.length_mergeSort]; exact hl
    have := Lib.ownsRow_putRow (q := k) (k := n) (ys := sortI xs) hown hs (Nat.le_refl _)
    rw [List.take_of_length_le (by omega)] at this
    exact own_grow os this
end Go.Proofs.YthpkffeiehnamaaGreatDoor

/- slices.IsSorted of ints. -/
namespace Go.Proofs.YthpkffeiehnamaaGreatDoor
open Go.RowKit Qm

set_option maxHeartbeats 1000000 in
theorem lessI_any (x y : Int) (w : World) : Calls Tryz.prog 34 #[.int .i64 x, .int .i64 y] w fun e w' => e = .returned (.bool (decide (x < y))) ∧ w' = w := by
  go_enter Tryz.func34, Tryz.ntmps34
  go_wp2
  go_ret
  exact ⟨rfl, rfl⟩
theorem rises_at {xs : List Int} (h : xs.Pairwise (· ≤ ·)) {j : Nat} (hj : j + 1 < xs.length) : ¬ xs.getD (j + 1) 0 < xs.getD j 0 := by
  have := List.pairwise_iff_getElem.1 h j (j + 1) (by omega) hj (by omega)
  rw [List.getD_eq_getElem?_getD, List.getD_eq_getElem?_getD, List.getElem?_eq_getElem hj, List.getElem?_eq_getElem (by omega : j < xs.length)]
  simp only [Option.getD_some]; omega
set_option maxRecDepth 100000 in
set_option maxHeartbeats 2000000 in
theorem sortedI_any (A : Option Addr) (n c : Nat) (xs : List Int) (w : World) (S : Nat → Prop) (hr : RInts w S A n xs) (hn : n ≤ 100000) (hs : xs.Pairwise (· ≤ ·)) :
    Calls Tryz.prog 12 #[.slice A n c] w fun e w' => e = .returned (.bool true) ∧ ∃ q, w' = w.drewN q := by
  have Hlen := Lib.hid hr.len
  have HR := Lib.hid hr
  have HS := Lib.hid (fun j hj => rises_at (j := j) hs hj)
  clear hr hs
  go_enter Tryz.func12, Tryz.ntmps12
  go_wp2_with fail
  go_loopg [3] n (fun g iv wr => ∃ (i : Int) (d : Nat), iv = .int .i64 i ∧ -1 ≤ i ∧ i < n ∧ Hid ((i + 1).toNat ≤ g) ∧ Hid (wr = w.drewN d))
  case atStart => exact ⟨(n : Int) - 1, 0, rfl, by omega, by omega, Lib.hid (by omega), Lib.hid rfl⟩
  case round =>
    obtain ⟨i, d, rfl, hi1, hi2, Hg, Hw⟩ := hrel
    have HRr : Hid (RInts wr S A n xs) := Lib.hid (by rw [Hw.out]; exact HR.out.keep fun _ _ => rfl)
    by_cases h0 : 0 < i
    · obtain ⟨j, rfl⟩ : ∃ j : Nat, i = (j : Int) + 1 := ⟨(i - 1).toNat, by omega⟩
      obtain ⟨b, o, rfl, hb, hc⟩ := HRr.out.at_ (k := j + 1) (by omega)
      obtain ⟨b', o', e, hb', hc'⟩ := HRr.out.at_ (k := j) (by omega)
      injection e with e; injection e with e1 e2; subst e1 e2
      have hlt := HS.out j (by have := Hlen.out; omega)
      generalize xs.getD (j + 1) 0 = u at hc hlt
      generalize xs.getD j 0 = v at hc' hlt
      have hd : decide (u < v) = false := decide_eq_false (by omega)
      have Hc := Lib.hid (fun wx => lessI_any u v wx)
      rw [hd] at Hc
      have q1 : IntKind.i64.wrap ((j : Int) + 1 - 1) = (j : Int) := by rw [IntKind.wrap_i64]; omega
      have q0 : IntKind.i64.wrap (j : Int) = (j : Int) := by rw [IntKind.wrap_i64]; omega
      have q2 : ((j : Int) + 1).toNat = j + 1 := by omega
      have q3 : (j : Int) < n := by omega
      have q4 : (0 : Int) ≤ (j : Int) + 1 := by omega
      clear hlt hd
      go_wp2_with fail
      go_quiet ((go_at_call 34; exact Calls.quiet_of_same (Hc.out _)))
      clear q0 q1 q2 q4
      go_wp2_with fail
      go_roundg (gk - 1)
      case measure => have := Hg.out; omega
      case rel => exact ⟨j, _, by first | rfl | go_num, by omega, by omega, Lib.hid (by have := Hg.out; omega), Lib.hid (by rw [Hw.out]; first | rfl | exact World.drewN_drewN _ _ _)⟩
    · go_wp2_with fail
      go_ret
      exact ⟨rfl, _, Hw.out⟩

end Go.Proofs.YthpkffeiehnamaaGreatDoor

/- The closures of TreeMeans, walked. -/
namespace Go.Proofs.YthpkffeiehnamaaGreatDoor
open Go.RowKit Qm

set_option maxHeartbeats 1000000 in
theorem inNot_any (x : Int) (bm : Nat) (Am : Option Addr) (nm cm : Nat) (ms : List Int) (w : World) (S : Nat → Prop) (hc : w.cell? ⟨bm, 0, none⟩ = some (.slice Am nm cm)) (hm : RInts w S Am nm ms) (hn : nm ≤ maxLen) :
    Calls Tryz.prog 10 #[.int .i64 x, .pointer (some ⟨bm, 0, none⟩)] w fun e w' => e = .returned (.bool (!ms.contains x)) ∧ ∃ q, w' = w.drewN q := by
  have Hco := Lib.hid (containsI_any Am nm cm ms x w S hm hn)
  generalize ms.contains x = q at Hco ⊢
  clear hm
  go_enter Tryz.func10, Tryz.ntmps10
  go_wp2_with (first | (go_at_call 11; refine Hco.out.mono ?_; rintro e w1 ⟨rfl, hw1⟩; have hw2 := hw1.symm; subst hw2; refine Hid.out ?_))
  refine Lib.hid ?_
  go_wp2
  go_ret
  exact ⟨rfl, 0, rfl⟩

def InPost (w : World) (ms : List Int) (e : Ending) (w' : World) : Prop :=
  ∃ Am cm, e = .returned (.tuple #[.slice Am ms.length cm, .bool true]) ∧ RInts w' (fun i => w.heap.size ≤ i ∧ i < w'.heap.size) Am ms.length ms ∧ ms.length ≤ cm ∧ cm ≤ maxLen ∧ Below w.heap.size w w'
set_option maxRecDepth 100000 in
set_option maxHeartbeats 3200000 in
theorem in_any (ps : List Pk) (b : At) (S T : Nat → Prop) (A Al : Option Addr) (n c nl cl tb lb : Nat) (ls : List Int) (w : World) (hT : RTree w S A n ps) (hnc : n ≤ c) (hc : c ≤ maxLen) (h1 : b.nm.length ≤ maxLen) (h2 : b.fl.length ≤ maxLen) (hS : ∀ k, S k → k < w.heap.size)
    (ht : w.cell? ⟨tb, 0, none⟩ = some (.slice A n c)) (hl : w.cell? ⟨lb, 0, none⟩ = some (.slice Al nl cl)) (hls : RInts w T Al nl ls) (hT2 : ∀ k, T k → k < w.heap.size) (hnl : nl ≤ maxLen) (hm : ∀ k ∈ ls, k ∈ meansL ps b) (he : meansE ps b = 0) :
    Calls Tryz.prog 8 #[.agg #[.string ⟨b.nm.toArray⟩, .int .i64 b.op, .int .i64 b.ver, .int .i64 b.slot, .string ⟨b.fl.toArray⟩, .bool b.on], .pointer (some ⟨tb, 0, none⟩), .pointer (some ⟨lb, 0, none⟩)] w (InPost w (meansL ps b)) := by
  have hbx : Below w.heap.size w (w.alloc (.cells #[.string ⟨b.nm.toArray⟩, .int .i64 b.op, .int .i64 b.ver, .int .i64 b.slot, .string ⟨b.fl.toArray⟩, .bool b.on] 26)) := (Below.refl _ w).alloc (Nat.le_refl _) _
  have htb := World.block_lt_of_cell? _ _ ht
  have hlb := World.block_lt_of_cell? _ _ hl
  have hme := means_any ps b S A n c _ (hT.under hbx hS) hnc hc h1 h2 (fun k hk => Nat.lt_of_lt_of_le (hS k hk) hbx.size)
  unfold MeansPost at hme
  rw [he] at hme
  have Hany : Hid (ls.any (fun x => !(meansL ps b).contains x) = false) := Lib.hid (by
    rw [List.any_eq_false]
    intro x hx
    have := hm x hx
    simpa using this)
  generalize meansL ps b = ms at hme Hany ⊢
  have Hme := Lib.hid hme
  have HBX := Lib.hid hbx
  have HLS := Lib.hid hls
  have HS := Lib.hid hT2
  clear hme hm he hT hbx hls hS hT2
  dsimp only at htb hlb
  go_enter Tryz.func8, Tryz.ntmps8
  go_wp2_with (first | (go_at_call 6; refine Hme.out.mono ?_; rintro e w2 ⟨Am, cm, rfl, hmr, hm1, hm2, hb2⟩; refine Hid.out ?_))
  refine Lib.hid ?_
  have hb2' := HBX.out.trans (hb2.mono HBX.out.size)
  have hl2 := (hb2'.cell (p := ⟨lb, 0, none⟩) hlb).trans hl
  have hbm : Below w2.heap.size w2 (w2.alloc (.cells #[.slice Am ms.length cm] 27)) := (Below.refl _ w2).alloc (Nat.le_refl _) _
  have hlb2 := Nat.lt_of_lt_of_le hlb hb2'.size
  have hl3 := (hbm.cell (p := ⟨lb, 0, none⟩) hlb2).trans hl2
  have hW := Whole.new w2 w2.heap.size 27 [.slice Am ms.length cm] rfl
  have m0 := hW.cell 0
  simp only [List.getElem?_cons_zero] at m0
  have HM3 := Lib.hid ((hmr.below hbm fun k hk => hk.2).more (S' := fun i => w.heap.size ≤ i ∧ i < w2.heap.size) fun k hk => ⟨Nat.le_trans HBX.out.size hk.1, hk.2⟩)
  have HB3 := Lib.hid (hb2'.trans (hbm.mono hb2'.size))
  have Hcf := Lib.hid (containsFunc_any Al nl cl ls 10 #[.pointer (some ⟨w2.heap.size, 0, none⟩)] (fun x => !ms.contains x) ((w2.alloc (.cells #[.slice Am ms.length cm] 27)).drew) T ((HLS.out.below HB3.out HS.out).keep fun _ _ => rfl) hnl
    ⟨fun args W => by kernel_rfl, fun x _ d => (inNot_any x w2.heap.size Am ms.length cm ms (((w2.alloc (.cells #[.slice Am ms.length cm] 27)).drew).drewN d) _ m0 (RInts.keep HM3.out fun _ _ => rfl) (Nat.le_trans hm1 hm2)).mono fun e w' ⟨h1, q, hq⟩ => ⟨h1, d + q, by rw [hq, World.drewN_drewN]⟩⟩)
  rw [Hany.out] at Hcf
  have HB4 := Lib.hid (fun q => below_drewN HB3.out q)
  have hlt2 := hW.lt
  clear hb2 hb2' hl2 hbm hmr hW hl ht
  go_wp2_with fail
  generalize World.alloc _ _ = w3 at *
  go_region_held3 (fun w' => w'.cell? ⟨w2.heap.size, 0, none⟩ = some (.slice Am ms.length cm) ∧ w'.cell? ⟨lb, 0, none⟩ = some (.slice Al nl cl)) (first | go_keep | exact ⟨m0, hl3⟩)
    (first | (go_at_call 9; refine Hcf.out.mono ?_; rintro e w5 ⟨rfl, q, rfl⟩) | fail)
  go_wp2
  go_ret2
  exact ⟨Am, cm, rfl, (RInts.keep HM3.out fun _ _ => rfl).more fun i hi => ⟨hi.1, Nat.lt_trans hi.2 hlt2⟩, hm1, hm2, HB4.out _⟩
end Go.Proofs.YthpkffeiehnamaaGreatDoor
