/- Parts of the proof: walks and plain laws, side by side. -/
import Derived.Test.YthpkffeiehnamaaGreatDoorM12
import Derived.Test.YthpkffeiehnamaaGreatDoorM14
import Derived.Test.YthpkffeiehnamaaGreatDoorM5
import Derived.Test.YthpkffeiehnamaaGreatDoorProg
import Derived.Test.YthpkffeiehnamaaGreatDoorM2
import Derived.Deep.QuietTactic
import Derived.BigQuiet
import Derived.Deep.LoopGhost
import Derived.Test.YthpkffeiehnamaaGreatDoorM4
import Derived.Test.YthpkffeiehnamaaGreatDoorShelf
import Derived.LoopN
import Derived.IntWalk
import Derived.Deep.RegionHeld3
import Derived.Laws.EntriesVeiled
import Derived.Shelf.Strings.BuilderK
import Derived.Shelf.Strings.BuilderF
set_option linter.unusedVariables false
set_option linter.unusedSimpArgs false
set_option linter.unusedSectionVars false
/- tree.Means, walked. -/
namespace Go.Proofs.YthpkffeiehnamaaGreatDoor
open Go.RowKit Qm

/-- An atom means a package: by name, version, slot; and the package has its flag. -/
def meant (a : At) (p : Pk) : Bool := decide (p.nm = a.nm) && (fitsP a p.ver p.slot && (decide (a.fl = []) || p.fs.contains a.fl))
def meantTo (ps : List Pk) (a : At) : Nat → List Int
  | 0 => []
  | j + 1 => meantTo ps a j ++ (match ps[j]? with | some p => if meant a p = true then [(j : Int)] else [] | none => [])
theorem meantTo_yes {ps : List Pk} {a : At} {j : Nat} {p : Pk} (h : ps[j]? = some p) (hm : meant a p = true) : meantTo ps a (j + 1) = meantTo ps a j ++ [(j : Int)] := by
  rw [meantTo, h]; simp only [hm, if_true]
theorem meantTo_no {ps : List Pk} {a : At} {j : Nat} {p : Pk} (h : ps[j]? = some p) (hm : meant a p = false) : meantTo ps a (j + 1) = meantTo ps a j := by
  rw [meantTo, h]; simp [hm]
theorem meantTo_len {ps : List Pk} {a : At} : ∀ j, (meantTo ps a j).length ≤ j
  | 0 => Nat.le_refl _
  | j + 1 => by
    have := meantTo_len (ps := ps) (a := a) j
    rw [meantTo, List.length_append]
    have : (match ps[j]? with | some p => if meant a p = true then [(j : Int)] else [] | none => []).length ≤ 1 := by
      split
      · split <;> simp
      · simp
    omega
theorem ckTree_len {ps : List Pk} (h : ckTree ps = 0) : ps.length ≤ 8 := by
  unfold ckTree at h
  split at h
  · cases h
  · omega
def meansE (ps : List Pk) (a : At) : Int := if ckTree ps ≠ 0 then ckTree ps else ckAtom a
def meansL (ps : List Pk) (a : At) : List Int := if meansE ps a = 0 then meantTo ps a ps.length else []

structure Mx (w : World) (A : Option Addr) (n c : Nat) (av : List Value) (wr : World) : Prop where
  below : Below w.heap.size w wr
  t : Whole wr w.heap.size 24 [.slice A n c]
  a : Whole wr (w.heap.size + 1) 26 av
theorem Mx.move {w : World} {A : Option Addr} {n c : Nat} {av : List Value} {w1 w2 : World} (h : Mx w A n c av w1) (hb : Below w1.heap.size w1 w2) : Mx w A n c av w2 :=
  ⟨h.below.trans (hb.mono h.below.size), h.t.below hb h.t.lt, h.a.below hb h.a.lt⟩
theorem Mx.new (w : World) (A : Option Addr) (n c : Nat) (av : List Value) : Mx w A n c av ((w.alloc (.cells #[.slice A n c] 24)).alloc (.cells av.toArray 26)) := by
  have hb1 : Below w.heap.size w (w.alloc (.cells #[.slice A n c] 24)) := (Below.refl _ w).alloc (Nat.le_refl _) _
  have ht := Whole.new w w.heap.size 24 [.slice A n c] rfl
  have hb2 : Below (w.alloc (.cells #[.slice A n c] 24)).heap.size (w.alloc (.cells #[.slice A n c] 24)) ((w.alloc (.cells #[.slice A n c] 24)).alloc (.cells av.toArray 26)) := (Below.refl _ _).alloc (Nat.le_refl _) _
  exact ⟨hb1.trans (hb2.mono hb1.size), ht.below hb2 ht.lt, Whole.new _ _ _ av (by simp)⟩
def MeansPost (w : World) (ps : List Pk) (a : At) (e : Ending) (w' : World) : Prop :=
  ∃ A c, e = .returned (.tuple #[.slice A (meansL ps a).length c, .int .i64 (meansE ps a)]) ∧ RInts w' (fun i => w.heap.size ≤ i ∧ i < w'.heap.size) A (meansL ps a).length (meansL ps a) ∧ (meansL ps a).length ≤ c ∧ c ≤ maxLen ∧ Below w.heap.size w w'
theorem MeansPost.err {w w' : World} {ps : List Pk} {a : At} {z : Int} (hz : z ≠ 0) (he : meansE ps a = z) (hb : Below w.heap.size w w') : MeansPost w ps a (.returned (.tuple #[.slice none 0 0, .int .i64 z])) w' := by
  have hl : meansL ps a = [] := by unfold meansL; rw [if_neg (by rw [he]; exact hz)]
  exact ⟨none, 0, by rw [hl, he]; rfl, by rw [hl]; exact Row.nil_, by rw [hl]; exact Nat.le_refl _, Nat.zero_le _, hb⟩
theorem MeansPost.ok {w w3 w' : World} {ps : List Pk} {a : At} {v : Value} (he : meansE ps a = 0) (hw : w.heap.size ≤ w3.heap.size) (hown : w'.ownsRow w3.heap.size 3 1 v (meantTo ps a ps.length).length ((meantTo ps a ps.length).map (.int .i64))) (hb : Below w.heap.size w w') :
    MeansPost w ps a (.returned (.tuple #[v, .int .i64 0])) w' := by
  have hl : meansL ps a = meantTo ps a ps.length := by unfold meansL; rw [if_pos he]
  obtain ⟨A, c, rfl, h1, h2, h3⟩ := own_form hown
  unfold MeansPost
  rw [hl, he]
  exact ⟨A, c, rfl, h3.more fun k hk => ⟨Nat.le_trans hw hk.1, hk.2⟩, h1, h2, hb⟩
theorem int_info5 : (Tryz.prog.info? 3).map (fun i => (i.zero, i.size, i.bytes)) = some (some (.int .i64 0), 1, 8) := by kernel_rfl
set_option maxRecDepth 100000 in
set_option maxHeartbeats 3200000 in
theorem means_any (ps : List Pk) (a : At) (S : Nat → Prop) (A : Option Addr) (n c : Nat) (w : World) (hT : RTree w S A n ps) (hnc : n ≤ c) (hc : c ≤ maxLen) (h1 : a.nm.length ≤ maxLen) (h2 : a.fl.length ≤ maxLen) (hS : ∀ k, S k → k < w.heap.size) :
    Calls Tryz.prog 6 #[.agg #[.slice A n c], .agg #[.string ⟨a.nm.toArray⟩, .int .i64 a.op, .int .i64 a.ver, .int .i64 a.slot, .string ⟨a.fl.toArray⟩, .bool a.on]] w (MeansPost w ps a) := by
  have hl := hT.len
  have X0 := Lib.hid (Mx.new w A n c [.string ⟨a.nm.toArray⟩, .int .i64 a.op, .int .i64 a.ver, .int .i64 a.slot, .string ⟨a.fl.toArray⟩, .bool a.on])
  have HT1 := Lib.hid (hT.under X0.out.below hS)
  have HS1 := Lib.hid (fun q hq => Nat.lt_of_lt_of_le (hS q hq) X0.out.below.size)
  have HT := Lib.hid hT; have HS := Lib.hid hS; clear hT hS
  have Htc := Lib.hid (fun wx h1 h2 => tCheck_any ps S A n c wx h1 hnc hc h2)
  have hcm := hc
  unfold maxLen at hcm
  have hac := fun wx => check_any ⟨a.nm.toArray⟩ ⟨a.fl.toArray⟩ a.op a.ver a.slot a.on wx (by rw [bsz]; exact h1) (by rw [bsz]; exact h2)
  rw [atOf_mk] at hac
  unfold atv at hac
  have Hac := Lib.hid hac; clear hac
  have HE : Hid (meansE ps a = if ckTree ps ≠ 0 then ckTree ps else ckAtom a) := Lib.hid rfl
  generalize hz : ckTree ps = z at Htc HE
  have HZ := Lib.hid hz; clear hz
  generalize ckAtom a = y at Hac HE
  by_cases z0 : z = 0
  · subst z0
    by_cases y0 : y = 0
    · subst y0
      have hn8 : n ≤ 8 := by rw [← hl]; exact ckTree_len HZ.out
      have HE0 : Hid (meansE ps a = 0) := Lib.hid (by rw [HE.out]; simp)
      clear HE
      go_enter Tryz.func6, Tryz.ntmps6
      go_wp2_with (first | (go_at_call 20; refine (Htc.out _ HT1.out HS1.out).mono ?_; rintro e w1 ⟨rfl, hb1⟩; refine Hid.out ?_))
      refine Lib.hid ?_
      have X1 := Lib.hid (X0.out.move hb1)
      clear hb1
      have a0 := X1.out.a.cell 0; have a1 := X1.out.a.cell 1; have a2 := X1.out.a.cell 2; have a3 := X1.out.a.cell 3; have a4 := X1.out.a.cell 4; have a5 := X1.out.a.cell 5
      simp only [List.getElem?_cons_zero, List.getElem?_cons_succ] at a0 a1 a2 a3 a4 a5
      have hlt := X1.out.a.lt
      go_wp2_with (first | (go_at_call 30; refine (Hac.out _).mono ?_; rintro e w2 ⟨rfl, hb2⟩; refine Hid.out ?_))
      refine Lib.hid ?_
      clear a0 a1 a2 a3 a4 a5 hlt
      have X2 := Lib.hid (X1.out.move hb2)
      clear hb2 X1 X0 HT1 HS1 Htc Hac
      have t0 := X2.out.t.cell 0
      simp only [List.getElem?_cons_zero] at t0
      obtain ⟨i0, hi, hz0, hz1, hz2⟩ := info_parts int_info5
      go_wp2
      clear t0
      go_loopg [8, 24] n (fun g lv iv wr => ∃ j : Nat, Hid (j + g = n) ∧ iv = .int .i64 j ∧ Hid (wr.ownsRow w2.heap.size 3 1 lv (meantTo ps a j).length ((meantTo ps a j).map (.int .i64))) ∧ Hid (Below w2.heap.size w2 wr))
      case atStart => exact ⟨0, Lib.hid (Nat.zero_add _), rfl, Lib.hid (World.ownsRow_nil _ _ _ _), Lib.hid (Below.refl _ _)⟩
      case round =>
        obtain ⟨j, Hj, rfl, Hown, HB⟩ := hrel
        have XR := Lib.hid (X2.out.move HB.out)
        by_cases hj : j < n
        · obtain ⟨b, o, p, B, m', c', k, f, g, no, D, q, d, rfl, hbS, hp, hP, hcell⟩ := (HT.out.under XR.out.below HS.out).at_ hj
          have Hyes := Lib.hid (fun h => meantTo_yes (a := a) hp h)
          have Hno := Lib.hid (fun h => meantTo_no (a := a) hp h)
          have HM : Hid (meant a p = (decide (p.nm = a.nm) && (fitsP a p.ver p.slot && (decide (a.fl = []) || p.fs.contains a.fl)))) := Lib.hid rfl
          have hml := meantTo_len (ps := ps) (a := a) j
          generalize meant a p = mm at Hyes Hno HM
          have g0 := hcell 0 (by omega); have g1 := hcell 1 (by omega); have g2 := hcell 2 (by omega); have g3 := hcell 3 (by omega); have g4 := hcell 4 (by omega); have g5 := hcell 5 (by omega); have g6 := hcell 6 (by omega); have g7 := hcell 7 (by omega); have g8 := hcell 8 (by omega); have g9 := hcell 9 (by omega); have g10 := hcell 10 (by omega); have g11 := hcell 11 (by omega); have g12 := hcell 12 (by omega); have g13 := hcell 13 (by omega)
          unfold pkRow ndRow at g0 g1 g2 g3 g4 g5 g6 g7 g8 g9 g10 g11 g12 g13
          simp only [List.getElem?_cons_zero, List.getElem?_cons_succ, Nat.add_zero] at g0 g1 g2 g3 g4 g5 g6 g7 g8 g9 g10 g11 g12 g13
          clear hcell hp
          have P1 := Lib.hid (Pb.new wr (pkRow p B m' c' (ndRow k f g no D q d)))
          have HFS := Lib.hid hP.fs
          have HPm := Lib.hid (Nat.le_trans hP.cap hP.max)
          have HSr : Hid (∀ x, S x → x < wr.heap.size) := Lib.hid fun x hx => Nat.lt_of_lt_of_le (HS.out x hx) XR.out.below.size
          clear hP
          have Hft := Lib.hid (fun wx => fits_any ⟨a.nm.toArray⟩ ⟨a.fl.toArray⟩ a.op a.ver a.slot p.ver p.slot a.on wx)
          rw [atOf_mk] at Hft
          unfold atv at Hft
          obtain ⟨nm, ver, slot, fs, nd⟩ := p
          unfold pkRow ndRow at P1
          dsimp only at g0 g1 g2 g3 g4 g5 g6 g7 g8 g9 g10 g11 g12 g13 P1 HFS Hft HM
          have a0 := XR.out.a.cell 0; have a1 := XR.out.a.cell 1; have a2 := XR.out.a.cell 2; have a3 := XR.out.a.cell 3; have a4 := XR.out.a.cell 4; have a5 := XR.out.a.cell 5
          simp only [List.getElem?_cons_zero, List.getElem?_cons_succ] at a0 a1 a2 a3 a4 a5
          have hlt := XR.out.a.lt
          generalize fitsP a ver slot = ft at Hft HM
          by_cases hn : nm = a.nm
          · subst hn
            have H1 : Hid (mm = (ft && (decide (a.fl = []) || fs.contains a.fl))) := Lib.hid (by rw [HM.out]; simp)
            clear HM
            cases ft
            · have HN := Lib.hid (Hno.out (by rw [H1.out]; rfl))
              go_wp2_with (first | (go_at_call 31; refine (Hft.out _).mono ?_; rintro e w4 ⟨rfl, hb4⟩; refine Hid.out ?_))
              refine Lib.hid ?_
              have HB4 := Lib.hid ((P1.out.move hb4).below)
              clear hb4
              go_wp2
              go_roundg (gk - 1)
              case measure => have := Hj.out; omega
              case rel => exact ⟨j + 1, Lib.hid (by have := Hj.out; omega), by go_num, Lib.hid (by rw [HN.out]; exact (Far.of_below (fun _ => False) HB4.out).own Hown.out fun _ _ h => h), Lib.hid (HB.out.trans (HB4.out.mono HB.out.size))⟩
            · by_cases hfl : a.fl = []
              · have HN := Lib.hid (Hyes.out (by rw [H1.out, decide_eq_true hfl]; rfl))
                have Hfl := Lib.hid hfl
                clear hfl
                go_wp2_with (first | (go_at_call 31; refine (Hft.out _).mono ?_; rintro e w4 ⟨rfl, hb4⟩; refine Hid.out ?_))
                refine Lib.hid ?_
                have P4 := Lib.hid (P1.out.move hb4)
                have X4 := Lib.hid (XR.out.move P4.out.below)
                clear hb4
                have HOW4 := Lib.hid ((Far.of_below (fun _ => False) P4.out.below).own Hown.out fun _ _ h => h)
                have b4 := X4.out.a.cell 4
                have p3 := P4.out.whole.cell 3
                simp only [List.getElem?_cons_zero, List.getElem?_cons_succ] at b4 p3
                rw [Hfl.out] at b4
                go_wp2_with (at_builtin; refine wpList_append_own _ rfl _ _ 27 rfl w2.heap.size 3 i0 (.int .i64 0) 1 8 Tryz.underlying27 hi hz0 hz1 hz2 rfl (by decide) _ _ _ rfl (HOW4.out.alloc _) ⟨w4.heap.size, 0, none⟩ 1 1 [.int .i64 (j : Int)] rfl rfl ?c1 ?c2 ?c3 ?c4 ?c5 ?_)
                case c1 => exact cell_one_new _ _ _
                case c2 => simp [Value.oneCell']
                case c3 => unfold maxLen; omega
                case c4 => omega
                case c5 => have := HB.out.size; have := P4.out.below.size; simp; omega
                intro lv' w6 hown6 hg6 _
                have HB4 := HB.out.trans (P4.out.below.mono HB.out.size)
                have hbel6 : Below w2.heap.size w2 w6 := (HB4.alloc HB4.size _).trans (below_of_grown hg6 (by have := HB4.size; simp; omega) (fun k e => (HOW4.out.lt k e).1))
                have hown7 : w6.ownsRow w2.heap.size 3 1 lv' (meantTo ps a (j + 1)).length ((meantTo ps a (j + 1)).map (Value.int .i64)) := by
                  rw [HN.out, List.length_append, List.map_append]; exact hown6
                have Hown7 := Lib.hid hown7; have Hbel6 := Lib.hid hbel6
                clear hown6 hg6 hown7 hbel6 HB4
                go_wp2_with fail
                go_roundg (gk - 1)
                case measure => have := Hj.out; omega
                case rel => exact ⟨j + 1, Lib.hid (by have := Hj.out; omega), by go_num, Hown7, Hbel6⟩
              · have hf1 : (a.fl == []) = false := by simpa using hfl
                have hf2 : a.fl.isEmpty = false := by simpa using hfl
                have Hfl := Lib.hid hfl
                clear hfl
                cases hq : fs.contains a.fl
                · have HN := Lib.hid (Hno.out (by rw [H1.out, decide_eq_false Hfl.out, hq]; rfl))
                  go_wp2_with (first | (go_at_call 31; refine (Hft.out _).mono ?_; rintro e w4 ⟨rfl, hb4⟩; refine Hid.out ?_))
                  refine Lib.hid ?_
                  have P4 := Lib.hid (P1.out.move hb4)
                  have X4 := Lib.hid (XR.out.move P4.out.below)
                  clear hb4
                  have HOW4 := Lib.hid ((Far.of_below (fun _ => False) P4.out.below).own Hown.out fun _ _ h => h)
                  have b4 := X4.out.a.cell 4
                  have p3 := P4.out.whole.cell 3
                  simp only [List.getElem?_cons_zero, List.getElem?_cons_succ] at b4 p3
                  have Hco := Lib.hid (containsS_any B m' c' fs a.fl w4 S (HFS.out.row.below P4.out.below HSr.out) HPm.out)
                  rw [hq] at Hco
                  go_wp2_with (first | (go_at_call 28; refine Hco.out.mono ?_; rintro e w5 ⟨rfl, hw5⟩; have hw6 := hw5.symm; subst hw6; refine Hid.out ?_))
                  refine Lib.hid ?_
                  go_wp2
                  go_roundg (gk - 1)
                  case measure => have := Hj.out; omega
                  case rel => exact ⟨j + 1, Lib.hid (by have := Hj.out; omega), by go_num, Lib.hid (by rw [HN.out]; exact HOW4.out), Lib.hid (HB.out.trans (P4.out.below.mono HB.out.size))⟩
                · have HN := Lib.hid (Hyes.out (by rw [H1.out, decide_eq_false Hfl.out, hq]; rfl))
                  go_wp2_with (first | (go_at_call 31; refine (Hft.out _).mono ?_; rintro e w4 ⟨rfl, hb4⟩; refine Hid.out ?_))
                  refine Lib.hid ?_
                  have P4 := Lib.hid (P1.out.move hb4)
                  have X4 := Lib.hid (XR.out.move P4.out.below)
                  clear hb4
                  have HOW4 := Lib.hid ((Far.of_below (fun _ => False) P4.out.below).own Hown.out fun _ _ h => h)
                  have b4 := X4.out.a.cell 4
                  have p3 := P4.out.whole.cell 3
                  simp only [List.getElem?_cons_zero, List.getElem?_cons_succ] at b4 p3
                  have Hco := Lib.hid (containsS_any B m' c' fs a.fl w4 S (HFS.out.row.below P4.out.below HSr.out) HPm.out)
                  rw [hq] at Hco
                  go_wp2_with (first | (go_at_call 28; refine Hco.out.mono ?_; rintro e w5 ⟨rfl, hw5⟩; have hw6 := hw5.symm; subst hw6; refine Hid.out ?_))
                  refine Lib.hid ?_
                  go_wp2_with (at_builtin; refine wpList_append_own _ rfl _ _ 27 rfl w2.heap.size 3 i0 (.int .i64 0) 1 8 Tryz.underlying27 hi hz0 hz1 hz2 rfl (by decide) _ _ _ rfl (HOW4.out.alloc _) ⟨w4.heap.size, 0, none⟩ 1 1 [.int .i64 (j : Int)] rfl rfl ?c1 ?c2 ?c3 ?c4 ?c5 ?_)
                  case c1 => exact cell_one_new _ _ _
                  case c2 => simp [Value.oneCell']
                  case c3 => unfold maxLen; omega
                  case c4 => omega
                  case c5 => have := HB.out.size; have := P4.out.below.size; simp; omega
                  intro lv' w6 hown6 hg6 _
                  have HB4 := HB.out.trans (P4.out.below.mono HB.out.size)
                  have hbel6 : Below w2.heap.size w2 w6 := (HB4.alloc HB4.size _).trans (below_of_grown hg6 (by have := HB4.size; simp; omega) (fun k e => (HOW4.out.lt k e).1))
                  have hown7 : w6.ownsRow w2.heap.size 3 1 lv' (meantTo ps a (j + 1)).length ((meantTo ps a (j + 1)).map (Value.int .i64)) := by
                    rw [HN.out, List.length_append, List.map_append]; exact hown6
                  have Hown7 := Lib.hid hown7; have Hbel6 := Lib.hid hbel6
                  clear hown6 hg6 hown7 hbel6 HB4
                  go_wp2_with fail
                  go_roundg (gk - 1)
                  case measure => have := Hj.out; omega
                  case rel => exact ⟨j + 1, Lib.hid (by have := Hj.out; omega), by go_num, Hown7, Hbel6⟩
          · have hn' : (nm == a.nm) = false := by simpa using hn
            have HN := Lib.hid (Hno.out (by rw [HM.out, decide_eq_false hn]; rfl))
            go_wp2
            go_roundg (gk - 1)
            case measure => have := Hj.out; omega
            case rel => exact ⟨j + 1, Lib.hid (by have := Hj.out; omega), by go_num, Lib.hid (by rw [HN.out]; exact Hown.out.alloc _), Lib.hid (HB.out.trans (P1.out.below.mono HB.out.size))⟩
        · have hjn : n = j := by have := Hj.out; omega
          subst hjn
          have HF := Lib.hid (MeansPost.ok (w := w) HE0.out X2.out.below.size (by rw [hl]; exact Hown.out) XR.out.below)
          go_wp2
          go_ret2
          exact HF.out
    · have HE1 : Hid (meansE ps a = y) := Lib.hid (by rw [HE.out]; simp)
      have y1 : (y != 0) = true := by simpa using y0
      go_enter Tryz.func6, Tryz.ntmps6
      go_wp2_with (first | (go_at_call 20; refine (Htc.out _ HT1.out HS1.out).mono ?_; rintro e w1 ⟨rfl, hb1⟩; refine Hid.out ?_))
      refine Lib.hid ?_
      have X1 := Lib.hid (X0.out.move hb1)
      clear hb1
      have a0 := X1.out.a.cell 0; have a1 := X1.out.a.cell 1; have a2 := X1.out.a.cell 2; have a3 := X1.out.a.cell 3; have a4 := X1.out.a.cell 4; have a5 := X1.out.a.cell 5
      simp only [List.getElem?_cons_zero, List.getElem?_cons_succ] at a0 a1 a2 a3 a4 a5
      have hlt := X1.out.a.lt
      go_wp2_with (first | (go_at_call 30; refine (Hac.out _).mono ?_; rintro e w2 ⟨rfl, hb2⟩; refine Hid.out ?_))
      refine Lib.hid ?_
      have X2 := Lib.hid (X1.out.move hb2)
      clear hb2
      go_wp2
      go_ret2
      exact MeansPost.err y0 HE1.out X2.out.below
  · have HE1 : Hid (meansE ps a = z) := Lib.hid (by rw [HE.out, if_pos z0])
    have z1 : (z != 0) = true := by simpa using z0
    go_enter Tryz.func6, Tryz.ntmps6
    go_wp2_with (first | (go_at_call 20; refine (Htc.out _ HT1.out HS1.out).mono ?_; rintro e w1 ⟨rfl, hb1⟩; refine Hid.out ?_))
    refine Lib.hid ?_
    have X1 := Lib.hid (X0.out.move hb1)
    clear hb1
    have a0 := X1.out.a.cell 0; have a1 := X1.out.a.cell 1; have a2 := X1.out.a.cell 2; have a3 := X1.out.a.cell 3; have a4 := X1.out.a.cell 4; have a5 := X1.out.a.cell 5
    simp only [List.getElem?_cons_zero, List.getElem?_cons_succ] at a0 a1 a2 a3 a4 a5
    have hlt := X1.out.a.lt
    go_wp2
    go_ret2
    exact MeansPost.err z0 HE1.out X1.out.below
end Go.Proofs.YthpkffeiehnamaaGreatDoor

/- What TreeMeans says, in plain words: no program in sight. -/
namespace Go.Proofs.YthpkffeiehnamaaGreatDoor
open Go.RowKit Qm

end Go.Proofs.YthpkffeiehnamaaGreatDoor

/- Walks: slices.Equal. -/
namespace Go.Proofs.YthpkffeiehnamaaGreatDoor
open Go.RowKit

theorem take_eq_succ {α : Type} [DecidableEq α] {xs ys : List α} {k : Nat} (d : α) (h1 : k < xs.length) (h2 : k < ys.length) (h : xs.take k = ys.take k) (he : xs.getD k d = ys.getD k d) : xs.take (k+1) = ys.take (k+1) := by
  rw [List.take_succ_eq_append_getElem h1, List.take_succ_eq_append_getElem h2, h]
  simp [List.getD, h1, h2] at he
  rw [he]
theorem eq_of_take_all {α : Type} {xs ys : List α} {n : Nat} (h1 : xs.length = n) (h2 : ys.length = n) (h : xs.take n = ys.take n) : xs = ys := by
  rwa [List.take_of_length_le (by omega), List.take_of_length_le (by omega)] at h
theorem ne_of_getD {α : Type} {xs ys : List α} {k : Nat} (d : α) (h : xs.getD k d ≠ ys.getD k d) : xs ≠ ys := fun e => h (by rw [e])

set_option maxHeartbeats 400000 in
theorem equal_int (A A' : Option Addr) (n n' c c' : Nat) (xs ys : List Int) (w : World) (S : Nat → Prop) (hx : RInts w S A n xs) (hy : RInts w S A' n' ys) (hn : n ≤ maxLen) (hn' : n' ≤ maxLen) :
    Calls Tryz.prog 15 #[.slice A n c, .slice A' n' c'] w fun e w' => e = .returned (.bool (xs == ys)) ∧ ∃ nq, w' = w.drewN nq := by
  unfold maxLen at hn hn'
  have hl := Lib.hid hx.len
  have hl' := Lib.hid hy.len
  by_cases hne : n = n'
  · subst hne
    have h0 : ((n : Int) != (n : Int)) = false := by simp
    go_enter Tryz.func15, Tryz.ntmps15
    go_wp2
    go_loopw [13] (fun i wr => ∃ k : Nat, k ≤ n ∧ i = .int .i64 k ∧ Hid (xs.take k = ys.take k) ∧ ∃ nq, wr = w.drewN nq) (fun i _ => n - (intOf i).toNat)
    case atStart => exact ⟨0, Nat.zero_le _, rfl, by exact rfl, 0, rfl⟩
    case round =>
      obtain ⟨k, hk, rfl, Ht, nq, rfl⟩ := hrel
      by_cases hlt : k < n
      · obtain ⟨b, o, rfl, hb, hc⟩ := hx.at_ hlt
        obtain ⟨b', o', rfl, hb', hc'⟩ := hy.at_ hlt
        generalize hu : xs.getD k 0 = u at hc
        generalize hv : ys.getD k 0 = v at hc'
        have Hu := Lib.hid hu; clear hu
        have Hv := Lib.hid hv; clear hv
        by_cases huv : u = v
        · have h1 : (u != v) = false := by simpa using huv
          have Huv := Lib.hid huv; clear huv
          go_wp2
          go_quiet (fail)
          go_wp2
          go_roundw
          case rel => exact ⟨k + 1, by omega, by go_num, take_eq_succ 0 (by rw [hl.out]; exact hlt) (by rw [hl'.out]; exact hlt) Ht.out (by rw [Hu.out, Hv.out, Huv.out]), _, (by first | rfl | exact World.drewN_drewN _ _ _)⟩
          case measure => simp [intOf]; omega
        · have h1 : (u != v) = true := by simpa using huv
          go_wp2
          go_quiet (fail)
          go_wp2
          go_ret
          exact ⟨ret_bool (by symm; rw [beq_eq_false_iff_ne]; exact ne_of_getD 0 (by rw [Hu.out, Hv.out]; exact huv)), _, (by first | rfl | exact World.drewN_drewN _ _ _)⟩
      · have h1 : k = n := by omega
        subst h1
        go_wp2
        go_ret
        exact ⟨ret_bool (by symm; rw [beq_iff_eq]; exact eq_of_take_all hl.out hl'.out Ht.out), _, rfl⟩
  · have h0 : ((n : Int) != (n' : Int)) = true := by rw [bne_iff_ne]; omega
    go_enter Tryz.func15, Tryz.ntmps15
    go_wp2
    go_ret
    exact ⟨ret_bool (by symm; rw [beq_eq_false_iff_ne]; intro e; exact hne (by rw [← hl.out, ← hl'.out, e])), 0, rfl⟩
end Go.Proofs.YthpkffeiehnamaaGreatDoor

/- quartermasterlaw.forest, walked: it returns true. -/
namespace Go.Proofs.YthpkffeiehnamaaGreatDoor
open Go.RowKit Qm

def wordF1 : Qm.W := [97, 32, 49, 32, 49, 32, 120, 44, 121, 32, 120, 63, 32, 40, 32, 98, 32, 41, 10]
def wordF2 : Qm.W := [97, 32, 49, 32, 49, 32, 120, 44, 121, 32, 40, 32, 120, 63, 32, 40, 32, 98, 32, 41, 32, 41, 10, 98, 32, 50, 32, 49, 32, 32, 40, 32, 41, 10]
def pkFa : Pk := ⟨[97], 1, 1, [[120], [121]], .mk 3 At.zero [] false [.mk 5 At.zero [120] false [.mk 1 ⟨[98], 0, 0, 0, [], false⟩ [] false []]]⟩
def pkFb : Pk := ⟨[98], 2, 1, [], .mk 3 At.zero [] false []⟩
theorem parse_F1 : parseTree wordF1 = ([], 0, 4) := by kernel_rfl
theorem parse_F2 : parseTree wordF2 = ([pkFa, pkFb], 0, 0) := by kernel_rfl
theorem means_Fl : meansL [pkFa, pkFb] ⟨[97], 0, 0, 0, [121], false⟩ = [0] := by decide +kernel
theorem means_Fe : meansE [pkFa, pkFb] ⟨[97], 0, 0, 0, [121], false⟩ = 0 := by decide +kernel
set_option maxRecDepth 100000 in
set_option maxHeartbeats 3200000 in
theorem forest_any (w : World) (hL : LaidV w) (hM : MaxW w) :
    Calls Tryz.prog 7 #[] w fun e w' => e = .returned (.bool true) ∧ Below w.heap.size w w' := by
  have HLV := Lib.hid hL; have HMV := Lib.hid hM; clear hL hM
  have hp1 := fun wx h1 h2 => (tparse_any wordF1 wx (by decide) h1 h2).mono fun e w' h => h.lit parse_F1
  have hp2 := fun wx h1 h2 => (tparse_any wordF2 wx (by decide) h1 h2).mono fun e w' h => h.lit parse_F2
  have hme := fun S A c wx h1 h2 h3 h4 => means_any [pkFa, pkFb] ⟨[97], 0, 0, 0, [121], false⟩ S A 2 c wx h1 h2 h3 (by decide) (by decide) h4
  unfold MeansPost at hme
  rw [means_Fl, means_Fe] at hme
  simp only [List.length_cons, List.length_nil] at hp1 hp2 hme
  unfold wordF1 at hp1
  unfold wordF2 at hp2
  have Hp1 := Lib.hid hp1; have Hp2 := Lib.hid hp2; have Hme := Lib.hid hme
  clear hp1 hp2 hme
  go_enter Tryz.func7, Tryz.ntmps7
  go_wp2_with (first | (go_at_call 17; refine (Hp1.out _ HLV.out HMV.out).mono ?_; rintro e w1 ⟨A1, c1, rfl, -, -, -, hb1⟩; refine Hid.out ?_))
  refine Lib.hid ?_
  have HB2 := Lib.hid (hb1.alloc hb1.size (.cells #[.slice A1 0 c1] 24))
  clear hb1
  go_wp2_with (first | (go_at_call 17; refine (Hp2.out _ (HLV.out.below HB2.out) (HMV.out.below HB2.out)).mono ?_; rintro e w3 ⟨A, c, rfl, hT, hc1, hc2, hb3⟩; refine Hid.out ?_))
  refine Lib.hid ?_
  have hal : Below w3.heap.size w3 (w3.alloc (.cells #[.slice A 2 c] 24)) := (Below.refl _ _).alloc (Nat.le_refl _) _
  have HB3 := Lib.hid (HB2.out.trans (hb3.mono HB2.out.size))
  have HT4 := Lib.hid ((hT.under hal fun i hi => hi.2).more (S' := fun i => i < w3.heap.size) fun i hi => hi.2)
  have HW4 := Lib.hid (Whole.new w3 _ 24 [.slice A 2 c] rfl)
  have HB4 := Lib.hid (HB3.out.trans (hal.mono HB3.out.size))
  clear hb3 hT hal
  have hlt3 : w3.heap.size < (w3.alloc (.cells #[.slice A 2 c] 24)).heap.size := HW4.out.lt
  go_wp2_with (first | (go_at_call 6; refine (Hme.out (fun i => i < w3.heap.size) _ _ _ HT4.out hc1 hc2 (fun k hk => Nat.lt_trans hk hlt3)).mono ?_; rintro e w5 ⟨Al, cl, rfl, hl, hl1, hl2, hb5⟩; refine Hid.out ?_))
  refine Lib.hid ?_
  have HB5 := Lib.hid (HB4.out.trans (hb5.mono HB4.out.size))
  have t0 := (HW4.out.below hb5 HW4.out.lt).cell 0
  simp only [List.getElem?_cons_zero] at t0
  have tlt := (HW4.out.below hb5 HW4.out.lt).lt
  obtain ⟨b, o, p, B, m, c', k, a, f, no, D, q, d, rfl, hbS, hp, hP, hcell⟩ := (HT4.out.under hb5 (fun i hi => Nat.lt_trans hi hlt3)).at_ (j := 1) (by decide)
  simp only [List.getElem?_cons_succ, List.getElem?_cons_zero, Option.some.injEq] at hp
  have hm : m = 0 := by have := hP.fs.len; rw [← hp] at this; simpa [pkFb] using this.symm
  subst hm
  have g3 := hcell 3 (by omega)
  have g17 : w5.cell? ⟨b, o + 17, none⟩ = some (.slice B 0 c') := g3
  have hbl : b < w5.heap.size := Nat.lt_trans hbS tlt
  clear g3 hcell hp hP hlt3
  have hal : Below w5.heap.size w5 (w5.alloc (.cells #[.int .i64 0] 3)) := (Below.refl _ _).alloc (Nat.le_refl _) _
  have heq := equal_int Al (some ⟨w5.heap.size, 0, none⟩) 1 1 cl 1 [0] [0] (w5.alloc (.cells #[.int .i64 0] 3)) (fun q => q < (w5.alloc (.cells #[.int .i64 0] 3)).heap.size) ((hl.below hal fun k hk => hk.2).more fun k hk => Nat.lt_of_lt_of_le hk.2 hal.size) ((Whole.new w5 w5.heap.size 3 [.int .i64 0] rfl).ints (xs := [0]) (by simp) rfl) (by omega) (by decide)
  have Heq := Lib.hid heq
  clear heq hal hl hb5
  go_wp2_with (first | (go_at_call 15; refine Heq.out.mono ?_; rintro e w7 ⟨rfl, q7, rfl⟩; refine Hid.out ?_))
  refine Lib.hid ?_
  go_wp2
  go_ret
  exact ⟨rfl, below_drewN (HB5.out.alloc HB5.out.size _) _⟩
end Go.Proofs.YthpkffeiehnamaaGreatDoor

/- Walks: slices.IndexFunc, slices.ContainsFunc of ints with a function value that only reads. -/
namespace Go.Proofs.YthpkffeiehnamaaGreatDoor
open Go.RowKit
def idxOf (p : Int → Bool) (xs : List Int) : Int := match xs.findIdx? p with | some i => (i : Int) | none => -1
end Go.Proofs.YthpkffeiehnamaaGreatDoor

/- slices.Contains of ints. (Of the shelf: Tryz.slices_Contains_int Tryz.slices_Contains_int_empty) -/
namespace Go.Proofs.YthpkffeiehnamaaGreatDoor
open Go.RowKit

end Go.Proofs.YthpkffeiehnamaaGreatDoor

/- What TreeMeans calls: slices.Contains, IsSorted, Concat, Sort of ints; its closures. -/
namespace Go.Proofs.YthpkffeiehnamaaGreatDoor
open Go.RowKit Qm

/-! slices.Grow of nil, slices.Concat of two, of ints -/
/-! slices.Sort -/
end Go.Proofs.YthpkffeiehnamaaGreatDoor

/- slices.IsSorted of ints. -/
namespace Go.Proofs.YthpkffeiehnamaaGreatDoor
open Go.RowKit Qm

end Go.Proofs.YthpkffeiehnamaaGreatDoor

/- The closures of TreeMeans, walked. -/
namespace Go.Proofs.YthpkffeiehnamaaGreatDoor
open Go.RowKit Qm

end Go.Proofs.YthpkffeiehnamaaGreatDoor

/- TreeMeans, walked: it returns true. -/
namespace Go.Proofs.YthpkffeiehnamaaGreatDoor
open Go.RowKit Qm

/-- The boxes of TreeMeans. -/
structure Ym (w : World) (A : Option Addr) (n c : Nat) (av bv : List Value) (lb bb : Nat) (lv : List Value) (wx : World) : Prop where
  x : Mx w A n c av wx
  l : Whole wx lb 27 lv
  b : Whole wx bb 26 bv
  lw : w.heap.size + 1 < lb
  lt : lb < bb
section
variable {w : World} {A : Option Addr} {n c : Nat} {av bv : List Value} {lb bb : Nat} {lv : List Value} {wx wy : World}
theorem Ym.move (h : Ym w A n c av bv lb bb lv wx) (hb : Below wx.heap.size wx wy) : Ym w A n c av bv lb bb lv wy := ⟨h.x.move hb, h.l.below hb h.l.lt, h.b.below hb h.b.lt, h.lw, h.lt⟩
theorem Ym.drewN (h : Ym w A n c av bv lb bb lv wx) (k : Nat) : Ym w A n c av bv lb bb lv (wx.drewN k) := h.move (below_drewN (Below.refl _ _) k)
theorem Ym.set_ (h : Ym w A n c av bv lb bb lv wx) (i : Nat) (u : Value) : Ym w A n c av (bv.set i u) lb bb lv (wx.setCell ⟨bb, i, none⟩ u) := by
  have h1 := h.lw; have h2 := h.lt
  exact ⟨⟨(h.x.below).setCell (p := ⟨bb, i, none⟩) (by show w.heap.size ≤ bb; omega) u, h.x.t.far (p := ⟨bb, i, none⟩) (by show w.heap.size ≠ bb; omega) u, h.x.a.far (p := ⟨bb, i, none⟩) (by show w.heap.size + 1 ≠ bb; omega) u⟩,
    h.l.far (p := ⟨bb, i, none⟩) (by show lb ≠ bb; omega) u, h.b.set_ i u, h1, h2⟩
end
end Go.Proofs.YthpkffeiehnamaaGreatDoor

/- strings.Builder.WriteString, String off the shelf (their layings: those of strings.Join, String). (Of the shelf: Tryz.lays169 Tryz.Builder_Extra_169) -/
namespace Go.Proofs.YthpkffeiehnamaaGreatDoor
open Go.RowKit Go.Shelf

theorem lays166 : Lays.n166 Tryz.prog Tryz.lays156_ren := { Tryz.lays156 with }
theorem writeString_any (B b : Nat) (bs : List Value) (s : ByteArray) (w : World) (h : Lib.IsBuilderF 74 5 B b bs w) (hlen : bs.length + s.size ≤ 140737488355328) (hBw : B ≤ w.heap.size) :
    Calls Tryz.prog 39 #[.pointer (some ⟨b, 0, none⟩), .string s] w fun e w' => e = .returned (.tuple #[.int .i64 s.size, .nilIface]) ∧ (Lib.BuilderAtF 74 5 B b (.pointer (some ⟨b, 0, none⟩)) (bs ++ Lib.strCells s) w' ∧ Below B w w' ∧ Lib.OthersKept 5 (some b) w w') :=
  Any.Builder_WriteString_k lays166 Tryz.Builder_Extra_156 B b bs s w h hlen hBw
theorem builderString_any (B b : Nat) (l : List UInt8) (w : World) (h : Lib.IsBuilderF 74 5 B b (Lib.byteCells l) w) (hBw : B ≤ w.heap.size) :
    Calls Tryz.prog 42 #[.pointer (some ⟨b, 0, none⟩)] w fun e w' => e = .returned (.string ⟨l.toArray⟩) ∧ Below B w w' :=
  (Any.Builder_String_any_f Tryz.lays169 Tryz.Builder_Extra_169 B b l w h hBw).mono fun _ _ ⟨h1, _, h2⟩ => ⟨h1, h2⟩
end Go.Proofs.YthpkffeiehnamaaGreatDoor
