/- Parts of the proof: walks and plain laws, side by side. -/
import Derived.Test.YthpkffeiehnamaaGreatDoorM15
import Derived.Test.YthpkffeiehnamaaGreatDoorM5
import Derived.Test.YthpkffeiehnamaaGreatDoorM6
import Derived.Deep.RegionHeld3
import Derived.Test.YthpkffeiehnamaaGreatDoorRows
import Derived.ProofKit
import Derived.LaidMore
import Derived.OpenShut
import Derived.Stop.Joined
import Derived.Stop.LaidErr
import Derived.Lib.LaidTab
import Derived.Test.YthpkffeiehnamaaGreatDoorM2
import Derived.ChangeOld
import Derived.Lib.SmallJoins
import Derived.Deep.Matrix
import Derived.Deep.Grids
set_option linter.unusedVariables false
set_option linter.unusedSimpArgs false
set_option linter.unusedSectionVars false
/- tree.Print, walked. (Of the shelf: Tryz.strings_Join_none Tryz.strings_Join) -/
namespace Go.Proofs.YthpkffeiehnamaaGreatDoor
open Go.RowKit Qm

theorem itoa_any (v : Int) (w : World) (h0 : -9223372036854775808 ≤ v) (h1 : v ≤ 9223372036854775807) (hL : LaidV w) :
    Calls Tryz.prog 40 #[.int .i64 v] w fun e w' => e = .returned (.string ⟨(Lib.itoa v).toArray⟩) ∧ Below w.heap.size w w' := by
  obtain ⟨_, _, h3⟩ := hL
  refine (Tryz.strconv_Itoa v h0 h1 w h3).mono ?_
  rintro e w2 ⟨rfl, k, os, rfl⟩
  exact ⟨rfl, Lib.below_grow _ _ (Nat.le_refl _) _ _⟩
theorem joinW_any (A : Option Addr) (n c : Nat) (ws : List Qm.W) (w : World) (S : Nat → Prop) (hr : Row w S A n (strs ws)) (hS : ∀ k, S k → k < w.heap.size) (hc : n ≤ c) (d : UInt8) (hlen : fullLen ws ≤ 1000000) :
    Calls Tryz.prog 41 #[.slice A n c, .string ⟨#[d]⟩] w fun e w' => e = .returned (.string ⟨(joinB d ws).toArray⟩) ∧ Below w.heap.size w w' := by
  have hl : ws.length = n := by have := hr.len; simpa [strs] using this
  subst hl
  by_cases h0 : ws = []
  · subst h0
    refine (Tryz.strings_Join_none A c ⟨#[d]⟩ w).mono ?_
    rintro e w' ⟨rfl, rfl⟩
    exact ⟨rfl, Below.refl _ _⟩
  · have hp : 0 < ws.length := List.length_pos_iff.2 h0
    obtain ⟨b, o, rfl, _⟩ := hr.some_lit hp
    exact join_any b o c ws w S hr hS hp hc d hlen
theorem builder_move {T e : TypeId} {B b : Nat} {bs : List Value} {w w' : World} (h : Lib.IsBuilderF T e B b bs w) (hb : Below w.heap.size w w') : Lib.IsBuilderF T e B b bs w' := by
  have key : ∀ {p : Value}, Lib.BuilderAtF T e B b p bs w → Lib.BuilderAtF T e B b p bs w' := by
    rintro p ⟨h1, v, h2, h3, h4⟩
    have hlt : b < w.heap.size := (Array.getElem?_eq_some_iff.1 h2).1
    refine ⟨h1, v, (hb.block b hlt).trans h2, h3.kept (grown_of_below hb none) ?_, h4⟩
    cases v.ownBlock
    · exact .inl rfl
    · exact .inr (by simp)
  rcases h with h | h
  · exact .inl (key h)
  · exact .inr (key h)
theorem builder_new (w : World) : Lib.IsBuilderF 74 5 w.heap.size w.heap.size (Lib.byteCells []) (w.alloc (.cells #[.pointer none, .slice none 0 0] 74)) :=
  .inl ⟨Nat.le_refl _, .slice none 0 0, heap_alloc_new w _, World.ownsRowF_nil _ _ _ _, by intro h; cases h⟩
theorem others_whole {w w' : World} {b k : Nat} {t : TypeId} {vs : List Value} (h : Lib.OthersKept 5 (some b) w w') (hw : Whole w k t vs) (hk : k ≠ b) (ht : t ≠ 5) : Whole w' k t vs :=
  h k _ hw (by intro e; injection e with e; exact hk e) (by intro c fz e; injection e with _ e _; exact ht e)
theorem take_snocT {ks : List Pk} {j : Nat} {y : Pk} (h : ks[j]? = some y) : ks.take (j + 1) = ks.take j ++ [y] := by
  obtain ⟨hj, rfl⟩ := List.getElem?_eq_some_iff.1 h
  rw [List.take_succ_eq_append_getElem hj]
theorem treeText_snoc : ∀ (ps : List Pk) (p : Pk), treeText (ps ++ [p]) = treeText ps ++ (pkLine p ++ [10])
  | [], p => by simp [treeText]
  | q :: r, p => by simp [treeText, treeText_snoc r p]
theorem pkLine_len {p : Pk} (h : PkOk p) : (pkLine p).length ≤ 5000 := by
  have h1 := (isName_len h.nm).2
  have h2 := (itoa_len (n := p.ver) (by have := h.ver; omega) (by have := h.ver; omega)).2
  have h3 := (itoa_len (n := p.slot) (by have := h.slot; omega) (by have := h.slot; omega)).2
  have h4 := ndText_len h.nd
  have h5 : (joinB 44 p.fs).length ≤ 18 := by
    have hn := ckFlags_names h.fs
    have hl := h.len
    match hp : p.fs with
    | [] => simp [joinB]
    | [f] => rw [hp] at hn; have := (isName_len (hn f (by simp))).2; simp [joinB]; omega
    | [f, g] => rw [hp] at hn; have := (isName_len (hn f (by simp))).2; have := (isName_len (hn g (by simp))).2; simp [joinB]; omega
    | f :: g :: x :: r => rw [hp] at hl; simp at hl
  unfold pkLine
  simp only [List.length_append, List.length_cons]; omega
theorem treeText_len {ps : List Pk} (h : ∀ p ∈ ps, PkOk p) : (treeText ps).length ≤ 5001 * ps.length := by
  induction ps with
  | nil => simp [treeText]
  | cons p r ih =>
    have := pkLine_len (h p (List.mem_cons_self ..))
    have := ih fun q hq => h q (List.mem_cons_of_mem _ hq)
    simp only [treeText, List.length_append, List.length_cons]; omega
theorem fullLen_fs {fs : List Qm.W} (h : ∀ f ∈ fs, isName f = true) (hl : fs.length ≤ 2) : fullLen fs ≤ 1000000 := by
  match fs, hl with
  | [], _ => simp [fullLen]
  | [f], _ => have := (isName_len (h f (by simp))).2; simp [fullLen]; omega
  | [f, g], _ => have := (isName_len (h f (by simp))).2; have := (isName_len (h g (by simp))).2; simp [fullLen]; omega
theorem sadd (a b : Qm.W) (h : a.length + b.length ≤ 1000000) (wx : World) : (Op.stringOp .add ⟨a.toArray⟩ ⟨b.toArray⟩).run Tryz.prog wx = .ok (.string ⟨(a ++ b).toArray⟩) wx := by
  rw [run_string_add_sum wx _ _ (by rw [bsz, bsz]; omega)]
  exact congrArg (fun z => Result.ok (Value.string z) wx) (bapp a b)
def printT (ps : List Pk) : Qm.W := if ckTree ps = 0 then treeText ps else []
/-- The tree's box, and the builder with what is written. -/
structure Pt (w : World) (A : Option Addr) (n c : Nat) (B : Nat) (l : Qm.W) (wr : World) : Prop where
  x : Tx w A n c wr
  b : Lib.IsBuilderF 74 5 B B (Lib.byteCells l) wr
  lt : w.heap.size < B
theorem Pt.move {w : World} {A : Option Addr} {n c B : Nat} {l : Qm.W} {wx wy : World} (h : Pt w A n c B l wx) (hb : Below wx.heap.size wx wy) : Pt w A n c B l wy := ⟨h.x.move hb, builder_move h.b hb, h.lt⟩
theorem Pt.ltB {w : World} {A : Option Addr} {n c B : Nat} {l : Qm.W} {wx : World} (h : Pt w A n c B l wx) : B < wx.heap.size := by
  rcases h.b with h | h <;> exact h.lt

set_option maxRecDepth 100000 in
set_option maxHeartbeats 6400000 in
theorem tprint_any (ps : List Pk) (S : Nat → Prop) (A : Option Addr) (n c : Nat) (w : World) (hT : RTree w S A n ps) (hnc : n ≤ c) (hc : c ≤ maxLen) (hS : ∀ k, S k → k < w.heap.size) (hL : LaidV w) :
    Calls Tryz.prog 16 #[.agg #[.slice A n c]] w fun e w' => e = .returned (.tuple #[.string ⟨(printT ps).toArray⟩, .int .i64 (ckTree ps)]) ∧ Below w.heap.size w w' := by
  have hl := hT.len
  have HLV := Lib.hid hL; clear hL
  have X0 := Lib.hid (Tx.new w A n c)
  have HT := Lib.hid hT; have HS := Lib.hid hS; clear hT hS
  have Hck := Lib.hid (tCheck_any ps S A n c _ (HT.out.under X0.out.below HS.out) hnc hc (fun k hk => Nat.lt_of_lt_of_le (HS.out k hk) X0.out.below.size))
  have HP : Hid (printT ps = if ckTree ps = 0 then treeText ps else []) := Lib.hid rfl
  generalize printT ps = P at HP ⊢
  generalize hz : ckTree ps = z at Hck HP ⊢
  have HZ := Lib.hid hz; clear hz
  unfold maxLen at hc
  by_cases z0 : z = 0
  · subst z0
    have HP1 : Hid (P = treeText ps) := Lib.hid (by rw [HP.out, if_pos rfl])
    have HOK : Hid (∀ p ∈ ps, PkOk p) := Lib.hid fun p hp => pkOk (ckTree_mem HZ.out p hp)
    have hn8 : n ≤ 8 := by rw [← hl]; exact ckTree_len HZ.out
    clear HP
    go_enter Tryz.func16, Tryz.ntmps16
    go_wp2_with (first | (go_at_call 20; refine Hck.out.mono ?_; rintro e w2 ⟨rfl, hb2⟩; refine Hid.out ?_))
    refine Lib.hid ?_
    have X2 := Lib.hid (X0.out.move hb2)
    have hal : Below w2.heap.size w2 (w2.alloc (.cells #[.pointer none, .slice none 0 0] 74)) := (Below.refl _ _).alloc (Nat.le_refl _) _
    have P3 : Hid (Pt w A n c w2.heap.size [] (w2.alloc (.cells #[.pointer none, .slice none 0 0] 74))) := Lib.hid ⟨X2.out.move hal, builder_new w2, X2.out.whole.lt⟩
    clear hb2 hal X0 Hck
    have t0 := X2.out.whole.cell 0
    simp only [List.getElem?_cons_zero] at t0
    have tlt := X2.out.whole.lt
    go_wp2_with fail
    clear t0 tlt X2
    generalize w2.heap.size = B at P3 ⊢
    go_loopg [18] n (fun g iv wr => ∃ j : Nat, Hid (j + g = n) ∧ iv = .int .i64 j ∧ Hid (Pt w A n c B (treeText (ps.take j)) wr))
    case atStart => exact ⟨0, Lib.hid (Nat.zero_add _), rfl, P3⟩
    case round =>
      obtain ⟨j, Hj, rfl, PR⟩ := hrel
      clear P3
      by_cases hj : j < n
      · obtain ⟨b, o, p, D, m, c', k, a, f, no, E, q, d, rfl, hbS, hp, hPk, hcell⟩ := (HT.out.under PR.out.x.below HS.out).at_ hj
        have HTX : Hid (treeText (ps.take (j + 1)) = treeText (ps.take j) ++ (pkLine p ++ [10])) := Lib.hid (by rw [take_snocT hp, treeText_snoc])
        have hok := HOK.out p (List.mem_of_getElem? hp)
        have HLN : Hid ((treeText (ps.take j)).length ≤ 50000 ∧ (pkLine p).length ≤ 5000) := Lib.hid ⟨by
          have := treeText_len (ps := ps.take j) fun x hx => HOK.out x (List.mem_of_mem_take hx)
          have h2 : (ps.take j).length ≤ 8 := by rw [List.length_take]; omega
          omega, pkLine_len hok⟩
        have HPL : Hid (pkLine p = p.nm ++ (32 :: Lib.itoa p.ver ++ (32 :: Lib.itoa p.slot ++ (32 :: joinB 44 p.fs ++ (32 :: ndText p.nd))))) := Lib.hid rfl
        have g0 := hcell 0 (by omega); have g1 := hcell 1 (by omega); have g2 := hcell 2 (by omega); have g3 := hcell 3 (by omega); have g4 := hcell 4 (by omega); have g5 := hcell 5 (by omega); have g6 := hcell 6 (by omega); have g7 := hcell 7 (by omega); have g8 := hcell 8 (by omega); have g9 := hcell 9 (by omega); have g10 := hcell 10 (by omega); have g11 := hcell 11 (by omega); have g12 := hcell 12 (by omega); have g13 := hcell 13 (by omega)
        unfold pkRow ndRow at g0 g1 g2 g3 g4 g5 g6 g7 g8 g9 g10 g11 g12 g13
        simp only [List.getElem?_cons_zero, List.getElem?_cons_succ, Nat.add_zero] at g0 g1 g2 g3 g4 g5 g6 g7 g8 g9 g10 g11 g12 g13
        clear hcell hp
        have B1 := Lib.hid (Pb.new wr (pkRow p D m c' (ndRow k a f no E q d)))
        have hSr : ∀ x, S x → x < wr.heap.size := fun x hx => Nat.lt_of_lt_of_le (HS.out x hx) PR.out.x.below.size
        have hnd := hPk.nd
        have hpr := nprint_any p.nd S (ndRow k a f no E q d) _ (hnd.under B1.out.below hSr) (fun x hx => Nat.lt_of_lt_of_le (hSr x hx) B1.out.below.size)
        rw [hok.nd, show printNd p.nd = ndText p.nd by unfold printNd; rw [if_pos hok.nd]] at hpr
        have HFS := Lib.hid (hPk.fs)
        have hcap := hPk.cap
        have hmax := hPk.max
        have HFL := Lib.hid (fullLen_fs (ckFlags_names hok.fs) hok.len)
        have hv := hok.ver; have hsl := hok.slot
        obtain ⟨nm, ver, slot, fs, nd⟩ := p
        dsimp only at g0 g1 g2 g3 hpr HFS HPL HFL hv hsl
        have P4 := Lib.hid (PR.out.move B1.out.below)
        unfold pkRow ndRow at B1 P4
        unfold pkRow ndRow at hpr
        dsimp only at B1 P4 hpr
        have Hpr := Lib.hid hpr
        have HSR := Lib.hid hSr
        clear hpr hSr hnd hPk hok
        generalize pkLine ⟨nm, ver, slot, fs, nd⟩ = ln at HTX HLN HPL
        generalize ndText nd = tn at Hpr HPL
        have Hi1 := Lib.hid (fun wx h => itoa_any ver wx (by omega) (by omega) h)
        have Hi2 := Lib.hid (fun wx h => itoa_any slot wx (by omega) (by omega) h)
        have Hjo := Lib.hid (fun wx h1 h2 => joinW_any D m c' fs wx S h1 h2 hcap 44 HFL.out)
        have t0 := PR.out.x.whole.cell 0
        simp only [List.getElem?_cons_zero] at t0
        have tlt := PR.out.x.whole.lt
        have hbl : b < wr.heap.size := HSR.out b hbS
        unfold maxLen at hmax
        go_wp2_with (first | (go_at_call 38; refine Hpr.out.mono ?_; rintro e w5 ⟨rfl, hb5⟩; refine Hid.out ?_))
        refine Lib.hid ?_
        have P5 := Lib.hid (P4.out.move hb5)
        have B5 := Lib.hid (B1.out.move hb5)
        have HFS5 := Lib.hid (HFS.out.row.below B5.out.below HSR.out)
        have HSZ5 := Lib.hid B5.out.below.size
        clear hb5 t0 tlt g0 g1 g2 g3 g4 g5 g6 g7 g8 g9 g10 g11 g12 g13 P4 B1 Hpr
        have p0 := B5.out.whole.cell 0; have p1 := B5.out.whole.cell 1; have p2 := B5.out.whole.cell 2; have p3 := B5.out.whole.cell 3
        simp only [List.getElem?_cons_zero, List.getElem?_cons_succ] at p0 p1 p2 p3
        have plt := B5.out.whole.lt
        have hsum : nm.length + (Lib.itoa ver).length + (Lib.itoa slot).length + (joinB 44 fs).length + tn.length + 4 = ln.length := by rw [HPL.out]; simp; omega
        have hl1 := HLN.out.1
        have hl2 := HLN.out.2
        have HLE : Hid (nm ++ [32] ++ Lib.itoa ver ++ [32] ++ Lib.itoa slot ++ [32] ++ joinB 44 fs ++ [32] ++ tn ++ [10] = ln ++ [10]) := Lib.hid (by rw [HPL.out]; simp)
        generalize joinB 44 fs = J at *
        have a1 := fun wx => sadd nm [32] (by simp; omega) wx
        have a2 := fun wx => sadd (nm ++ [32]) (Lib.itoa ver) (by simp; omega) wx
        have a3 := fun wx => sadd (nm ++ [32] ++ Lib.itoa ver) [32] (by simp; omega) wx
        have a4 := fun wx => sadd (nm ++ [32] ++ Lib.itoa ver ++ [32]) (Lib.itoa slot) (by simp; omega) wx
        have a5 := fun wx => sadd (nm ++ [32] ++ Lib.itoa ver ++ [32] ++ Lib.itoa slot) [32] (by simp; omega) wx
        have a6 := fun wx => sadd (nm ++ [32] ++ Lib.itoa ver ++ [32] ++ Lib.itoa slot ++ [32]) J (by simp; omega) wx
        have a7 := fun wx => sadd (nm ++ [32] ++ Lib.itoa ver ++ [32] ++ Lib.itoa slot ++ [32] ++ J) [32] (by simp; omega) wx
        have a8 := fun wx => sadd (nm ++ [32] ++ Lib.itoa ver ++ [32] ++ Lib.itoa slot ++ [32] ++ J ++ [32]) tn (by simp; omega) wx
        have a9 := fun wx => sadd (nm ++ [32] ++ Lib.itoa ver ++ [32] ++ Lib.itoa slot ++ [32] ++ J ++ [32] ++ tn) [10] (by simp; omega) wx
        rw [HLE.out] at a9
        generalize nm ++ [32] ++ Lib.itoa ver ++ [32] ++ Lib.itoa slot ++ [32] ++ J ++ [32] ++ tn = L8 at a8 a9
        generalize nm ++ [32] ++ Lib.itoa ver ++ [32] ++ Lib.itoa slot ++ [32] ++ J ++ [32] = L7 at a7 a8
        generalize nm ++ [32] ++ Lib.itoa ver ++ [32] ++ Lib.itoa slot ++ [32] ++ J = L6 at a6 a7
        generalize nm ++ [32] ++ Lib.itoa ver ++ [32] ++ Lib.itoa slot ++ [32] = L5 at a5 a6
        generalize nm ++ [32] ++ Lib.itoa ver ++ [32] ++ Lib.itoa slot = L4 at a4 a5
        generalize nm ++ [32] ++ Lib.itoa ver ++ [32] = L3 at a3 a4
        generalize nm ++ [32] ++ Lib.itoa ver = L2 at a2 a3
        generalize nm ++ [32] = L1 at a1 a2
        have hlnl : (ln ++ [10]).length ≤ 5001 := by simp; omega
        generalize ln ++ [10] = L9 at *
        rw [show ([32] : Qm.W).toArray = #[32] from rfl] at a1 a3 a5 a7
        rw [show ([10] : Qm.W).toArray = #[10] from rfl] at a9
        go_wp2_with fail
        go_region_held3 (fun w' => w'.cell? ⟨wr.heap.size, 0, none⟩ = some (.string ⟨nm.toArray⟩) ∧ w'.cell? ⟨wr.heap.size, 1, none⟩ = some (.int .i64 ver) ∧ w'.cell? ⟨wr.heap.size, 2, none⟩ = some (.int .i64 slot) ∧ w'.cell? ⟨wr.heap.size, 3, none⟩ = some (.slice D m c'))
          (first | go_keep | exact ⟨p0, p1, p2, p3⟩)
          (first
            | (go_at_call 40
               refine (itoa_any _ _ (by omega) (by omega) (by first | exact HLV.out.below P5.out.x.below | exact HLV.out.below (below_drewN P5.out.x.below 1))).mono ?_
               rintro e wn ⟨rfl, hb⟩
               (first | replace P5 := Lib.hid (P5.out.move hb) | replace P5 := Lib.hid (P5.out.move ((below_drewN (Below.refl _ _) _).trans hb)))
               (first | replace B5 := Lib.hid (B5.out.move hb) | replace B5 := Lib.hid (B5.out.move ((below_drewN (Below.refl _ _) _).trans hb)))
               clear hb p0 p1 p2 p3 plt
               have p0 := B5.out.whole.cell 0; have p1 := B5.out.whole.cell 1; have p2 := B5.out.whole.cell 2; have p3 := B5.out.whole.cell 3
               simp only [List.getElem?_cons_zero, List.getElem?_cons_succ] at p0 p1 p2 p3
               have plt := B5.out.whole.lt
               )
            | (go_at_call 41
               refine (Hjo.out _ (HFS.out.row.below B5.out.below HSR.out) (fun k hk => Nat.lt_of_lt_of_le (HSR.out k hk) B5.out.below.size)).mono ?_
               rintro e wn ⟨rfl, hb⟩
               (first | replace P5 := Lib.hid (P5.out.move hb) | replace P5 := Lib.hid (P5.out.move ((below_drewN (Below.refl _ _) _).trans hb)))
               (first | replace B5 := Lib.hid (B5.out.move hb) | replace B5 := Lib.hid (B5.out.move ((below_drewN (Below.refl _ _) _).trans hb)))
               clear hb p0 p1 p2 p3 plt
               have p0 := B5.out.whole.cell 0; have p1 := B5.out.whole.cell 1; have p2 := B5.out.whole.cell 2; have p3 := B5.out.whole.cell 3
               simp only [List.getElem?_cons_zero, List.getElem?_cons_succ] at p0 p1 p2 p3
               have plt := B5.out.whole.lt
               )
            | (go_at_call 39
               refine (writeString_any B B _ _ _ P5.out.b (by rw [Lib.byteCells_length, bsz]; omega) (Nat.le_of_lt P5.out.ltB)).mono ?_
               rintro e wn ⟨rfl, hbd, hbB, hok⟩
               have hwp := others_whole hok B5.out.whole (by have := P5.out.ltB; have := PR.out.ltB; omega) (by decide)
               clear p0 p1 p2 p3 plt
               have p0 := hwp.cell 0; have p1 := hwp.cell 1; have p2 := hwp.cell 2; have p3 := hwp.cell 3
               simp only [List.getElem?_cons_zero, List.getElem?_cons_succ] at p0 p1 p2 p3)
            | fail)
        have P6 : Hid (Pt w (some ⟨b, o, none⟩) n c B (treeText (ps.take (j + 1))) wn) := Lib.hid (by
          refine ⟨⟨P5.out.x.below.trans (hbB.mono (Nat.le_of_lt PR.out.lt)), others_whole hok P5.out.x.whole (by have := PR.out.lt; omega) (by decide)⟩, .inr ?_, PR.out.lt⟩
          rw [HTX.out]
          have e : Lib.byteCells (treeText (ps.take j)) ++ Lib.strCells ⟨L9.toArray⟩ = Lib.byteCells (treeText (ps.take j) ++ L9) := by
            rw [Lib.strCells_toArray]; simp [Lib.byteCells]
          rw [← e]; exact hbd)
        clear hbd hbB hok P5 B5 p0 p1 p2 p3 hwp a1 a2 a3 a4 a5 a6 a7 a8 a9
        go_wp2
        go_roundg (gk - 1)
        case measure => have := Hj.out; omega
        case rel => exact ⟨j + 1, Lib.hid (by have := Hj.out; omega), by go_num, P6⟩
      · obtain rfl : n = j := by have := Hj.out; omega
        have HF : Hid (P = treeText (ps.take n)) := Lib.hid (by rw [HP1.out, List.take_of_length_le (by omega)])
        have hst := builderString_any B B (treeText (ps.take n)) wr PR.out.b (Nat.le_of_lt PR.out.ltB)
        rw [← HF.out] at hst
        have Hst := Lib.hid hst; clear hst
        go_wp2_with (first | (go_at_call 42; refine Hst.out.mono ?_; rintro e w3 ⟨rfl, hb3⟩; refine Hid.out ?_))
        refine Lib.hid ?_
        go_wp2
        go_ret2
        exact ⟨rfl, PR.out.x.below.trans (hb3.mono (Nat.le_of_lt PR.out.lt))⟩
  · have z1 : (z != 0) = true := by simpa using z0
    have HP1 : Hid (P = []) := Lib.hid (by rw [HP.out, if_neg z0])
    go_enter Tryz.func16, Tryz.ntmps16
    go_wp2_with (first | (go_at_call 20; refine Hck.out.mono ?_; rintro e w2 ⟨rfl, hb2⟩; refine Hid.out ?_))
    refine Lib.hid ?_
    have X2 := Lib.hid (X0.out.move hb2)
    clear hb2
    go_wp2
    go_ret2
    rw [HP1.out]
    exact ⟨rfl, X2.out.below⟩
end Go.Proofs.YthpkffeiehnamaaGreatDoor

/- Arguments that can be read as data, opened: atoms, strings; what the listed variables hold. -/
namespace Go.Proofs.YthpkffeiehnamaaGreatDoor
open Go.ChangeShapes Go.WideShapes Go.ChangeAt Go.RowKit Qm

section
variable {H : Type} {enc : TypeId × Value → H} {w : World} {base : Nat} {sp : Nat → Bool} {held : Bool}
/-- One cell's field of a struct. -/
theorem field_cell {P : Program} {t : TypeId} {fs : Array Field} {fuel : Nat} {cs : List Value} {x : DataW H × List MemPlace} (ht : P.underlying t = some (.struct fs)) (h : DataW.trod enc P w base sp held fuel t cs = some x)
    (i : Nat) {f : Field} (hf : fs[i]? = some f) (hc : P.cellsOf f.type = 1) (hlt : f.offset < P.cellsOf t) : ∃ c n y, cs[f.offset]? = some c ∧ DataW.trod enc P w base sp held n f.type [c] = some y := by
  obtain ⟨xs, n, _, _, hl, hxl, hx⟩ := DataW.trod_struct ht h
  have h1 := hx i f hf
  have hlt' : f.offset < cs.length := by omega
  have hi : i < fs.size := (Array.getElem?_eq_some_iff.1 hf).1
  rw [hc, List.drop_eq_getElem_cons hlt'] at h1
  refine ⟨cs[f.offset], n, xs[i]'(by omega), List.getElem?_eq_getElem hlt', ?_⟩
  rw [List.getElem?_eq_getElem (by omega)] at h1
  have e : (cs[f.offset] :: List.drop (f.offset + 1) cs).take 1 = [cs[f.offset]] := rfl
  rw [e] at h1
  exact h1
def In64 (x : Int) : Prop := -9223372036854775808 ≤ x ∧ x ≤ 9223372036854775807
theorem i64_le {x : Int} (h : (Lit.int .i64 x).wf = true) : In64 x := by
  unfold In64
  simp [Lit.wf, IntKind.min, IntKind.max, IntKind.bits, IntKind.signed] at h; omega
theorem six_of {α : Type} {cs : List α} {a b c d e f : α} (hl : cs.length = 6) (h0 : cs[0]? = some a) (h1 : cs[1]? = some b) (h2 : cs[2]? = some c) (h3 : cs[3]? = some d) (h4 : cs[4]? = some e) (h5 : cs[5]? = some f) : cs = [a, b, c, d, e, f] := by
  match cs, hl with
  | [_, _, _, _, _, _], _ => simp at h0 h1 h2 h3 h4 h5; simp [h0, h1, h2, h3, h4, h5]
theorem str_one {P : Program} {t : TypeId} {n : Nat} {c : Value} {y : DataW H × List MemPlace} (ht : P.underlying t = some .string) (h : DataW.trod enc P w base sp held n t [c] = some y) : ∃ s : ByteArray, c = .string s ∧ s.size ≤ maxLen := by
  obtain ⟨s, e, _, hs⟩ := DataW.trod_string ht h
  simp at e
  exact ⟨s, e, hs⟩
theorem int_one {P : Program} {t : TypeId} {n : Nat} {c : Value} {y : DataW H × List MemPlace} (ht : P.underlying t = some (.int .i64)) (h : DataW.trod enc P w base sp held n t [c] = some y) : ∃ x : Int, c = .int .i64 x ∧ In64 x := by
  obtain ⟨x, e, _, hs⟩ := DataW.trod_int ht h
  simp at e
  exact ⟨x, e, i64_le hs⟩
theorem bool_one_ {P : Program} {t : TypeId} {n : Nat} {c : Value} {y : DataW H × List MemPlace} (ht : P.underlying t = some .bool) (h : DataW.trod enc P w base sp held n t [c] = some y) : ∃ x : Bool, c = .bool x := by
  obtain ⟨x, e, _⟩ := DataW.trod_bool ht h
  simp at e
  exact ⟨x, e⟩
/-- An atom's six cells. -/
theorem atom_cells {fuel : Nat} {cs : List Value} {x : DataW H × List MemPlace} (h : DataW.trod enc Tryz.prog w base sp held fuel 26 cs = some x) :
    ∃ (s f : ByteArray) (op ver slot : Int) (on : Bool), cs = [.string s, .int .i64 op, .int .i64 ver, .int .i64 slot, .string f, .bool on] ∧ s.size ≤ maxLen ∧ f.size ≤ maxLen ∧ In64 op ∧
      In64 ver ∧ In64 slot := by
  have hT := Tryz.underlying26
  have hl : cs.length = 6 := by
    obtain ⟨_, _, _, _, hl, _⟩ := DataW.trod_struct hT h
    rw [hl]; kernel_rfl
  obtain ⟨c0, n0, y0, e0, k0⟩ := field_cell hT h 0 rfl (by kernel_rfl) (of_decide_eq_true (by kernel_rfl))
  obtain ⟨c1, n1, y1, e1, k1⟩ := field_cell hT h 1 rfl (by kernel_rfl) (of_decide_eq_true (by kernel_rfl))
  obtain ⟨c2, n2, y2, e2, k2⟩ := field_cell hT h 2 rfl (by kernel_rfl) (of_decide_eq_true (by kernel_rfl))
  obtain ⟨c3, n3, y3, e3, k3⟩ := field_cell hT h 3 rfl (by kernel_rfl) (of_decide_eq_true (by kernel_rfl))
  obtain ⟨c4, n4, y4, e4, k4⟩ := field_cell hT h 4 rfl (by kernel_rfl) (of_decide_eq_true (by kernel_rfl))
  obtain ⟨c5, n5, y5, e5, k5⟩ := field_cell hT h 5 rfl (by kernel_rfl) (of_decide_eq_true (by kernel_rfl))
  obtain ⟨s, rfl, hs⟩ := str_one Tryz.underlying9 k0
  obtain ⟨op, rfl, ho⟩ := int_one Tryz.underlying3 k1
  obtain ⟨ver, rfl, hv⟩ := int_one Tryz.underlying3 k2
  obtain ⟨slot, rfl, hsl⟩ := int_one Tryz.underlying3 k3
  obtain ⟨f, rfl, hf⟩ := str_one Tryz.underlying9 k4
  obtain ⟨on, rfl⟩ := bool_one_ Tryz.underlying4 k5
  exact ⟨s, f, op, ver, slot, on, six_of hl e0 e1 e2 e3 e4 e5, hs, hf, ho, hv, hsl⟩
set_option maxRecDepth 100000 in
/-- An atom, by value. -/
theorem open_atom {r : Reach} {b0 : Nat} {v : Value} {d : DataW H} {p : List MemPlace} (hv : Value.okWide Tryz.prog w r b0 26 v) (h : DataW.Trod enc Tryz.prog w base sp held 26 v d p) :
    ∃ (s f : ByteArray) (op ver slot : Int) (on : Bool), v = atv s op ver slot f on ∧ s.size ≤ maxLen ∧ f.size ≤ maxLen ∧ In64 op ∧
      In64 ver ∧ In64 slot := by
  obtain ⟨cs, rfl, _⟩ := okWide_struct Tryz.underlying26 hv
  obtain ⟨fuel, hf⟩ := h
  obtain ⟨s, f, op, ver, slot, on, e, hh⟩ := atom_cells hf
  have e' : cs.toList = [.string s, .int .i64 op, .int .i64 ver, .int .i64 slot, .string f, .bool on] := by simpa [Value.cells] using e
  refine ⟨s, f, op, ver, slot, on, ?_, hh⟩
  obtain ⟨l⟩ := cs
  simp only at e'
  subst e'
  rfl
end

/-! what the listed variables hold -/
theorem laid_at {P : Program} {w : World} : ∀ {l : List (String × DataW Unit)} {k : Nat} {x : String × DataW Unit}, laidMet P l w → l[k]? = some x → ∃ r, laidMet P (x :: r) w
  | [], _, _, _, h => by simp at h
  | y :: r, 0, x, h, hk => by
    simp only [List.getElem?_cons_zero, Option.some.injEq] at hk
    subst hk
    exact ⟨r, h⟩
  | y :: r, k + 1, x, h, hk => laid_at h.tail (by simpa using hk)
theorem gPow : Tryz.prog.globalNamed "internal/strconv.uint64pow10" = some 1 := by kernel_rfl
theorem gRng : Tryz.prog.globalNamed "strconv.ErrRange" = some 3 := by kernel_rfl
theorem gSyn : Tryz.prog.globalNamed "strconv.ErrSyntax" = some 2 := by kernel_rfl
theorem tPow : (Tryz.prog.globals[1]?).map (·.type) = some 193 := by kernel_rfl
theorem tRng : (Tryz.prog.globals[3]?).map (·.type) = some 77 := by kernel_rfl
theorem tSyn : (Tryz.prog.globals[2]?).map (·.type) = some 77 := by kernel_rfl
theorem rowErr : ∀ u, Tryz.prog.typeName? 3 u = some "*errors.errorString" → u = 212 := fun _ h => typeName_ptr_named (nm := "errors.errorString") (by kernel_rfl) (by kernel_rfl) (by decide) _ h
theorem laidV_of {w : World} {l : List (String × DataW Unit)} (h : laidMet Tryz.prog l w) {i j k : Nat} (hi : l[i]? = some ("internal/strconv.uint64pow10", Rows.laid_internal_strconv_uint64pow10)) (hj : l[j]? = some ("strconv.ErrRange", Rows.laid_strconv_ErrRange)) (hk : l[k]? = some ("strconv.ErrSyntax", Rows.laid_strconv_ErrSyntax)) : LaidV w := by
  obtain ⟨_, h1⟩ := laid_at h hi
  obtain ⟨_, h2⟩ := laid_at h hj
  obtain ⟨_, h3⟩ := laid_at h hk
  obtain ⟨a2, s2, e2, _⟩ := laid_sentinel h2 gRng tRng Tryz.underlying77 rowErr Tryz.underlying212 Tryz.underlying214 rfl rfl Tryz.underlying9 (by kernel_rfl) (by kernel_rfl)
  obtain ⟨a3, s3, e3, _⟩ := laid_sentinel h3 gSyn tSyn Tryz.underlying77 rowErr Tryz.underlying212 Tryz.underlying214 rfl rfl Tryz.underlying9 (by kernel_rfl) (by kernel_rfl)
  exact ⟨⟨_, _, e3⟩, ⟨_, _, e2⟩, Lib.tabIs_of_head gPow tPow Tryz.underlying193 Tryz.underlying118 (by kernel_rfl) (by kernel_rfl) h1⟩
end Go.Proofs.YthpkffeiehnamaaGreatDoor

/- Arguments that can be read as data, opened into the words of these proofs. -/
namespace Go.Proofs.YthpkffeiehnamaaGreatDoor
open Go.ChangeShapes Go.WideShapes Go.ChangeAt Go.RowKit Go.Joins Go.Deep

theorem spot_add {w : World} {a : Addr} {n : Nat} {f : Nat → Value} (hn : 0 < n) (h : ∀ i, i < n → w.cell? (a.add i) = some (f i)) : ∃ b o, a = ⟨b, o, none⟩ ∧ b < w.heap.size ∧ ∀ j, j < n → w.cell? ⟨b, o + j, none⟩ = some (f j) := by
  obtain ⟨b, o, spot⟩ := a
  have h0 := h 0 hn
  have hs : spot = none := by simpa [Addr.add] using World.cell?_spot h0
  subst hs
  have ha : ∀ j, (⟨b, o, none⟩ : Addr).add j = ⟨b, o + j, none⟩ := by
    intro j; unfold Addr.add; by_cases hj : j = 0 <;> simp [hj]
  refine ⟨b, o, rfl, ?_, fun j hj => by rw [← ha]; exact h j hj⟩
  have := World.block_lt_of_cell? w _ h0
  rw [ha] at this; exact this

theorem row_of_cells {w : World} {a : Addr} {n : Nat} {vs : List Value} (hl : vs.length = n) (h : ∀ i (_ : i < n), w.cell? (a.add i) = vs[i]?) : Row w (fun k => k < w.heap.size) (some a) n vs := by
  refine ⟨hl, fun hn => ?_⟩
  obtain ⟨b, o, rfl, hb, hc⟩ := spot_add (f := fun i => (vs[i]?).getD undef) hn (fun i hi => by rw [h i hi, List.getElem?_eq_getElem (by omega)]; rfl)
  exact ⟨b, o, rfl, hb, fun j hj => by rw [hc j hj, List.getElem?_eq_getElem (by omega)]; rfl⟩

section
variable {H : Type} {enc : TypeId × Value → H} {P : Program} {w : World} {base : Nat} {held : Bool}
end
end Go.Proofs.YthpkffeiehnamaaGreatDoor

/- Arguments that can be read as needs, opened. -/
namespace Go.Proofs.YthpkffeiehnamaaGreatDoor
open Go.ChangeShapes Go.WideShapes Go.ChangeAt Go.RowKit Qm

theorem flatK {K : Nat} {cs : List (List Value)} (h : ∀ x ∈ cs, x.length = K) : ∀ {j : Nat} {x : List Value}, cs[j]? = some x → ∀ i, i < K → cs.flatten[j * K + i]? = x[i]? := by
  induction cs with
  | nil => intro j x hj; simp at hj
  | cons c r ih =>
    intro j x hj i hi
    have hc := h c (List.mem_cons_self ..)
    rw [List.flatten_cons]
    cases j with
    | zero =>
      simp only [List.getElem?_cons_zero, Option.some.injEq] at hj
      subst hj
      rw [List.getElem?_append_left (by omega)]; congr 1; omega
    | succ j =>
      rw [List.getElem?_cons_succ] at hj
      have he : (j + 1) * K = j * K + K := Nat.succ_mul j K
      rw [List.getElem?_append_right (by omega)]
      rw [← ih (fun y hy => h y (List.mem_cons_of_mem _ hy)) hj i hi]
      congr 1; omega
theorem flatK_len {K : Nat} {cs : List (List Value)} (h : ∀ x ∈ cs, x.length = K) : cs.flatten.length = cs.length * K := by
  induction cs with
  | nil => simp
  | cons c r ih =>
    have hc := h c (List.mem_cons_self ..)
    have := ih fun y hy => h y (List.mem_cons_of_mem _ hy)
    simp only [List.flatten_cons, List.length_append, List.length_cons, Nat.succ_mul]
    omega

section
variable {H : Type} {enc : TypeId × Value → H} {P : Program} {w : World} {base : Nat} {sp : Nat → Bool} {held : Bool}
/-- A slice whose elements have K cells: its rows, each read with less fuel. -/
theorem slice_items {t e : TypeId} {K fuel : Nat} {v : Value} {x : DataW H × List MemPlace} (ht : P.underlying t = some (.slice e)) (hK : P.cellsOf e = K) (hK0 : 0 < K) (h : DataW.trod enc P w base sp held fuel t [v] = some x) :
    ∃ (A : Option Addr) (n c : Nat) (cs : List (List Value)), v = .slice A n c ∧ n ≤ c ∧ c ≤ maxLen ∧ cs.length = n ∧ Row w (fun k => k < w.heap.size) A (n * K) cs.flatten ∧
      ∀ x ∈ cs, x.length = K ∧ ∃ m y, m < fuel ∧ DataW.trod enc P w base sp held m e x = some y := by
  rcases DataW.trod_slice ht h with ⟨hcs, _⟩ | ⟨a, len, cap, elems, rest, n, hfuel, hcs, _, hb, hl, hm, hlen, hel, _, _⟩
  · simp at hcs
    exact ⟨none, 0, 0, [], hcs, Nat.le_refl _, Nat.zero_le _, rfl, by simpa using Row.nil_, fun x hx => by cases hx⟩
  · simp at hcs
    subst hcs hK
    have key : ∀ i, i < len → ∃ cs', w.cells? base (a.add (i * P.cellsOf e)) (P.cellsOf e) = some cs' ∧ ∃ y, DataW.trod enc P w base sp held n e cs' = some y := fun i hi => by
      have h1 := hel i hi
      rw [List.getElem?_eq_getElem (by omega)] at h1
      obtain ⟨cs', h2, h3⟩ := Option.bind_eq_some_iff.1 h1
      exact ⟨cs', h2, _, h3⟩
    have hget : ∀ j, j < len → ((List.range len).map fun i => (w.cells? base (a.add (i * P.cellsOf e)) (P.cellsOf e)).getD [])[j]? = some ((w.cells? base (a.add (j * P.cellsOf e)) (P.cellsOf e)).getD []) := fun j hj => by
      rw [List.getElem?_map, List.getElem?_range hj]; rfl
    have hmem : ∀ x ∈ (List.range len).map fun i => (w.cells? base (a.add (i * P.cellsOf e)) (P.cellsOf e)).getD [], x.length = P.cellsOf e ∧ ∃ m y, m < fuel ∧ DataW.trod enc P w base sp held m e x = some y := by
      intro x hx
      obtain ⟨i, hi, rfl⟩ := List.mem_map.1 hx
      rw [List.mem_range] at hi
      obtain ⟨cs', h1, y, h2⟩ := key i hi
      rw [h1]
      exact ⟨(World.cells?_some h1).2.1, n, y, by omega, h2⟩
    refine ⟨some a, len, cap, (List.range len).map fun i => (w.cells? base (a.add (i * P.cellsOf e)) (P.cellsOf e)).getD [], rfl, hl, hm, by simp, ?_, hmem⟩
    refine row_of_cells (by rw [flatK_len fun x hx => (hmem x hx).1]; simp) fun p hp => ?_
    obtain ⟨i, r, hr, rfl⟩ : ∃ i r, r < P.cellsOf e ∧ p = i * P.cellsOf e + r := ⟨p / P.cellsOf e, p % P.cellsOf e, Nat.mod_lt _ hK0, by rw [Nat.mul_comm]; exact (Nat.div_add_mod p _).symm⟩
    have hi : i < len := by
      apply Classical.byContradiction
      intro hni
      have : len * P.cellsOf e ≤ i * P.cellsOf e := Nat.mul_le_mul_right _ (by omega)
      omega
    rw [flatK (fun x hx => (hmem x hx).1) (hget i hi) r hr]
    obtain ⟨cs', h1, _⟩ := key i hi
    rw [h1, ← Go.Deep.add_add]
    exact (World.cells?_some h1).2.2 r hr
end
section
variable {H : Type} {enc : TypeId × Value → H} {w : World} {base : Nat} {sp : Nat → Bool} {held : Bool}
theorem bs_list (s : ByteArray) : s = ⟨s.data.toList.toArray⟩ := by obtain ⟨⟨l⟩⟩ := s; rfl
set_option maxRecDepth 100000 in
theorem need_cells : ∀ (fuel : Nat) (cs : List Value) (x : DataW H × List MemPlace), DataW.trod enc Tryz.prog w base sp held fuel 57 cs = some x →
    ∃ y, RNd w (fun k => k < w.heap.size) cs y := by
  intro fuel
  induction fuel using Nat.strongRecOn with
  | _ fuel ih =>
    intro cs x h
    have hT := Tryz.underlying57
    obtain ⟨xs, n, hfu, _, hlen, hxl, hx⟩ := DataW.trod_struct hT h
    have hl : cs.length = 10 := by rw [hlen]; kernel_rfl
    obtain ⟨c0, n0, y0, e0, k0⟩ := field_cell hT h 0 rfl (by kernel_rfl) (of_decide_eq_true (by kernel_rfl))
    obtain ⟨c7, n7, y7, e7, k7⟩ := field_cell hT h 2 rfl (by kernel_rfl) (of_decide_eq_true (by kernel_rfl))
    obtain ⟨c8, n8, y8, e8, k8⟩ := field_cell hT h 3 rfl (by kernel_rfl) (of_decide_eq_true (by kernel_rfl))
    have h1 := hx 1 _ rfl
    have h4 := hx 4 _ rfl
    have hxs : xs.length = 5 := hxl
    rw [List.getElem?_eq_getElem (by omega)] at h1 h4
    obtain ⟨k, rfl, _⟩ := int_one Tryz.underlying3 k0
    obtain ⟨f, rfl, hf⟩ := str_one Tryz.underlying9 k7
    obtain ⟨no, rfl⟩ := bool_one_ Tryz.underlying4 k8
    obtain ⟨s, g, op, ver, slot, on, ea, hs, hg, _, _, _⟩ := atom_cells h1
    match cs, hl with
    | [d0, d1, d2, d3, d4, d5, d6, d7, d8, d9], _ =>
      have h4' : DataW.trod enc Tryz.prog w base sp held n 55 [d9] = some xs[4] := h4
      obtain ⟨A, m, c, rows, rfl, hnc, hc, hrl, hrow, hit⟩ := slice_items Tryz.underlying55 (K := 10) (by kernel_rfl) (by decide) h4'
      have e0' : d0 = .int .i64 k := by simpa using e0
      have e7' : d7 = .string f := by simpa using e7
      have e8' : d8 = .bool no := by simpa using e8
      have ea' : [d1, d2, d3, d4, d5, d6] = [.string s, .int .i64 op, .int .i64 ver, .int .i64 slot, .string g, .bool on] := ea
      simp only [List.cons.injEq, and_true] at ea'
      obtain ⟨rfl, rfl, rfl, rfl, rfl, rfl⟩ := ea'
      subst e0' e7' e8'
      have hkid : ∀ x ∈ rows, ∃ y, RNd w (fun k => k < w.heap.size) x y := fun x hx => by
        obtain ⟨_, m, y, hm, hy⟩ := hit x hx
        exact ih m (by omega) x y hy
      obtain ⟨ks, hkl, hks⟩ : ∃ ks : List Nd, ks.length = rows.length ∧ ∀ (j : Nat) (x : List Value) (y : Nd), rows[j]? = some x → ks[j]? = some y → RNd w (fun k => k < w.heap.size) x y := by
        clear hrow hit hrl
        induction rows with
        | nil => exact ⟨[], rfl, fun j x y h => by simp at h⟩
        | cons r rs ihr =>
          obtain ⟨y, hy⟩ := hkid r (List.mem_cons_self ..)
          obtain ⟨ks, h1, h2⟩ := ihr fun x hx => hkid x (List.mem_cons_of_mem _ hx)
          refine ⟨y :: ks, by simp [h1], fun j x' y' h3 h4 => ?_⟩
          cases j with
          | zero =>
            simp only [List.getElem?_cons_zero, Option.some.injEq] at h3 h4
            subst h3 h4; exact hy
          | succ j => rw [List.getElem?_cons_succ] at h3 h4; exact h2 j x' y' h3 h4
      refine ⟨.mk k ⟨s.data.toList, op, ver, slot, g.data.toList, on⟩ f.data.toList no ks, ?_⟩
      have hr := RNd.shut (w := w) (S := fun k => k < w.heap.size) (k := k) (a := ⟨s.data.toList, op, ver, slot, g.data.toList, on⟩) (f := f.data.toList) (no := no) (ks := ks) hnc hc (by rw [← Lib.size_eq]; exact hs) (by rw [← Lib.size_eq]; exact hg) (by rw [← Lib.size_eq]; exact hf) ⟨rows, by omega, hrl, hrow, hks⟩
      unfold ndRow at hr
      simp only [] at hr
      rw [← bs_list, ← bs_list, ← bs_list] at hr
      exact hr
end
end Go.Proofs.YthpkffeiehnamaaGreatDoor
