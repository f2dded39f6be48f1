/- Parts of the proof: walks and plain laws, side by side. -/
import Derived.Test.YthpkffeiehnamaaGreatDoorM29
import Derived.Test.YthpkffeiehnamaaGreatDoorM6
import Derived.Test.YthpkffeiehnamaaGreatDoorM12
import Derived.Deep.QuietTactic
import Derived.BigQuiet
import Derived.IntWalk
import Derived.Test.YthpkffeiehnamaaGreatDoorM1
set_option linter.unusedVariables false
set_option linter.unusedSimpArgs false
set_option linter.unusedSectionVars false
/- Members, sets, wishes in memory. -/
namespace Go.Proofs.YthpkffeiehnamaaGreatDoor
open Go.RowKit Qm

/-- The two cells of a member. -/
def RMem (w : World) (S : Nat → Prop) (x : List Value) (m : Mem) : Prop := ∃ A n c, x = [.int .i64 m.pl, .slice A n c] ∧ n ≤ c ∧ c ≤ maxLen ∧ RBools w S A n m.on
def RSet (w : World) (S : Nat → Prop) (A : Option Addr) (n : Nat) (l : List Mem) : Prop := RSeq 2 (RMem w S) w S A n l
section
variable {w w' : World} {S S' : Nat → Prop} {A : Option Addr} {n : Nat} {l : List Mem} {x : List Value} {m : Mem}
theorem RMem.keep (h : RMem w S x m) (hw : ∀ p : Addr, S p.block → w'.cell? p = w.cell? p) : RMem w' S x m := by
  obtain ⟨A, n, c, rfl, h1, h2, h3⟩ := h; exact ⟨A, n, c, rfl, h1, h2, Row.keep h3 hw⟩
theorem RMem.more (hS : ∀ k, S k → S' k) (h : RMem w S x m) : RMem w S' x m := by
  obtain ⟨A, n, c, rfl, h1, h2, h3⟩ := h; exact ⟨A, n, c, rfl, h1, h2, Row.more h3 hS⟩
theorem RMem.under {B : Nat} (h : RMem w S x m) (hb : Below B w w') (hS : ∀ k, S k → k < B) : RMem w' S x m := h.keep fun _ hp => hb.cell (hS _ hp)
theorem RSet.len (h : RSet w S A n l) : l.length = n := RSeq.len h
theorem RSet.nil_ : RSet w S A 0 [] := RSeq.nil_
theorem RSet.keep (h : RSet w S A n l) (hw : ∀ p : Addr, S p.block → w'.cell? p = w.cell? p) : RSet w' S A n l := RSeq.keep h hw fun _ _ h => h.keep hw
theorem RSet.more (hS : ∀ k, S k → S' k) (h : RSet w S A n l) : RSet w S' A n l := RSeq.more hS h fun _ _ h => h.more hS
theorem RSet.under {B : Nat} (h : RSet w S A n l) (hb : Below B w w') (hS : ∀ k, S k → k < B) : RSet w' S A n l := h.keep fun _ hp => hb.cell (hS _ hp)
theorem RSet.at_ (h : RSet w S A n l) {j : Nat} (hj : j < n) :
    ∃ b o m B k d, A = some ⟨b, o, none⟩ ∧ S b ∧ l[j]? = some m ∧ k ≤ d ∧ d ≤ maxLen ∧ RBools w S B k m.on ∧ w.cell? ⟨b, o + j * 2, none⟩ = some (.int .i64 m.pl) ∧ w.cell? ⟨b, o + j * 2 + 1, none⟩ = some (.slice B k d) := by
  obtain ⟨b, o, x, m, hA, hb, hm, ⟨B, k, d, rfl, h1, h2, h3⟩, _, hc⟩ := RSeq.at_ h hj (by decide)
  exact ⟨b, o, m, B, k, d, hA, hb, hm, h1, h2, h3, hc 0 (by decide), hc 1 (by decide)⟩
end
/-- An atom's six cells. -/
def atRow (a : At) : List Value := [.string ⟨a.nm.toArray⟩, .int .i64 a.op, .int .i64 a.ver, .int .i64 a.slot, .string ⟨a.fl.toArray⟩, .bool a.on]
def RAt (x : List Value) (a : At) : Prop := x = atRow a ∧ a.nm.length ≤ maxLen ∧ a.fl.length ≤ maxLen
def RPair (x : List Value) (q : Int × Int) : Prop := x = [.int .i64 q.1, .int .i64 q.2]
/-- A wish by the headers of its four slices. -/
structure WsAt (w : World) (S : Nat → Prop) (A1 : Option Addr) (n1 c1 : Nat) (A2 : Option Addr) (n2 c2 : Nat) (A3 : Option Addr) (n3 c3 : Nat) (A4 : Option Addr) (n4 c4 : Nat) (v : Ws) : Prop where
  h1 : n1 ≤ c1 ∧ c1 ≤ maxLen
  h2 : n2 ≤ c2 ∧ c2 ≤ maxLen
  h3 : n3 ≤ c3 ∧ c3 ≤ maxLen
  h4 : n4 ≤ c4 ∧ c4 ≤ maxLen
  ts : RSeq 6 RAt w S A1 n1 v.ts
  ins : RSet w S A2 n2 v.ins
  ms : RInts w S A3 n3 v.ms
  on : RSeq 2 RPair w S A4 n4 v.on
section
variable {w w' : World} {S S' : Nat → Prop} {A1 A2 A3 A4 : Option Addr} {n1 c1 n2 c2 n3 c3 n4 c4 : Nat} {v : Ws}
theorem WsAt.keep (h : WsAt w S A1 n1 c1 A2 n2 c2 A3 n3 c3 A4 n4 c4 v) (hw : ∀ p : Addr, S p.block → w'.cell? p = w.cell? p) : WsAt w' S A1 n1 c1 A2 n2 c2 A3 n3 c3 A4 n4 c4 v :=
  ⟨h.h1, h.h2, h.h3, h.h4, h.ts.keep hw fun _ _ h => h, h.ins.keep hw, Row.keep h.ms hw, h.on.keep hw fun _ _ h => h⟩
theorem WsAt.more (hS : ∀ k, S k → S' k) (h : WsAt w S A1 n1 c1 A2 n2 c2 A3 n3 c3 A4 n4 c4 v) : WsAt w S' A1 n1 c1 A2 n2 c2 A3 n3 c3 A4 n4 c4 v :=
  ⟨h.h1, h.h2, h.h3, h.h4, RSeq.more hS h.ts fun _ _ h => h, h.ins.more hS, Row.more h.ms hS, RSeq.more hS h.on fun _ _ h => h⟩
theorem WsAt.under {B : Nat} (h : WsAt w S A1 n1 c1 A2 n2 c2 A3 n3 c3 A4 n4 c4 v) (hb : Below B w w') (hS : ∀ k, S k → k < B) : WsAt w' S A1 n1 c1 A2 n2 c2 A3 n3 c3 A4 n4 c4 v := h.keep fun _ hp => hb.cell (hS _ hp)
end
end Go.Proofs.YthpkffeiehnamaaGreatDoor

/- quartermasterref.CheckSet, walked. -/
namespace Go.Proofs.YthpkffeiehnamaaGreatDoor
open Go.RowKit Qm

set_option maxRecDepth 100000 in
set_option maxHeartbeats 3200000 in
theorem rcset_any (ps : List Pk) (l : List Mem) (S : Nat → Prop) (A B : Option Addr) (n c k d : Nat) (w : World) (hT : RTree w S A n ps) (hn8 : n ≤ 8) (hnc : n ≤ c) (hc : c ≤ maxLen) (hL : RSet w S B k l) (hk : k ≤ maxLen) (hS : ∀ k, S k → k < w.heap.size) :
    Calls Tryz.prog 24 #[.agg #[.slice A n c], .slice B k d] w fun e w' => e = .returned (.int .i64 (ckMs ps none l)) ∧ Below w.heap.size w w' := by
  have Hpl := Lib.hid hT.len
  have Hll := Lib.hid hL.len
  have X2 := Lib.hid (Tx.new w A n c)
  have HT := Lib.hid hT; have HS := Lib.hid hS; have HL := Lib.hid hL; clear hT hS hL
  obtain ⟨R, hR⟩ : ∃ R, R = ckMs ps none l := ⟨_, rfl⟩
  rw [← hR]
  have HK1 := Lib.hid hR
  clear hR
  unfold maxLen at hc hk
  go_enter Tryz.func24, Tryz.ntmps24
  go_wp2
  go_loopg [5, 10] k (fun g lv iv wr => ∃ (j : Nat) (la : Int), Hid (j + g = k) ∧ iv = .int .i64 j ∧ lv = .int .i64 la ∧ Hid (∀ q, prevOf (l.map Mem.pl) j = some q → la = q) ∧ Hid (ckMs ps none l = ckMs ps (prevOf (l.map Mem.pl) j) (l.drop j)) ∧ Hid (Tx w A n c wr))
  case atStart => exact ⟨0, -1, Lib.hid (Nat.zero_add _), rfl, rfl, Lib.hid (fun q h => by rw [prevOf_zero] at h; cases h), Lib.hid rfl, X2⟩
  case round =>
    obtain ⟨j, la, Hj, rfl, rfl, Hla, Hcl, XR⟩ := hrel
    clear X2
    by_cases hj : j < k
    · obtain ⟨b, o, m, E, q, r, rfl, hbS, hm, hqr, hr, hon, g0, g1⟩ := (HL.out.under XR.out.below HS.out).at_ hj
      have Hst := Lib.hid (ckMs_step (ps := ps) hm)
      have HMj : Hid (∀ i : Nat, j = i + 1 → ∃ m', l[i]? = some m') := Lib.hid fun i hi => ⟨_, List.getElem?_eq_getElem (by have := Hll.out; omega)⟩
      have Hol := Lib.hid hon.len
      have hbl : b < wr.heap.size := Nat.lt_of_lt_of_le (HS.out _ hbS) XR.out.below.size
      have X3 := Lib.hid (XR.out.move ((Below.refl _ wr).alloc (Nat.le_refl _) (.cells #[.int .i64 m.pl, .slice E q r] 103)))
      have Hmj : Hid (prevOf (l.map Mem.pl) (j + 1) = some m.pl) := Lib.hid (prevOf_succ (by rw [List.getElem?_map, hm]; rfl))
      obtain ⟨pl, on⟩ := m
      dsimp only at g0 g1 Hst Hol X3 Hmj
      clear hm hon
      have t0 := XR.out.whole.cell 0
      simp only [List.getElem?_cons_zero] at t0
      have tlt := XR.out.whole.lt
      by_cases hneg : pl < 0
      · have HE : Hid (ckMs ps (prevOf (l.map Mem.pl) j) (l.drop j) = 5) := Lib.hid (by rw [Hst.out, if_pos (.inl hneg)])
        have hneg' : decide (pl < 0) = true := decide_eq_true hneg
        go_wp2
        go_ret
        exact ⟨ret_int (by rw [HK1.out, Hcl.out, HE.out]), X3.out.below⟩
      have hneg' : decide (pl < 0) = false := decide_eq_false hneg
      by_cases hpn : (n : Int) ≤ pl
      ·
        have HE : Hid (ckMs ps (prevOf (l.map Mem.pl) j) (l.drop j) = 5) := Lib.hid (by rw [Hst.out, if_pos (.inr (by rw [Hpl.out]; exact hpn))])
        have hpn' : decide ((n : Int) ≤ pl) = true := decide_eq_true hpn
        go_wp2
        go_ret
        exact ⟨ret_int (by rw [HK1.out, Hcl.out, HE.out]), X3.out.below⟩
      obtain ⟨y, rfl⟩ : ∃ y : Nat, pl = y := ⟨pl.toNat, by omega⟩
      have hyn : y < n := by omega
      obtain ⟨b2, o2, p, D, fn, fc, kd, pa, f, no, F, fq, fd, rfl, hbS2, hp, hP, hcell⟩ := (HT.out.under XR.out.below HS.out).at_ hyn
      have h3 := hcell 3 (by omega)
      unfold pkRow ndRow at h3
      simp only [List.getElem?_cons_zero, List.getElem?_cons_succ] at h3
      have Hfl : Hid ((pkOf ps (y : Int)).fs.length = fn) := Lib.hid (by unfold pkOf; rw [Int.toNat_natCast, List.getD_eq_getElem?_getD, hp]; exact hP.fs.len)
      have hbl2 : b2 < wr.heap.size := Nat.lt_of_lt_of_le (HS.out _ hbS2) XR.out.below.size
      clear hcell hp hP
      have HSt2 : Hid (ckMs ps (prevOf (l.map Mem.pl) j) (l.drop j) = if badPl (prevOf (l.map Mem.pl) j) (y : Int) = true then 6 else if q ≠ fn then 4 else ckMs ps (prevOf (l.map Mem.pl) (j + 1)) (l.drop (j + 1))) := Lib.hid (by
        rw [Hst.out, if_neg (by have := Hpl.out; omega), Hfl.out, Hol.out])
      clear Hst
      have hy0 : (0 : Int) ≤ (y : Int) := by omega
      have hy1 : (y : Int) < n := by omega
      rcases j with _ | i
      · have HX : Hid (ckMs ps (prevOf (l.map Mem.pl) 0) (l.drop 0) = if q ≠ fn then 4 else ckMs ps (prevOf (l.map Mem.pl) (0 + 1)) (l.drop (0 + 1))) := Lib.hid (by rw [HSt2.out, if_neg (by rw [prevOf_zero]; simp [badPl])])
        simp only [Nat.zero_mul, Nat.add_zero] at g0 g1
        by_cases hq : q = fn
        · have HE : Hid (ckMs ps (prevOf (l.map Mem.pl) 0) (l.drop 0) = ckMs ps (prevOf (l.map Mem.pl) (0 + 1)) (l.drop (0 + 1))) := Lib.hid (by rw [HX.out, if_neg (by simpa using hq)])
          subst hq
          go_wp2
          go_quiet (fail)
          go_wp2
          go_roundg (gk - 1)
          case measure => have := Hj.out; omega
          case rel => exact ⟨0 + 1, y, Lib.hid (by have := Hj.out; omega), by go_num, rfl, Lib.hid (fun q h => by rw [Hmj.out] at h; exact Option.some.inj h), Lib.hid (by rw [Hcl.out, HE.out]), Lib.hid (X3.out.drew _)⟩
        · have HE : Hid (ckMs ps (prevOf (l.map Mem.pl) 0) (l.drop 0) = 4) := Lib.hid (by rw [HX.out, if_pos hq])
          have hq' : ((q : Int) != (fn : Int)) = true := by simp; omega
          go_wp2
          go_quiet (fail)
          go_wp2
          go_ret
          exact ⟨ret_int (by rw [HK1.out, Hcl.out, HE.out]), below_drewN X3.out.below _⟩
      · obtain ⟨b', o', m', E', q', r', e, _, hm', _, _, _, k0, _⟩ := (HL.out.under XR.out.below HS.out).at_ (j := i) (by omega)
        injection e with e; injection e with e1 e2; subst e1 e2
        have Hpr : Hid (prevOf (l.map Mem.pl) (i + 1) = some m'.pl) := Lib.hid (prevOf_succ (by rw [List.getElem?_map, hm']; rfl))
        have HSt3 : Hid (ckMs ps (prevOf (l.map Mem.pl) (i + 1)) (l.drop (i + 1)) = if badPl (some m'.pl) (y : Int) = true then 6 else if q ≠ fn then 4 else ckMs ps (prevOf (l.map Mem.pl) (i + 1 + 1)) (l.drop (i + 1 + 1))) := Lib.hid (by rw [HSt2.out, Hpr.out])
        have hla : m'.pl = la := (Hla.out _ Hpr.out).symm
        rw [hla] at HSt3
        clear hm' HSt2 hla k0
        have hwr : IntKind.i64.wrap ((i : Int) + 1 - 1) = (i : Int) := by rw [IntKind.wrap_i64]; omega
        have hwr0 : IntKind.i64.wrap (i : Int) = (i : Int) := by rw [IntKind.wrap_i64]; omega
        have hin : i < k := by omega
        have hin2 : (i : Int) < k := by omega
        have hin3 : (0 : Int) < (i : Int) + 1 := by omega
        by_cases hb : (y : Int) ≤ la
        · have HE : Hid (ckMs ps (prevOf (l.map Mem.pl) (i + 1)) (l.drop (i + 1)) = 6) := Lib.hid (by rw [HSt3.out, if_pos (by simpa [badPl] using hb)])
          have hb' : decide ((y : Int) ≤ la) = true := decide_eq_true hb
          go_wp2
          go_ret
          exact ⟨ret_int (by rw [HK1.out, Hcl.out, HE.out]), X3.out.below⟩
        · have HX : Hid (ckMs ps (prevOf (l.map Mem.pl) (i + 1)) (l.drop (i + 1)) = if q ≠ fn then 4 else ckMs ps (prevOf (l.map Mem.pl) (i + 1 + 1)) (l.drop (i + 1 + 1))) := Lib.hid (by rw [HSt3.out, if_neg (by simpa [badPl] using hb)])
          have hb' : decide ((y : Int) ≤ la) = false := decide_eq_false hb
          by_cases hq : q = fn
          · have HE : Hid (ckMs ps (prevOf (l.map Mem.pl) (i + 1)) (l.drop (i + 1)) = ckMs ps (prevOf (l.map Mem.pl) ((i + 1) + 1)) (l.drop ((i + 1) + 1))) := Lib.hid (by rw [HX.out, if_neg (by simpa using hq)])
            subst hq
            go_wp2
            go_quiet (fail)
            go_wp2
            go_roundg (gk - 1)
            case measure => have := Hj.out; omega
            case rel => exact ⟨(i + 1) + 1, y, Lib.hid (by have := Hj.out; omega), by go_num, rfl, Lib.hid (fun q h => by rw [Hmj.out] at h; exact Option.some.inj h), Lib.hid (by rw [Hcl.out, HE.out]), Lib.hid (X3.out.drew _)⟩
          · have HE : Hid (ckMs ps (prevOf (l.map Mem.pl) (i + 1)) (l.drop (i + 1)) = 4) := Lib.hid (by rw [HX.out, if_pos hq])
            have hq' : ((q : Int) != (fn : Int)) = true := by simp; omega
            go_wp2
            go_quiet (fail)
            go_wp2
            go_ret
            exact ⟨ret_int (by rw [HK1.out, Hcl.out, HE.out]), below_drewN X3.out.below _⟩
    · obtain rfl : k = j := by have := Hj.out; omega
      go_wp2
      go_ret
      exact ⟨ret_int (by rw [HK1.out, Hcl.out, ckMs_done (by have := Hll.out; omega)]), XR.out.below⟩
end Go.Proofs.YthpkffeiehnamaaGreatDoor

/- The document's text of a need, in plain words. -/
namespace Qm
open Go
def rhead (k : Int) (f : W) (no : Bool) : W := if k = 4 then [124, 124, 32, 40] else if k = 5 then (if no then [33] else []) ++ (f ++ [63, 32, 40]) else [40]
mutual
def rtx : Nd → W
  | .mk k a f no ks => if k = 1 then textOf a else if k = 2 then 33 :: textOf a else rhead k f no ++ (rtxL ks ++ [32, 41])
def rtxL : List Nd → W
  | [] => []
  | k :: r => 32 :: (rtx k ++ rtxL r)
end
def preW (ws : List W) : W := ws.flatMap fun w => 32 :: w
theorem preW_app (a b : List W) : preW (a ++ b) = preW a ++ preW b := by simp [preW]
theorem joinB_pre (w : W) : ∀ (r : List W), joinB 32 (w :: r) = w ++ preW r := by
  intro r
  induction r generalizing w with
  | nil => simp [joinB, preW]
  | cons v r ih =>
    have : joinB 32 (w :: v :: r) = w ++ 32 :: joinB 32 (v :: r) := rfl
    rw [this, ih]; simp [preW]
theorem ckNd_kids {k : Int} {a : At} {f : W} {no : Bool} {ks : List Nd} (h : ckNd (.mk k a f no ks) = 0) (hk : ¬ k = 1) (hk2 : ¬ k = 2) : (∀ x ∈ ks, ckNd x = 0) ∧ (k = 5 → isName f = true) ∧ 3 ≤ k ∧ k ≤ 5 := by
  simp only [ckNd] at h
  have hl : leafK k = false := by simp [leafK, hk, hk2]
  split at h
  · cases h
  · split at h
    · cases h
    · split at h
      · cases h
      · split at h
        · cases h
        · split at h
          · cases h
          · rename_i h1 _ _ _ h5
            rw [if_neg (by simp [hl])] at h
            refine ⟨ckKids_zero.1 h, fun e => ?_, by omega, by omega⟩
            cases hn : isName f
            · exact absurd ⟨e, hn⟩ h5
            · rfl
theorem ckNd_leaf {k : Int} {a : At} {f : W} {no : Bool} {ks : List Nd} (h : ckNd (.mk k a f no ks) = 0) (hk : k = 1 ∨ k = 2) : ckAtom a = 0 := by
  simp only [ckNd] at h
  have hl : leafK k = true := by simp [leafK, hk]
  split at h
  · cases h
  · split at h
    · cases h
    · split at h
      · cases h
      · split at h
        · cases h
        · split at h
          · cases h
          · first | exact h | (rw [if_pos hl] at h; exact h) | (simpa [hl] using h)
theorem preW_words : ∀ (y : Nd), ckNd y = 0 → preW (wordsN y) = 32 :: rtx y := by
  refine Nd.ind fun k a f no ks ih => ?_
  intro h
  simp only [wordsN, rtx]
  by_cases h1 : k = 1
  · have := ckNd_leaf h (.inl h1)
    rw [if_pos h1, if_pos h1]
    simp [preW, prAtom, this]
  rw [if_neg h1, if_neg h1]
  by_cases h2 : k = 2
  · have := ckNd_leaf h (.inr h2)
    rw [if_pos h2, if_pos h2]
    simp [preW, prAtom, this]
  rw [if_neg h2, if_neg h2]
  obtain ⟨hks, _, k3, k5⟩ := ckNd_kids h h1 h2
  have hL : ∀ (l : List Nd), (∀ x ∈ l, preW (wordsN x) = 32 :: rtx x) → preW (wordsL l) = rtxL l := by
    intro l
    induction l with
    | nil => intro _; rfl
    | cons x r ihr => intro hx; simp only [wordsL, rtxL]; rw [preW_app, hx x (List.mem_cons_self ..), ihr fun z hz => hx z (List.mem_cons_of_mem _ hz)]; rfl
  have e := hL ks fun x hx => ih x hx (hks x hx)
  rw [preW_app, show preW ([40] :: (wordsL ks ++ [[41]])) = 32 :: 40 :: (preW (wordsL ks) ++ [32, 41]) from by simp [preW], e]
  rcases (show k = 3 ∨ k = 4 ∨ k = 5 by omega) with rfl | rfl | rfl
  · simp [headW, rhead, preW]
  · simp [headW, rhead, preW]
  · cases no <;> simp [headW, rhead, preW]
theorem ndText_rtx {y : Nd} (h : ckNd y = 0) : ndText y = rtx y := by
  have e := preW_words y h
  unfold ndText
  cases hw : wordsN y with
  | nil => rw [hw] at e; simp [preW] at e
  | cons w r =>
    rw [joinB_pre]
    rw [hw] at e
    simp only [preW, List.flatMap_cons, List.cons_append, List.cons.injEq, true_and] at e
    exact e
theorem rhead_len {k : Int} {f : W} {no : Bool} (h : k = 5 → isName f = true) : (rhead k f no).length ≤ 12 := by
  unfold rhead
  split
  · simp
  · split
    · rename_i h5; have := (isName_len (h h5)).2; cases no <;> simp <;> omega
    · simp
theorem rtx_len : ∀ (y : Nd), ckNd y = 0 → (rtx y).length + 1 ≤ 120 * y.nodes := by
  refine Nd.ind fun k a f no ks ih => ?_
  intro h
  simp only [rtx, Nd.nodes]
  by_cases h1 : k = 1
  · have := textOf_len (atOk (ckNd_leaf h (.inl h1)))
    rw [if_pos h1]; omega
  rw [if_neg h1]
  by_cases h2 : k = 2
  · have := textOf_len (atOk (ckNd_leaf h (.inr h2)))
    rw [if_pos h2, List.length_cons]; omega
  rw [if_neg h2]
  obtain ⟨hks, hn, _, _⟩ := ckNd_kids h h1 h2
  have hL : ∀ (l : List Nd), (∀ x ∈ l, (rtx x).length + 1 ≤ 120 * x.nodes) → (rtxL l).length ≤ 120 * nodesL l := by
    intro l
    induction l with
    | nil => intro _; simp [rtxL]
    | cons x r ihr =>
      intro hx
      have := hx x (List.mem_cons_self ..)
      have := ihr fun z hz => hx z (List.mem_cons_of_mem _ hz)
      simp only [rtxL, nodesL, List.length_cons, List.length_append]; omega
  have := hL ks fun x hx => ih x hx (hks x hx)
  have := rhead_len (no := no) hn
  simp only [List.length_append, List.length_cons, List.length_nil]; omega
theorem rtxL_app (a b : List Nd) : rtxL (a ++ b) = rtxL a ++ rtxL b := by
  induction a with
  | nil => rfl
  | cons x r ih => simp [rtxL, ih]
theorem rtxL_take {ks : List Nd} {j : Nat} {y : Nd} (h : ks[j]? = some y) : rtxL (ks.take (j + 1)) = rtxL (ks.take j) ++ 32 :: rtx y := by
  rw [List.take_add_one, h, rtxL_app]; simp [rtxL]
theorem rtxL_take_len {ks : List Nd} (h : ∀ x ∈ ks, ckNd x = 0) (j : Nat) : (rtxL (ks.take j)).length ≤ 120 * nodesL ks := by
  induction ks generalizing j with
  | nil => simp [rtxL]
  | cons x r ih =>
    cases j with
    | zero => simp [rtxL]
    | succ j =>
      have := rtx_len x (h x (List.mem_cons_self ..))
      have := ih (fun z hz => h z (List.mem_cons_of_mem _ hz)) j
      simp only [List.take_succ_cons, rtxL, nodesL, List.length_cons, List.length_append]; omega
theorem nodes_kid {ks : List Nd} {x : Nd} (h : x ∈ ks) : x.nodes ≤ nodesL ks := by
  induction ks with
  | nil => cases h
  | cons y r ih =>
    simp only [nodesL]
    rcases List.mem_cons.1 h with rfl | h
    · omega
    · have := ih h; omega
end Qm
