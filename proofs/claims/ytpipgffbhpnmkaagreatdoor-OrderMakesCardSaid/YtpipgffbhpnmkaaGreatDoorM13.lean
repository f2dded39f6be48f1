/- Parts of the proof: walks and plain laws, side by side. -/
import Derived.Test.YtpipgffbhpnmkaaGreatDoorM5
import Derived.Test.YtpipgffbhpnmkaaGreatDoorM2
import Derived.Test.YtpipgffbhpnmkaaGreatDoorM12
import Derived.Test.YtpipgffbhpnmkaaGreatDoorShelf
import Derived.Test.YtpipgffbhpnmkaaGreatDoorM11
import Derived.Deep.QuietTactic
import Derived.BigQuiet
set_option linter.unusedVariables false
set_option linter.unusedSimpArgs false
set_option linter.unusedSectionVars false
/- atom.Fits, walked. -/
namespace Go.Proofs.YtpipgffbhpnmkaaGreatDoor
open Go.RowKit Qm

set_option maxHeartbeats 3200000 in
theorem fits_any (s f : ByteArray) (op ver slot v sl : Int) (on : Bool) (w : World) :
    Calls Tryz.prog 67 #[atv s op ver slot f on, .int .i64 v, .int .i64 sl] w fun e w' => e = .returned (.bool (fitsP (atOf s op ver slot f on) v sl)) ∧ Below w.heap.size w w' := by
  have BN := Lib.hid (Boxed.new w s op ver slot f on (t := 37))
  unfold atv
  by_cases z : slot = 0
  · subst z
    by_cases a1 : op = 1
    · subst a1
      go_enter Tryz.func67, Tryz.ntmps67
      go_wp2
      go_ret
      exact ⟨ret_bool (by rw [Bool.eq_iff_iff]; simp [fitsP, atOf, *] <;> exact decide_eq_true_iff.symm), (Below.refl _ _).alloc (Nat.le_refl _) _⟩
    · have b1 : (op == 1) = false := by simpa using a1
      by_cases a2 : op = 2
      · subst a2
        go_enter Tryz.func67, Tryz.ntmps67
        go_wp2
        go_ret
        exact ⟨ret_bool (by rw [Bool.eq_iff_iff]; simp [fitsP, atOf, *] <;> exact decide_eq_true_iff.symm), (Below.refl _ _).alloc (Nat.le_refl _) _⟩
      · have b2 : (op == 2) = false := by simpa using a2
        by_cases a3 : op = 3
        · subst a3
          go_enter Tryz.func67, Tryz.ntmps67
          go_wp2
          go_ret
          exact ⟨ret_bool (by rw [Bool.eq_iff_iff]; simp [fitsP, atOf, *] <;> exact decide_eq_true_iff.symm), (Below.refl _ _).alloc (Nat.le_refl _) _⟩
        · have b3 : (op == 3) = false := by simpa using a3
          go_enter Tryz.func67, Tryz.ntmps67
          go_wp2
          go_ret
          exact ⟨ret_bool (by rw [Bool.eq_iff_iff]; simp [fitsP, atOf, *] <;> exact decide_eq_true_iff.symm), (Below.refl _ _).alloc (Nat.le_refl _) _⟩
  · have z1 : (slot != 0) = true := by simpa using z
    by_cases y : slot = sl
    · have y1 : (slot != sl) = false := by simpa using y
      by_cases a1 : op = 1
      · subst a1
        go_enter Tryz.func67, Tryz.ntmps67
        go_wp2
        go_ret
        exact ⟨ret_bool (by rw [Bool.eq_iff_iff]; simp [fitsP, atOf, *] <;> exact decide_eq_true_iff.symm), (Below.refl _ _).alloc (Nat.le_refl _) _⟩
      · have b1 : (op == 1) = false := by simpa using a1
        by_cases a2 : op = 2
        · subst a2
          go_enter Tryz.func67, Tryz.ntmps67
          go_wp2
          go_ret
          exact ⟨ret_bool (by rw [Bool.eq_iff_iff]; simp [fitsP, atOf, *] <;> exact decide_eq_true_iff.symm), (Below.refl _ _).alloc (Nat.le_refl _) _⟩
        · have b2 : (op == 2) = false := by simpa using a2
          by_cases a3 : op = 3
          · subst a3
            go_enter Tryz.func67, Tryz.ntmps67
            go_wp2
            go_ret
            exact ⟨ret_bool (by rw [Bool.eq_iff_iff]; simp [fitsP, atOf, *] <;> exact decide_eq_true_iff.symm), (Below.refl _ _).alloc (Nat.le_refl _) _⟩
          · have b3 : (op == 3) = false := by simpa using a3
            go_enter Tryz.func67, Tryz.ntmps67
            go_wp2
            go_ret
            exact ⟨ret_bool (by rw [Bool.eq_iff_iff]; simp [fitsP, atOf, *] <;> exact decide_eq_true_iff.symm), (Below.refl _ _).alloc (Nat.le_refl _) _⟩
    · have y1 : (slot != sl) = true := by simpa using y
      go_enter Tryz.func67, Tryz.ntmps67
      go_wp2
      go_ret
      exact ⟨ret_bool (by unfold fitsP; rw [if_pos ⟨z, y⟩]), (Below.refl _ _).alloc (Nat.le_refl _) _⟩

end Go.Proofs.YtpipgffbhpnmkaaGreatDoor

/- tree.Means, walked. -/
namespace Go.Proofs.YtpipgffbhpnmkaaGreatDoor
open Go.RowKit Qm

/-- An atom means a package: by name, version, slot; and the package has its flag. -/
def meant (a : At) (p : Pk) : Bool := decide (p.nm = a.nm) && (fitsP a p.ver p.slot && (decide (a.fl = []) || p.fs.contains a.fl))
def meantTo (ps : List Pk) (a : At) : Nat → List Int
  | 0 => []
  | j + 1 => meantTo ps a j ++ (match ps[j]? with | some p => if meant a p = true then [(j : Int)] else [] | none => [])
theorem ckTree_len {ps : List Pk} (h : ckTree ps = 0) : ps.length ≤ 8 := by
  unfold ckTree at h
  split at h
  · cases h
  · omega
def meansE (ps : List Pk) (a : At) : Int := if ckTree ps ≠ 0 then ckTree ps else ckAtom a
def meansL (ps : List Pk) (a : At) : List Int := if meansE ps a = 0 then meantTo ps a ps.length else []

structure Mx (w : World) (A : Option Addr) (n c : Nat) (av : List Value) (wr : World) : Prop where
  below : Below w.heap.size w wr
  t : Whole wr w.heap.size 24 [.slice A n c]
  a : Whole wr (w.heap.size + 1) 37 av
theorem Mx.move {w : World} {A : Option Addr} {n c : Nat} {av : List Value} {w1 w2 : World} (h : Mx w A n c av w1) (hb : Below w1.heap.size w1 w2) : Mx w A n c av w2 :=
  ⟨h.below.trans (hb.mono h.below.size), h.t.below hb h.t.lt, h.a.below hb h.a.lt⟩
theorem Mx.new (w : World) (A : Option Addr) (n c : Nat) (av : List Value) : Mx w A n c av ((w.alloc (.cells #[.slice A n c] 24)).alloc (.cells av.toArray 37)) := by
  have hb1 : Below w.heap.size w (w.alloc (.cells #[.slice A n c] 24)) := (Below.refl _ w).alloc (Nat.le_refl _) _
  have ht := Whole.new w w.heap.size 24 [.slice A n c] rfl
  have hb2 : Below (w.alloc (.cells #[.slice A n c] 24)).heap.size (w.alloc (.cells #[.slice A n c] 24)) ((w.alloc (.cells #[.slice A n c] 24)).alloc (.cells av.toArray 37)) := (Below.refl _ _).alloc (Nat.le_refl _) _
  exact ⟨hb1.trans (hb2.mono hb1.size), ht.below hb2 ht.lt, Whole.new _ _ _ av (by simp)⟩
def MeansPost (w : World) (ps : List Pk) (a : At) (e : Ending) (w' : World) : Prop :=
  ∃ A c, e = .returned (.tuple #[.slice A (meansL ps a).length c, .int .i64 (meansE ps a)]) ∧ RInts w' (fun i => w.heap.size ≤ i ∧ i < w'.heap.size) A (meansL ps a).length (meansL ps a) ∧ (meansL ps a).length ≤ c ∧ c ≤ maxLen ∧ Below w.heap.size w w'
theorem MeansPost.err {w w' : World} {ps : List Pk} {a : At} {z : Int} (hz : z ≠ 0) (he : meansE ps a = z) (hb : Below w.heap.size w w') : MeansPost w ps a (.returned (.tuple #[.slice none 0 0, .int .i64 z])) w' := by
  have hl : meansL ps a = [] := by unfold meansL; rw [if_neg (by rw [he]; exact hz)]
  exact ⟨none, 0, by rw [hl, he]; rfl, by rw [hl]; exact Row.nil_, by rw [hl]; exact Nat.le_refl _, Nat.zero_le _, hb⟩
theorem MeansPost.ok {w w3 w' : World} {ps : List Pk} {a : At} {v : Value} (he : meansE ps a = 0) (hw : w.heap.size ≤ w3.heap.size) (hown : w'.ownsRow w3.heap.size 3 1 v (meantTo ps a ps.length).length ((meantTo ps a ps.length).map (.int .i64))) (hb : Below w.heap.size w w') :
    MeansPost w ps a (.returned (.tuple #[v, .int .i64 0])) w' := by
  have hl : meansL ps a = meantTo ps a ps.length := by unfold meansL; rw [if_pos he]
  obtain ⟨A, c, rfl, h1, h2, h3⟩ := own_form hown
  unfold MeansPost
  rw [hl, he]
  exact ⟨A, c, rfl, h3.more fun k hk => ⟨Nat.le_trans hw hk.1, hk.2⟩, h1, h2, hb⟩
end Go.Proofs.YtpipgffbhpnmkaaGreatDoor

/- Members, sets, wishes in memory. -/
namespace Go.Proofs.YtpipgffbhpnmkaaGreatDoor
open Go.RowKit Qm

/-- The two cells of a member. -/
def RMem (w : World) (S : Nat → Prop) (x : List Value) (m : Mem) : Prop := ∃ A n c, x = [.int .i64 m.pl, .slice A n c] ∧ n ≤ c ∧ c ≤ maxLen ∧ RBools w S A n m.on
def RSet (w : World) (S : Nat → Prop) (A : Option Addr) (n : Nat) (l : List Mem) : Prop := RSeq 2 (RMem w S) w S A n l
section
variable {w w' : World} {S S' : Nat → Prop} {A : Option Addr} {n : Nat} {l : List Mem} {x : List Value} {m : Mem}
theorem RMem.keep (h : RMem w S x m) (hw : ∀ p : Addr, S p.block → w'.cell? p = w.cell? p) : RMem w' S x m := by
  obtain ⟨A, n, c, rfl, h1, h2, h3⟩ := h; exact ⟨A, n, c, rfl, h1, h2, Row.keep h3 hw⟩
theorem RMem.more (hS : ∀ k, S k → S' k) (h : RMem w S x m) : RMem w S' x m := by
  obtain ⟨A, n, c, rfl, h1, h2, h3⟩ := h; exact ⟨A, n, c, rfl, h1, h2, Row.more h3 hS⟩
theorem RMem.under {B : Nat} (h : RMem w S x m) (hb : Below B w w') (hS : ∀ k, S k → k < B) : RMem w' S x m := h.keep fun _ hp => hb.cell (hS _ hp)
theorem RSet.len (h : RSet w S A n l) : l.length = n := RSeq.len h
theorem RSet.nil_ : RSet w S A 0 [] := RSeq.nil_
theorem RSet.keep (h : RSet w S A n l) (hw : ∀ p : Addr, S p.block → w'.cell? p = w.cell? p) : RSet w' S A n l := RSeq.keep h hw fun _ _ h => h.keep hw
theorem RSet.more (hS : ∀ k, S k → S' k) (h : RSet w S A n l) : RSet w S' A n l := RSeq.more hS h fun _ _ h => h.more hS
theorem RSet.under {B : Nat} (h : RSet w S A n l) (hb : Below B w w') (hS : ∀ k, S k → k < B) : RSet w' S A n l := h.keep fun _ hp => hb.cell (hS _ hp)
theorem RSet.at_ (h : RSet w S A n l) {j : Nat} (hj : j < n) :
    ∃ b o m B k d, A = some ⟨b, o, none⟩ ∧ S b ∧ l[j]? = some m ∧ k ≤ d ∧ d ≤ maxLen ∧ RBools w S B k m.on ∧ w.cell? ⟨b, o + j * 2, none⟩ = some (.int .i64 m.pl) ∧ w.cell? ⟨b, o + j * 2 + 1, none⟩ = some (.slice B k d) := by
  obtain ⟨b, o, x, m, hA, hb, hm, ⟨B, k, d, rfl, h1, h2, h3⟩, _, hc⟩ := RSeq.at_ h hj (by decide)
  exact ⟨b, o, m, B, k, d, hA, hb, hm, h1, h2, h3, hc 0 (by decide), hc 1 (by decide)⟩
end
/-- An atom's six cells. -/
def atRow (a : At) : List Value := [.string ⟨a.nm.toArray⟩, .int .i64 a.op, .int .i64 a.ver, .int .i64 a.slot, .string ⟨a.fl.toArray⟩, .bool a.on]
def RAt (x : List Value) (a : At) : Prop := x = atRow a ∧ a.nm.length ≤ maxLen ∧ a.fl.length ≤ maxLen
def RPair (x : List Value) (q : Int × Int) : Prop := x = [.int .i64 q.1, .int .i64 q.2]
/-- A wish by the headers of its four slices. -/
structure WsAt (w : World) (S : Nat → Prop) (A1 : Option Addr) (n1 c1 : Nat) (A2 : Option Addr) (n2 c2 : Nat) (A3 : Option Addr) (n3 c3 : Nat) (A4 : Option Addr) (n4 c4 : Nat) (v : Ws) : Prop where
  h1 : n1 ≤ c1 ∧ c1 ≤ maxLen
  h2 : n2 ≤ c2 ∧ c2 ≤ maxLen
  h3 : n3 ≤ c3 ∧ c3 ≤ maxLen
  h4 : n4 ≤ c4 ∧ c4 ≤ maxLen
  ts : RSeq 6 RAt w S A1 n1 v.ts
  ins : RSet w S A2 n2 v.ins
  ms : RInts w S A3 n3 v.ms
  on : RSeq 2 RPair w S A4 n4 v.on
section
variable {w w' : World} {S S' : Nat → Prop} {A1 A2 A3 A4 : Option Addr} {n1 c1 n2 c2 n3 c3 n4 c4 : Nat} {v : Ws}
theorem WsAt.keep (h : WsAt w S A1 n1 c1 A2 n2 c2 A3 n3 c3 A4 n4 c4 v) (hw : ∀ p : Addr, S p.block → w'.cell? p = w.cell? p) : WsAt w' S A1 n1 c1 A2 n2 c2 A3 n3 c3 A4 n4 c4 v :=
  ⟨h.h1, h.h2, h.h3, h.h4, h.ts.keep hw fun _ _ h => h, h.ins.keep hw, Row.keep h.ms hw, h.on.keep hw fun _ _ h => h⟩
theorem WsAt.more (hS : ∀ k, S k → S' k) (h : WsAt w S A1 n1 c1 A2 n2 c2 A3 n3 c3 A4 n4 c4 v) : WsAt w S' A1 n1 c1 A2 n2 c2 A3 n3 c3 A4 n4 c4 v :=
  ⟨h.h1, h.h2, h.h3, h.h4, RSeq.more hS h.ts fun _ _ h => h, h.ins.more hS, Row.more h.ms hS, RSeq.more hS h.on fun _ _ h => h⟩
theorem WsAt.under {B : Nat} (h : WsAt w S A1 n1 c1 A2 n2 c2 A3 n3 c3 A4 n4 c4 v) (hb : Below B w w') (hS : ∀ k, S k → k < B) : WsAt w' S A1 n1 c1 A2 n2 c2 A3 n3 c3 A4 n4 c4 v := h.keep fun _ hp => hb.cell (hS _ hp)
end
end Go.Proofs.YtpipgffbhpnmkaaGreatDoor

/- slices.Index of words. (Of the shelf: Tryz.slices_Index_string Tryz.slices_Index_string_empty) -/
namespace Go.Proofs.YtpipgffbhpnmkaaGreatDoor
open Go.RowKit Qm

def ixI : Option Nat → Int
  | some k => (k : Int)
  | none => -1
theorem idxFrom_ix (x : Qm.W) : ∀ (fs : List Qm.W) (i : Nat), Lib.idxFromS (bas fs) ⟨x.toArray⟩ i = ixI ((ixOf x fs).map (· + i))
  | [], i => rfl
  | f :: r, i => by
    have ih := idxFrom_ix x r (i + 1)
    have hb : bas (f :: r) = ⟨f.toArray⟩ :: bas r := rfl
    rw [hb]
    have he : ((⟨f.toArray⟩ : ByteArray) = ⟨x.toArray⟩) ↔ f = x := by
      constructor
      · intro h; have := congrArg (·.data.toList) h; simpa using this
      · rintro rfl; rfl
    unfold Lib.idxFromS
    simp only [ixOf]
    by_cases hf : f = x
    · rw [if_pos hf, if_pos (he.2 hf)]
      simp [ixI]
    · rw [if_neg hf, if_neg (fun h => hf (he.1 h)), ih]
      cases ixOf x r with
      | none => rfl
      | some k => simp [ixI]; omega
theorem indexS_any (A : Option Addr) (n c : Nat) (fs : List Qm.W) (x : Qm.W) (w : World) (S : Nat → Prop) (h : Row w S A n (strs fs)) (hn : n ≤ maxLen) :
    Calls Tryz.prog 56 #[.slice A n c, .string ⟨x.toArray⟩] w fun e w' => e = .returned (.int .i64 (ixI (ixOf x fs))) ∧ w' = w := by
  have hl : fs.length = n := by have := h.len; simpa [strs] using this
  unfold maxLen at hn
  have hx : Lib.idxOfS (bas fs) ⟨x.toArray⟩ = ixI (ixOf x fs) := by
    unfold Lib.idxOfS; rw [idxFrom_ix]; cases ixOf x fs <;> rfl
  by_cases h0 : n = 0
  · subst h0
    obtain rfl := List.eq_nil_of_length_eq_zero hl
    exact (Tryz.slices_Index_string_empty A c ⟨x.toArray⟩ w).mono fun e w' ⟨he, hw⟩ => ⟨he.trans (by rw [show Lib.idxOfS [] ⟨x.toArray⟩ = ixI (ixOf x []) from hx]), hw⟩
  · obtain ⟨b, o, rfl, _⟩ := h.some_lit (by omega)
    refine (Tryz.slices_Index_string b o n c (bas fs) ⟨x.toArray⟩ w (by simp [bas, hl]) (by omega) (strs_cell (by rw [hl]; exact h))).mono fun e w' ⟨he, hw⟩ => ⟨?_, hw⟩
    rw [he, List.take_of_length_le (by simp [bas, hl]), hx]
end Go.Proofs.YtpipgffbhpnmkaaGreatDoor

/- valid.is, walked. -/
namespace Go.Proofs.YtpipgffbhpnmkaaGreatDoor
open Go.RowKit Qm

theorem pkOf_at {ps : List Pk} {j : Nat} {p : Pk} (h : ps[j]? = some p) : pkOf ps (j : Int) = p := by
  unfold pkOf
  rw [Int.toNat_natCast, List.getD_eq_getElem?_getD, h]; rfl
/-- The boxes of valid.is. -/
structure Ib (w : World) (A : Option Addr) (n c : Nat) (mv av : List Value) (wx : World) : Prop where
  t : Whole wx w.heap.size 24 [.slice A n c]
  m : Whole wx (w.heap.size + 1) 33 mv
  a : Whole wx (w.heap.size + 1 + 1) 37 av
  bel : Below w.heap.size w wx
theorem Ib.move {w : World} {A : Option Addr} {n c : Nat} {mv av : List Value} {wx wy : World} (h : Ib w A n c mv av wx) (hb : Below wx.heap.size wx wy) : Ib w A n c mv av wy :=
  ⟨h.t.below hb h.t.lt, h.m.below hb h.m.lt, h.a.below hb h.a.lt, h.bel.trans (hb.mono h.bel.size)⟩
theorem Ib.new (w : World) (A : Option Addr) (n c : Nat) (mv av : List Value) : Ib w A n c mv av (((w.alloc (.cells #[.slice A n c] 24)).alloc (.cells mv.toArray 33)).alloc (.cells av.toArray 37)) :=
  ⟨((Whole.new w _ _ [.slice A n c] rfl).alloc _).alloc _, (Whole.new (w.alloc (.cells #[.slice A n c] 24)) (w.heap.size + 1) _ mv (by simp)).alloc _, Whole.new ((w.alloc (.cells #[.slice A n c] 24)).alloc (.cells mv.toArray 33)) (w.heap.size + 1 + 1) _ av (by simp),
    (((Below.refl _ w).alloc (Nat.le_refl _) _).alloc (by simp) _).alloc (by simp; omega) _⟩
set_option maxRecDepth 100000 in
set_option maxHeartbeats 3200000 in
theorem is_any (ps : List Pk) (m : Mem) (a : At) (S : Nat → Prop) (A B : Option Addr) (n c k d : Nat) (w : World) (hT : RTree w S A n ps) (hB : RBools w S B k m.on) (hkd : k ≤ d) (hm : MemOk ps m) (hS : ∀ k, S k → k < w.heap.size) (hn8 : n ≤ 8) (h1 : a.nm.length ≤ maxLen) (h2 : a.fl.length ≤ maxLen) :
    Calls Tryz.prog 75 #[.agg #[.slice A n c], .agg #[.int .i64 m.pl, .slice B k d], .agg #[.string ⟨a.nm.toArray⟩, .int .i64 a.op, .int .i64 a.ver, .int .i64 a.slot, .string ⟨a.fl.toArray⟩, .bool a.on]] w fun e w' => e = .returned (.bool (isA ps m a)) ∧ Below w.heap.size w w' := by
  obtain ⟨hm0, hm1, hm2⟩ := hm
  have hl := hT.len
  obtain ⟨pl, on⟩ := m
  dsimp only at hm0 hm1 hm2 hB ⊢
  obtain ⟨j, rfl⟩ : ∃ j : Nat, pl = j := ⟨pl.toNat, by omega⟩
  have hjn : j < n := by omega
  obtain ⟨b, o, p, D, q, c', kd, pa, f, no, E, r, d', rfl, hbS, hp, hP, hcell⟩ := hT.at_ hjn
  rw [pkOf_at hp] at hm2
  have HC : Hid (isA ps ⟨(j : Int), on⟩ a = (decide (p.nm = a.nm) && (fitsP a p.ver p.slot && (decide (a.fl = []) || flagIs p ⟨(j : Int), on⟩ a)))) := Lib.hid (by unfold isA; rw [pkOf_at hp])
  have HF : Hid (flagIs p ⟨(j : Int), on⟩ a = match ixOf a.fl p.fs with | some i => onOf on i == a.on | none => false) := Lib.hid rfl
  generalize isA ps ⟨(j : Int), on⟩ a = R at HC ⊢
  generalize flagIs p ⟨(j : Int), on⟩ a = fl at HC HF
  have g0 := hcell 0 (by omega); have g1 := hcell 1 (by omega); have g2 := hcell 2 (by omega); have g3 := hcell 3 (by omega); have g4 := hcell 4 (by omega); have g5 := hcell 5 (by omega); have g6 := hcell 6 (by omega); have g7 := hcell 7 (by omega); have g8 := hcell 8 (by omega); have g9 := hcell 9 (by omega); have g10 := hcell 10 (by omega); have g11 := hcell 11 (by omega); have g12 := hcell 12 (by omega); have g13 := hcell 13 (by omega)
  unfold pkRow ndRow at g0 g1 g2 g3 g4 g5 g6 g7 g8 g9 g10 g11 g12 g13
  simp only [List.getElem?_cons_zero, List.getElem?_cons_succ, Nat.add_zero] at g0 g1 g2 g3 g4 g5 g6 g7 g8 g9 g10 g11 g12 g13
  clear hcell hp
  have hbl : b < w.heap.size := hS b hbS
  have hbl_1 : b < w.heap.size + 1 := by omega
  have hbl_2 : b < w.heap.size + 1 + 1 := by omega
  have I0 := Lib.hid (Ib.new w (some ⟨b, o, none⟩) n c [.int .i64 (j : Int), .slice B k d] [.string ⟨a.nm.toArray⟩, .int .i64 a.op, .int .i64 a.ver, .int .i64 a.slot, .string ⟨a.fl.toArray⟩, .bool a.on])
  have P1 := Lib.hid (Whole.new (((w.alloc (.cells #[.slice (some ⟨b, o, none⟩) n c] 24)).alloc (.cells #[.int .i64 (j : Int), .slice B k d] 33)).alloc (.cells #[.string ⟨a.nm.toArray⟩, .int .i64 a.op, .int .i64 a.ver, .int .i64 a.slot, .string ⟨a.fl.toArray⟩, .bool a.on] 37)) (w.heap.size + 1 + 1 + 1) 42 (pkRow p D q c' (ndRow kd pa f no E r d')) (by simp))
  have I1 := Lib.hid (I0.out.move ((Below.refl _ (((w.alloc (.cells #[.slice (some ⟨b, o, none⟩) n c] 24)).alloc (.cells #[.int .i64 (j : Int), .slice B k d] 33)).alloc (.cells #[.string ⟨a.nm.toArray⟩, .int .i64 a.op, .int .i64 a.ver, .int .i64 a.slot, .string ⟨a.fl.toArray⟩, .bool a.on] 37))).alloc (Nat.le_refl _) (.cells (pkRow p D q c' (ndRow kd pa f no E r d')).toArray 42)))
  have HFS := Lib.hid hP.fs.row
  have HBO := Lib.hid hB
  have HPm := Lib.hid (Nat.le_trans hP.cap hP.max)
  have HBl := Lib.hid hB.len
  have HFl := Lib.hid hP.fs.len
  have HS := Lib.hid hS
  have hft := fun wx => fits_any ⟨a.nm.toArray⟩ ⟨a.fl.toArray⟩ a.op a.ver a.slot p.ver p.slot a.on wx
  rw [atOf_mk] at hft
  unfold atv at hft
  have Hft := Lib.hid hft
  clear hT hB hP hS hft I0
  obtain ⟨nm, ver, slot, fs, nd⟩ := p
  unfold pkRow ndRow at P1 I1
  dsimp only at g0 g1 g2 g3 g4 g5 g6 g7 g8 g9 g10 g11 g12 g13 P1 I1 HFS Hft HC HF HFl hm2
  generalize fitsP a ver slot = ft at Hft HC
  have hj1 : (j : Int) < n := by omega
  by_cases hn : nm = a.nm
  · subst hn
    have H1 : Hid (R = (ft && (decide (a.fl = []) || fl))) := Lib.hid (by rw [HC.out]; simp)
    clear HC
    cases ft
    · have HE : Hid (R = false) := Lib.hid (by rw [H1.out]; rfl)
      go_enter Tryz.func75, Tryz.ntmps75
      go_wp2_with (first | (go_at_call 67; refine (Hft.out _).mono ?_; rintro e w4 ⟨rfl, hb4⟩; refine Hid.out ?_))
      refine Lib.hid ?_
      have P4 := Lib.hid (P1.out.below hb4 P1.out.lt)
      have I4 := Lib.hid (I1.out.move hb4)
      clear hb4
      go_wp2
      go_ret
      exact ⟨ret_bool HE.out.symm, I4.out.bel⟩
    · by_cases hfl : a.fl = []
      · have HE : Hid (R = true) := Lib.hid (by rw [H1.out, decide_eq_true hfl]; rfl)
        have hf1 : (a.fl == []) = true := by simpa using hfl
        have hf2 : a.fl.isEmpty = true := by simpa using hfl
        have Hfl := Lib.hid hfl; clear hfl
        go_enter Tryz.func75, Tryz.ntmps75
        go_wp2_with (first | (go_at_call 67; refine (Hft.out _).mono ?_; rintro e w4 ⟨rfl, hb4⟩; refine Hid.out ?_))
        refine Lib.hid ?_
        have P4 := Lib.hid (P1.out.below hb4 P1.out.lt)
        have I4 := Lib.hid (I1.out.move hb4)
        clear hb4
        have a4 := I4.out.a.cell 4
        simp only [List.getElem?_cons_zero, List.getElem?_cons_succ] at a4
        rw [Hfl.out] at a4
        go_wp2
        go_ret
        exact ⟨ret_bool HE.out.symm, I4.out.bel⟩
      · have hf1 : (a.fl == []) = false := by simpa using hfl
        have hf2 : a.fl.isEmpty = false := by simpa using hfl
        have H2 : Hid (R = fl) := Lib.hid (by rw [H1.out, decide_eq_false hfl]; simp)
        clear hfl H1
        cases hix : ixOf a.fl fs with
        | none =>
          have HE : Hid (R = false) := Lib.hid (by rw [H2.out, HF.out, hix])
          have Hix := Lib.hid (fun wx hb => indexS_any D q c' fs a.fl wx S (HFS.out.below (w' := wx) hb HS.out) HPm.out)
          rw [hix] at Hix
          unfold ixI at Hix
          clear hix
          go_enter Tryz.func75, Tryz.ntmps75
          go_wp2_with (first | (go_at_call 67; refine (Hft.out _).mono ?_; rintro e w4 ⟨rfl, hb4⟩; refine Hid.out ?_))
          refine Lib.hid ?_
          have P4 := Lib.hid (P1.out.below hb4 P1.out.lt)
          have I4 := Lib.hid (I1.out.move hb4)
          clear hb4
          have a4 := I4.out.a.cell 4
          have p3 := P4.out.cell 3
          simp only [List.getElem?_cons_zero, List.getElem?_cons_succ] at a4 p3
          have plt := P4.out.lt
          go_wp2_with (first | (go_at_call 56; refine (Hix.out _ I4.out.bel).mono ?_; rintro e w5 ⟨rfl, hw5⟩; have hw6 := hw5.symm; subst hw6; refine Hid.out ?_))
          refine Lib.hid ?_
          go_wp2
          go_quiet (fail)
          go_wp2
          go_ret
          exact ⟨ret_bool HE.out.symm, below_drewN I4.out.bel _⟩
        | some i =>
          have hiq := ixOf_lt hix
          obtain ⟨b2, o2, rfl, hb2, hbc⟩ := HBO.out.at_ (k := i) (by rw [← HBl.out, hm2]; exact hiq)
          have hik : (i : Int) < k := by have := HBl.out; omega
          have hbl2 := HS.out b2 hb2
          have HE : Hid (R = (on.getD i false == a.on)) := Lib.hid (by rw [H2.out, HF.out, hix]; rfl)
          generalize on.getD i false = ob at hbc HE
          have Hix := Lib.hid (fun wx hb => indexS_any D q c' fs a.fl wx S (HFS.out.below (w' := wx) hb HS.out) HPm.out)
          rw [hix] at Hix
          unfold ixI at Hix
          clear hix hiq hm2
          go_enter Tryz.func75, Tryz.ntmps75
          go_wp2_with (first | (go_at_call 67; refine (Hft.out _).mono ?_; rintro e w4 ⟨rfl, hb4⟩; refine Hid.out ?_))
          refine Lib.hid ?_
          have P4 := Lib.hid (P1.out.below hb4 P1.out.lt)
          have I4 := Lib.hid (I1.out.move hb4)
          clear hb4
          have a4 := I4.out.a.cell 4
          have a5 := I4.out.a.cell 5
          have m1 := I4.out.m.cell 1
          have p3 := P4.out.cell 3
          simp only [List.getElem?_cons_zero, List.getElem?_cons_succ] at a4 a5 p3 m1
          have plt := P4.out.lt
          have ob4 := (I4.out.bel.cell (p := ⟨b2, o2 + i, none⟩) hbl2).trans hbc
          go_wp2_with (first | (go_at_call 56; refine (Hix.out _ I4.out.bel).mono ?_; rintro e w5 ⟨rfl, hw5⟩; have hw6 := hw5.symm; subst hw6; refine Hid.out ?_))
          refine Lib.hid ?_
          have hi0 : (0 : Int) ≤ (i : Int) := by omega
          go_wp2
          go_quiet (fail)
          go_wp2
          go_ret
          exact ⟨ret_bool HE.out.symm, below_drewN I4.out.bel _⟩
  · have hn' : (nm == a.nm) = false := by simpa using hn
    have HE : Hid (R = false) := Lib.hid (by rw [HC.out, decide_eq_false hn]; rfl)
    go_enter Tryz.func75, Tryz.ntmps75
    go_wp2
    go_ret
    exact ⟨ret_bool HE.out.symm, I1.out.bel⟩
end Go.Proofs.YtpipgffbhpnmkaaGreatDoor

/- order.is, walked. -/
namespace Go.Proofs.YtpipgffbhpnmkaaGreatDoor
open Go.RowKit Qm

/-- What an atom asks, of a package and a member of it. -/
def isP (p : Pk) (m : Mem) (a : At) : Bool := decide (p.nm = a.nm) && (fitsP a p.ver p.slot && (decide (a.fl = []) || flagIs p m a))
theorem isA_isP (ps : List Pk) (m : Mem) (a : At) : isA ps m a = isP (pkOf ps m.pl) m a := rfl
/-- The boxes of order.is. -/
structure Ob (w : World) (pv mv av : List Value) (wx : World) : Prop where
  p : Whole wx w.heap.size 42 pv
  m : Whole wx (w.heap.size + 1) 33 mv
  a : Whole wx (w.heap.size + 1 + 1) 37 av
  bel : Below w.heap.size w wx
theorem Ob.move {w : World} {pv mv av : List Value} {wx wy : World} (h : Ob w pv mv av wx) (hb : Below wx.heap.size wx wy) : Ob w pv mv av wy :=
  ⟨h.p.below hb h.p.lt, h.m.below hb h.m.lt, h.a.below hb h.a.lt, h.bel.trans (hb.mono h.bel.size)⟩
theorem Ob.new (w : World) (pv mv av : List Value) : Ob w pv mv av (((w.alloc (.cells pv.toArray 42)).alloc (.cells mv.toArray 33)).alloc (.cells av.toArray 37)) :=
  ⟨((Whole.new w _ _ pv rfl).alloc _).alloc _, (Whole.new (w.alloc (.cells pv.toArray 42)) (w.heap.size + 1) _ mv (by simp)).alloc _, Whole.new ((w.alloc (.cells pv.toArray 42)).alloc (.cells mv.toArray 33)) (w.heap.size + 1 + 1) _ av (by simp),
    (((Below.refl _ w).alloc (Nat.le_refl _) _).alloc (by simp) _).alloc (by simp; omega) _⟩
set_option maxRecDepth 100000 in
set_option maxHeartbeats 3200000 in
theorem ois_any (p : Pk) (m : Mem) (a : At) (S : Nat → Prop) (D B E : Option Addr) (q c' k d r d' : Nat) (kd : Int) (pa : At) (f : Qm.W) (no : Bool) (w : World) (hF : Row w S D q (strs p.fs)) (hq : q ≤ maxLen) (hB : RBools w S B k m.on) (hkd : k ≤ d) (hlen : m.on.length = p.fs.length) (hS : ∀ k, S k → k < w.heap.size) :
    Calls Tryz.prog 43 #[.agg #[.string ⟨p.nm.toArray⟩, .int .i64 p.ver, .int .i64 p.slot, .slice D q c', .int .i64 kd, .string ⟨pa.nm.toArray⟩, .int .i64 pa.op, .int .i64 pa.ver, .int .i64 pa.slot, .string ⟨pa.fl.toArray⟩, .bool pa.on, .string ⟨f.toArray⟩, .bool no, .slice E r d'], .agg #[.int .i64 m.pl, .slice B k d], .agg #[.string ⟨a.nm.toArray⟩, .int .i64 a.op, .int .i64 a.ver, .int .i64 a.slot, .string ⟨a.fl.toArray⟩, .bool a.on]] w fun e w' => e = .returned (.bool (isP p m a)) ∧ Below w.heap.size w w' := by
  have HC : Hid (isP p m a = (decide (p.nm = a.nm) && (fitsP a p.ver p.slot && (decide (a.fl = []) || flagIs p m a)))) := Lib.hid rfl
  have HF : Hid (flagIs p m a = match ixOf a.fl p.fs with | some i => onOf m.on i == a.on | none => false) := Lib.hid rfl
  generalize isP p m a = R at HC ⊢
  generalize flagIs p m a = fl at HC HF
  have I0 := Lib.hid (Ob.new w (pkRow p D q c' (ndRow kd pa f no E r d')) [.int .i64 m.pl, .slice B k d] [.string ⟨a.nm.toArray⟩, .int .i64 a.op, .int .i64 a.ver, .int .i64 a.slot, .string ⟨a.fl.toArray⟩, .bool a.on])
  have HFS := Lib.hid hF
  have HBO := Lib.hid hB
  have HBl := Lib.hid hB.len
  have HFl : Hid (p.fs.length = q) := Lib.hid (by have := hF.len; simpa [strs] using this)
  have HS := Lib.hid hS
  have hft := fun wx => fits_any ⟨a.nm.toArray⟩ ⟨a.fl.toArray⟩ a.op a.ver a.slot p.ver p.slot a.on wx
  rw [atOf_mk] at hft
  unfold atv at hft
  have Hft := Lib.hid hft
  have Hix := Lib.hid (fun wx (hb : Below w.heap.size w wx) => indexS_any D q c' p.fs a.fl wx S (HFS.out.below (w' := wx) hb HS.out) hq)
  clear hF hB hS hft
  obtain ⟨pl, on⟩ := m
  obtain ⟨nm, ver, slot, fs, nd⟩ := p
  unfold pkRow ndRow at I0
  dsimp only at I0 HFS Hft HC HF HFl HBO HBl hlen Hix ⊢
  generalize fitsP a ver slot = ft at Hft HC
  by_cases hn : nm = a.nm
  · subst hn
    have H1 : Hid (R = (ft && (decide (a.fl = []) || fl))) := Lib.hid (by rw [HC.out]; simp)
    clear HC
    cases ft
    · have HE : Hid (R = false) := Lib.hid (by rw [H1.out]; rfl)
      go_enter Tryz.func43, Tryz.ntmps43
      go_wp2_with (first | (go_at_call 67; refine (Hft.out _).mono ?_; rintro e w4 ⟨rfl, hb4⟩; refine Hid.out ?_))
      refine Lib.hid ?_
      have I4 := Lib.hid (I0.out.move hb4)
      clear hb4
      go_wp2
      go_ret
      exact ⟨ret_bool HE.out.symm, I4.out.bel⟩
    · by_cases hfl : a.fl = []
      · have HE : Hid (R = true) := Lib.hid (by rw [H1.out, decide_eq_true hfl]; rfl)
        have hf1 : (a.fl == []) = true := by simpa using hfl
        have hf2 : a.fl.isEmpty = true := by simpa using hfl
        have Hfl := Lib.hid hfl; clear hfl
        generalize ixOf a.fl fs = ix at Hix
        go_enter Tryz.func43, Tryz.ntmps43
        go_wp2_with (first | (go_at_call 67; refine (Hft.out _).mono ?_; rintro e w4 ⟨rfl, hb4⟩; refine Hid.out ?_))
        refine Lib.hid ?_
        have I4 := Lib.hid (I0.out.move hb4)
        clear hb4
        have a4 := I4.out.a.cell 4
        have p3 := I4.out.p.cell 3
        simp only [List.getElem?_cons_zero, List.getElem?_cons_succ] at a4 p3
        have alt := I4.out.a.lt
        go_wp2_with (first | (go_at_call 56; refine (Hix.out _ I4.out.bel).mono ?_; rintro e w5 ⟨rfl, hw5⟩; have hw6 := hw5.symm; subst hw6; refine Hid.out ?_))
        refine Lib.hid ?_
        go_wp2
        go_quiet (fail)
        go_wp2
        go_ret
        exact ⟨ret_bool HE.out.symm, below_drewN I4.out.bel _⟩
      · have hf1 : (a.fl == []) = false := by simpa using hfl
        have hf2 : a.fl.isEmpty = false := by simpa using hfl
        have H2 : Hid (R = fl) := Lib.hid (by rw [H1.out, decide_eq_false hfl]; simp)
        clear hfl H1
        cases hix : ixOf a.fl fs with
        | none =>
          have HE : Hid (R = false) := Lib.hid (by rw [H2.out, HF.out, hix])
          rw [hix] at Hix
          unfold ixI at Hix
          clear hix
          go_enter Tryz.func43, Tryz.ntmps43
          go_wp2_with (first | (go_at_call 67; refine (Hft.out _).mono ?_; rintro e w4 ⟨rfl, hb4⟩; refine Hid.out ?_))
          refine Lib.hid ?_
          have I4 := Lib.hid (I0.out.move hb4)
          clear hb4
          have a4 := I4.out.a.cell 4
          have p3 := I4.out.p.cell 3
          simp only [List.getElem?_cons_zero, List.getElem?_cons_succ] at a4 p3
          have alt := I4.out.a.lt
          go_wp2_with (first | (go_at_call 56; refine (Hix.out _ I4.out.bel).mono ?_; rintro e w5 ⟨rfl, hw5⟩; have hw6 := hw5.symm; subst hw6; refine Hid.out ?_))
          refine Lib.hid ?_
          go_wp2
          go_quiet (fail)
          go_wp2
          go_ret
          exact ⟨ret_bool HE.out.symm, below_drewN I4.out.bel _⟩
        | some i =>
          have hiq := ixOf_lt hix
          obtain ⟨b2, o2, rfl, hb2, hbc⟩ := HBO.out.at_ (k := i) (by rw [← HBl.out, hlen]; exact hiq)
          have hik : (i : Int) < k := by have := HBl.out; omega
          have hbl2 := HS.out b2 hb2
          have HE : Hid (R = (on.getD i false == a.on)) := Lib.hid (by rw [H2.out, HF.out, hix]; rfl)
          generalize on.getD i false = ob at hbc HE
          rw [hix] at Hix
          unfold ixI at Hix
          clear hix hiq hlen
          go_enter Tryz.func43, Tryz.ntmps43
          go_wp2_with (first | (go_at_call 67; refine (Hft.out _).mono ?_; rintro e w4 ⟨rfl, hb4⟩; refine Hid.out ?_))
          refine Lib.hid ?_
          have I4 := Lib.hid (I0.out.move hb4)
          clear hb4
          have a4 := I4.out.a.cell 4
          have p3 := I4.out.p.cell 3
          simp only [List.getElem?_cons_zero, List.getElem?_cons_succ] at a4 p3
          have alt := I4.out.a.lt
          go_wp2_with (first | (go_at_call 56; refine (Hix.out _ I4.out.bel).mono ?_; rintro e w5 ⟨rfl, hw5⟩; have hw6 := hw5.symm; subst hw6; refine Hid.out ?_))
          refine Lib.hid ?_
          have a5 := I4.out.a.cell 5
          have m1 := I4.out.m.cell 1
          simp only [List.getElem?_cons_zero, List.getElem?_cons_succ] at a5 m1
          have ob4 := (I4.out.bel.cell (p := ⟨b2, o2 + i, none⟩) hbl2).trans hbc
          have hi0 : (0 : Int) ≤ (i : Int) := by omega
          go_wp2
          go_quiet (fail)
          go_wp2
          go_ret
          exact ⟨ret_bool HE.out.symm, below_drewN I4.out.bel _⟩
  · have hn' : (nm == a.nm) = false := by simpa using hn
    have HE : Hid (R = false) := Lib.hid (by rw [HC.out, decide_eq_false hn]; rfl)
    go_enter Tryz.func43, Tryz.ntmps43
    go_wp2
    go_ret
    exact ⟨ret_bool HE.out.symm, I0.out.bel⟩
end Go.Proofs.YtpipgffbhpnmkaaGreatDoor
