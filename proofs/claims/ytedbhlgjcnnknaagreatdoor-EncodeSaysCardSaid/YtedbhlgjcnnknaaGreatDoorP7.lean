/- Parts of the proof: walks and plain laws, side by side. -/
import Derived.Test.YtedbhlgjcnnknaaGreatDoorP6
import Derived.Test.YtedbhlgjcnnknaaGreatDoorP2
import Derived.Test.YtedbhlgjcnnknaaGreatDoorP4
import Derived.Test.YtedbhlgjcnnknaaGreatDoorShelf
import Derived.WalkLawsBesides
import Derived.Sort.Walk0
import Derived.Lib.OthersKept
import Derived.Lib.DecodeN
import Derived.Laws.Runes
import Derived.WalkMore
import Derived.IntWalk
import Derived.Lib.TrimUEq
import Derived.LoopN
set_option linter.unusedVariables false
set_option linter.unusedSimpArgs false
set_option linter.unusedSectionVars false
set_option maxRecDepth 100000
set_option maxHeartbeats 12800000
namespace Go.Proofs.YtedbhlgjcnnknaaGreatDoor
section
open Go.RowKit Qm
theorem fits_any (s f : ByteArray) (op ver slot v sl : Int) (on : Bool) (w : World) :
  Calls Tryz.prog 81 #[atv s op ver slot f on, .int .i64 v, .int .i64 sl] w fun e w' => e = .returned (.bool (fitsP (atOf s op ver slot f on) v sl)) ∧ Below w.heap.size w w' := by
 have BN := qh (Boxed.new w s op ver slot f on (t := 75))
 unfold atv
 by_cases z : slot = 0
 ·subst z
  by_cases a1 : op = 1
  ·subst a1
   go_enter Tryz.func81, Tryz.ntmps81
   go_wp2
   go_ret
   exact ⟨ret_bool (by rw [Bool.eq_iff_iff]; simp [fitsP, atOf, *] <;> exact decide_eq_true_iff.symm), (Below.refl _ _).alloc (qr _) _⟩
  ·have b1 : (op == 1) = false := by simpa using a1
   by_cases a2 : op = 2
   ·subst a2
    go_enter Tryz.func81, Tryz.ntmps81
    go_wp2
    go_ret
    exact ⟨ret_bool (by rw [Bool.eq_iff_iff]; simp [fitsP, atOf, *] <;> exact decide_eq_true_iff.symm), (Below.refl _ _).alloc (qr _) _⟩
   ·have b2 : (op == 2) = false := by simpa using a2
    by_cases a3 : op = 3
    ·subst a3
     go_enter Tryz.func81, Tryz.ntmps81
     go_wp2
     go_ret
     exact ⟨ret_bool (by rw [Bool.eq_iff_iff]; simp [fitsP, atOf, *] <;> exact decide_eq_true_iff.symm), (Below.refl _ _).alloc (qr _) _⟩
    ·have b3 : (op == 3) = false := by simpa using a3
     go_enter Tryz.func81, Tryz.ntmps81
     go_wp2
     go_ret
     exact ⟨ret_bool (by rw [Bool.eq_iff_iff]; simp [fitsP, atOf, *] <;> exact decide_eq_true_iff.symm), (Below.refl _ _).alloc (qr _) _⟩
 ·have z1 : (slot != 0) = true := by simpa using z
  by_cases y : slot = sl
  ·have y1 : (slot != sl) = false := by simpa using y
   by_cases a1 : op = 1
   ·subst a1
    go_enter Tryz.func81, Tryz.ntmps81
    go_wp2
    go_ret
    exact ⟨ret_bool (by rw [Bool.eq_iff_iff]; simp [fitsP, atOf, *] <;> exact decide_eq_true_iff.symm), (Below.refl _ _).alloc (qr _) _⟩
   ·have b1 : (op == 1) = false := by simpa using a1
    by_cases a2 : op = 2
    ·subst a2
     go_enter Tryz.func81, Tryz.ntmps81
     go_wp2
     go_ret
     exact ⟨ret_bool (by rw [Bool.eq_iff_iff]; simp [fitsP, atOf, *] <;> exact decide_eq_true_iff.symm), (Below.refl _ _).alloc (qr _) _⟩
    ·have b2 : (op == 2) = false := by simpa using a2
     by_cases a3 : op = 3
     ·subst a3
      go_enter Tryz.func81, Tryz.ntmps81
      go_wp2
      go_ret
      exact ⟨ret_bool (by rw [Bool.eq_iff_iff]; simp [fitsP, atOf, *] <;> exact decide_eq_true_iff.symm), (Below.refl _ _).alloc (qr _) _⟩
     ·have b3 : (op == 3) = false := by simpa using a3
      go_enter Tryz.func81, Tryz.ntmps81
      go_wp2
      go_ret
      exact ⟨ret_bool (by rw [Bool.eq_iff_iff]; simp [fitsP, atOf, *] <;> exact decide_eq_true_iff.symm), (Below.refl _ _).alloc (qr _) _⟩
  ·have y1 : (slot != sl) = true := by simpa using y
   go_enter Tryz.func81, Tryz.ntmps81
   go_wp2
   go_ret
   exact ⟨ret_bool (by unfold fitsP; rw [if_pos ⟨z, y⟩]), (Below.refl _ _).alloc (qr _) _⟩
end
section
open Go.RowKit Qm
theorem RNd.far {w w' : World} {S D : Nat → Prop} {x : List Value} {y : Nd} (h : RNd w S x y) (hf : Far D w w') (hS : ∀ k, S k → k < w.heap.size ∧ ¬ D k) : RNd w' S x y := h.keep fun _ hp => hf.cell (hS _ hp).1 (hS _ hp).2
def RdSt (w : World) (R : Nat) (S : Nat → Prop) (ws : List Qm.W) : Prop :=
 ∃ A c, Whole w R 181 [.slice A ws.length c] ∧ ws.length ≤ c ∧ c ≤ maxLen ∧ Row w S A ws.length (strs ws) ∧ ¬ S R
theorem RdSt.far {w w' : World} {R : Nat} {S D : Nat → Prop} {ws : List Qm.W} (h : RdSt w R S ws) (hf : Far D w w') (hR : ¬ D R) (hS : ∀ k, S k → k < w.heap.size ∧ ¬ D k) : RdSt w' R S ws := by
 obtain ⟨A, c, h1, h2, h3, h4, h5⟩ := h
 exact ⟨A, c, hf.whole h1 hR, h2, h3, h4.keep fun _ hp => hf.cell (hS _ hp).1 (hS _ hp).2, h5⟩
def NextPost (w : World) (R : Nat) (S : Nat → Prop) (ws : List Qm.W) (e : Ending) (w' : World) : Prop :=
 e = .returned (.string ⟨(ws.headD []).toArray⟩) ∧ RdSt w' R S ws.tail ∧ Far (fun i => i = R) w w' ∧ w'.heap.size = w.heap.size
theorem next_any (R : Nat) (S : Nat → Prop) (ws : List Qm.W) (w : World) (h : RdSt w R S ws) :
  Calls Tryz.prog 147 #[.pointer (some ⟨R, 0, none⟩)] w (NextPost w R S ws) := by
 obtain ⟨A, c, hw, hc1, hc2, hr, hS⟩ := h
 have HW := qh hw; have HR := qh hr; have HS := qh hS
 have g0 := hw.cell 0
 have f0 := hw.free 0
 simp only [qgz] at g0
 unfold maxLen at hc2
 cases ws with
 | nil =>
  clear hw hr hS
  simp only [List.length_nil] at g0
  go_enter Tryz.func147, Tryz.ntmps147
  go_wp2
  go_ret
  exact ⟨rfl, ⟨A, c, HW.out, hc1, by unfold maxLen; omega, HR.out, HS.out⟩, Far.refl _ _, rfl⟩
 | cons a r =>
  obtain ⟨b, o, rfl, hb⟩ := hr.some_lit (by simp)
  have hcell := (hr.2 (by simp))
  obtain ⟨b', o', e, _, hcell⟩ := hcell
  injection e with e; injection e with e1 e2
  subst e1 e2
  have k0 := hcell 0 (by simp)
  simp only [Nat.add_zero, strs, List.map_cons, qgz] at k0
  clear hcell
  have hl : (a :: r).length = r.length + 1 := rfl
  rw [hl] at g0 hc1
  have hdrop := hr.drop (k := 1) (cap := c) (by simp) hc1
  have Hdrop := qh hdrop
  clear hw hr hS hdrop hl
  by_cases c1 : c = 1
  ·subst c1
   go_enter Tryz.func147, Tryz.ntmps147
   go_wp2
   go_ret
   obtain rfl : r = [] := List.eq_nil_of_length_eq_zero (by omega)
   refine ⟨rfl, ⟨some ⟨b, o, none⟩, 0, HW.out.set_ 0 _, qr _, by unfold maxLen; omega, ?_, HS.out⟩, Far.set_ (D := fun i => i = R) rfl 0 _, by simp [World.setCell]⟩
   have hd := Hdrop.out
   simp only [if_true] at hd
   exact hd.keep fun p hp => World.cell?_setCell_other _ _ _ _ (fun e => HS.out (by rw [← e] at hp; exact hp))
  ·have h2 : 2 ≤ c := by omega
   go_enter Tryz.func147, Tryz.ntmps147
   go_wp2
   go_ret
   refine ⟨rfl, ⟨some ⟨b, o + 1, none⟩, c - 1, HW.out.set_ 0 _, by simp only [List.tail_cons]; omega, by unfold maxLen; omega, ?_, HS.out⟩, Far.set_ (D := fun i => i = R) rfl 0 _, by simp [World.setCell]⟩
   have hd := Hdrop.out
   rw [if_neg (by omega)] at hd
   exact hd.keep fun p hp => World.cell?_setCell_other _ _ _ _ (fun e => HS.out (by rw [← e] at hp; exact hp))
end
section
open Go.RowKit Qm
def bas (ws : List Qm.W) : List ByteArray := ws.map fun l => ⟨l.toArray⟩
theorem strs_cell {w : World} {S : Nat → Prop} {b o : Nat} {ws : List Qm.W} (h : Row w S (some ⟨b, o, none⟩) ws.length (strs ws)) : ∀ j, j < (bas ws).length → w.cell? ⟨b, o + j, none⟩ = some (.string ((bas ws).getD j ByteArray.empty)) := by
 intro j hj
 have hj' : j < ws.length := by simpa [bas] using hj
 obtain ⟨b', o', e, _, hc⟩ := h.at_ hj'
 injection e with e; injection e with e1 e2
 subst e1 e2
 rw [hc]
 simp only [strs, bas, qgm, qgd, qge hj', Option.map_some, Option.getD_some]
end
section
open Go.RowKit Qm
def ixI : Option Nat → Int
 | some k => (k : Int)
 | none => -1
theorem idxFrom_ix (x : Qm.W) : ∀ (fs : List Qm.W) (i : Nat), Lib.idxFromS (bas fs) ⟨x.toArray⟩ i = ixI ((ixOf x fs).map (· + i))
 | [], i => rfl
 | f :: r, i => by
  have ih := idxFrom_ix x r (i + 1)
  have hb : bas (f :: r) = ⟨f.toArray⟩ :: bas r := rfl
  rw [hb]
  have he : ((⟨f.toArray⟩ : ByteArray) = ⟨x.toArray⟩) ↔ f = x := by
   constructor
   ·intro h; have := congrArg (·.data.toList) h; simpa using this
   ·rintro rfl; rfl
  unfold Lib.idxFromS
  simp only [ixOf]
  by_cases hf : f = x
  ·rw [if_pos hf, if_pos (he.2 hf)]
   simp [ixI]
  ·rw [if_neg hf, if_neg (fun h => hf (he.1 h)), ih]
   cases ixOf x r with
   | none => rfl
   | some k => simp [ixI]; omega
theorem indexS_any (A : Option Addr) (n c : Nat) (fs : List Qm.W) (x : Qm.W) (w : World) (S : Nat → Prop) (h : Row w S A n (strs fs)) (hn : n ≤ maxLen) :
  Calls Tryz.prog 80 #[.slice A n c, .string ⟨x.toArray⟩] w fun e w' => e = .returned (.int .i64 (ixI (ixOf x fs))) ∧ w' = w := by
 have hl : fs.length = n := by have := h.len; simpa [strs] using this
 unfold maxLen at hn
 have hx : Lib.idxOfS (bas fs) ⟨x.toArray⟩ = ixI (ixOf x fs) := by
  unfold Lib.idxOfS; rw [idxFrom_ix]; cases ixOf x fs <;> rfl
 by_cases h0 : n = 0
 ·subst h0
  obtain rfl := List.eq_nil_of_length_eq_zero hl
  exact (Tryz.slices_Index_string_empty A c ⟨x.toArray⟩ w).mono fun e w' ⟨he, hw⟩ => ⟨he.trans (by rw [show Lib.idxOfS [] ⟨x.toArray⟩ = ixI (ixOf x []) from hx]), hw⟩
 ·obtain ⟨b, o, rfl, _⟩ := h.some_lit (by omega)
  refine (Tryz.slices_Index_string b o n c (bas fs) ⟨x.toArray⟩ w (by simp [bas, hl]) (by omega) (strs_cell (by rw [hl]; exact h))).mono fun e w' ⟨he, hw⟩ => ⟨?_, hw⟩
  rw [he, List.take_of_length_le (by simp [bas, hl]), hx]
end
section
open Go.RowKit Qm
theorem before_any (p p' : Pk) (A A' : Option Addr) (n c n' c' : Nat) (k k' : Int) (a a' : At) (f f' : Qm.W) (no no' : Bool) (D D' : Option Addr) (q d q' d' : Nat) (w : World) :
  Calls Tryz.prog 111 #[.agg (pkRow p A n c (ndRow k a f no D q d)).toArray, .agg (pkRow p' A' n' c' (ndRow k' a' f' no' D' q' d')).toArray] w fun e w' =>
   e = .returned (.bool (beforeP p p')) ∧ Below w.heap.size w w' := by
 unfold pkRow ndRow
 have HR : Hid (beforeP p p' = (decide (p.nm < p'.nm) || (decide (p.nm = p'.nm) && decide (p.ver < p'.ver)))) := qh rfl
 generalize beforeP p p' = R at HR ⊢
 obtain ⟨nm, ver, slot, fs, nd⟩ := p
 obtain ⟨nm', ver', slot', fs', nd'⟩ := p'
 have hb := bytesLess_eq nm nm'
 dsimp only at HR hb ⊢
 by_cases h1 : nm < nm'
 ·rw [qdt h1] at hb
  have H1 := qh h1; clear h1
  go_enter Tryz.func111, Tryz.ntmps111
  go_wp2
  go_ret
  exact ⟨ret_bool (by rw [HR.out, qdt H1.out]; rfl), ((Below.refl _ w).alloc (qr _) _).alloc (by simp) _⟩
 ·rw [qdf h1] at hb
  have H1 := qh h1; clear h1
  by_cases h2 : nm = nm'
  ·subst h2
   by_cases h3 : ver < ver'
   ·go_enter Tryz.func111, Tryz.ntmps111
    go_wp2
    go_ret
    exact ⟨ret_bool (by rw [HR.out, qdf H1.out, qdt h3]; simp), ((Below.refl _ w).alloc (qr _) _).alloc (by simp) _⟩
   ·go_enter Tryz.func111, Tryz.ntmps111
    go_wp2
    go_ret
    exact ⟨ret_bool (by rw [HR.out, qdf H1.out, qdf (Int.not_lt.2 h3)]; simp), ((Below.refl _ w).alloc (qr _) _).alloc (by simp) _⟩
  ·have H2 := qh h2
   have h2' : (nm == nm') = false := by simpa using h2
   clear h2
   go_enter Tryz.func111, Tryz.ntmps111
   go_wp2
   go_ret
   exact ⟨ret_bool (by rw [HR.out, qdf H1.out, qdf H2.out]; rfl), ((Below.refl _ w).alloc (qr _) _).alloc (by simp) _⟩
end
section
open Go.RowKit Qm
theorem containsS_any (A : Option Addr) (n c : Nat) (fs : List Qm.W) (x : Qm.W) (w : World) (S : Nat → Prop) (h : Row w S A n (strs fs)) (hn : n ≤ maxLen) :
  Calls Tryz.prog 92 #[.slice A n c, .string ⟨x.toArray⟩] w fun e w' => e = .returned (.bool (fs.contains x)) ∧ w' = w := by
 have hl : fs.length = n := by have := h.len; simpa [strs] using this
 unfold maxLen at hn
 by_cases h0 : n = 0
 ·subst h0
  obtain rfl := List.eq_nil_of_length_eq_zero hl
  exact (Tryz.slices_Contains_string_empty A c ⟨x.toArray⟩ w).mono fun e w' ⟨he, hw⟩ => ⟨by simpa using he, hw⟩
 ·obtain ⟨b, o, rfl, _⟩ := h.some_lit (by omega)
  refine (Tryz.slices_Contains_string b o n c (bas fs) ⟨x.toArray⟩ w (by simp [bas, hl]) (by omega) (strs_cell (by rw [hl]; exact h))).mono fun e w' ⟨he, hw⟩ => ⟨?_, hw⟩
  rw [he, List.take_of_length_le (by simp [bas, hl])]
  congr 2
  rw [Bool.eq_iff_iff, Lib.containsS_iff, List.contains_iff_mem]
  unfold bas
  rw [List.mem_map]
  constructor
  ·rintro ⟨y, hy, e⟩
   have := congrArg (·.data.toList) e
   simp only at this
   rwa [← show y = x from this]
  ·intro hx; exact ⟨x, hx, rfl⟩
end
section
open Go.RowKit Qm
theorem indexRune_bad (s : ByteArray) (r : Int) (w : World) (h128 : 128 ≤ r) (hne : r ≠ 65533) (hv : Lib.validRune r = false) :
  Calls Tryz.prog 184 #[.string s, .int .i32 r] w fun e w' => e = .returned (.int .i64 (-1)) ∧ Below w.heap.size w w' := by
 have h1 : decide (r < 128) = false := by simp; omega
 have h2 : (r == 65533) = false := by simpa using hne
 have h3 : 0 ≤ r := by omega
 have hval := Tryz.utf8_ValidRune r w
 rw [hv] at hval
 go_enter Tryz.func184, Tryz.ntmps184
 go_wp2_with (first | (go_at_call 208; refine hval.mono ?_; rintro e w1 ⟨rfl, rfl⟩))
 go_ret
 exact ⟨rfl, Below.refl _ _⟩
theorem indexRune_err (s : ByteArray) (w : World) (hsa : ∀ i (h : i < s.size), (s[i]'h).toNat < 128) :
  Calls Tryz.prog 184 #[.string s, .int .i32 65533] w fun e w' => e = .returned (.int .i64 (-1)) ∧ Below w.heap.size w w' := by
 have HS := qh hsa; clear hsa
 have HK := qh (World.iter_heap w s 0)
 have HB : Hid (Below w.heap.size w (w.iter s 0)) := qh ((Below.refl _ w).alloc (qr _) _)
 go_enter Tryz.func184, Tryz.ntmps184
 go_wp2
 go_loopw [5, 6] (fun _ _ wr => ∃ pos : Nat, pos ≤ s.size ∧ wr.heap[w.heap.size]? = some (.stringIter s pos) ∧ Below w.heap.size w wr) (fun _ _ wr => s.size - wr.iterPos w.heap.size)
 case atStart => exact ⟨0, Nat.zero_le _, HK.out, HB.out⟩
 case round =>
  obtain ⟨pos, hps, hk, hnx⟩ := hrel
  by_cases hp : pos < s.size
  ·have h128 := HS.out pos hp
   have hnext : ∀ ty, (Instr.next (.pointer (some ⟨w.heap.size, 0, none⟩)) true ty).run Tryz.prog wr = _ := fun ty => Lib.run_next_ascii_at wr w.heap.size s pos ty hk hp h128
   have hk1 := Lib.iterAt_heap wr w.heap.size s pos (pos + 1) hk
   have hnx1 : Below w.heap.size w (wr.iterAt w.heap.size s (pos + 1)) := Lib.below_iterAt hnx (qr _) s (pos + 1)
   have hmu : wr.iterPos w.heap.size = pos := by simp [World.iterPos, hk]
   have HM := qh hmu; clear hmu hk
   have HK1 := qh hk1; clear hk1
   have HN := qh hnx1; clear hnx hnx1
   generalize wr.iterAt w.heap.size s (pos + 1) = W1 at hnext HK1 HN
   have hc : (((s[pos]'hp).toNat : Int) == 65533) = false := by simp; omega
   generalize (s[pos]'hp).toNat = c at hnext hc h128
   go_wp2
   go_roundw
   case rel => exact ⟨pos + 1, by omega, HK1.out, HN.out⟩
   case measure =>
    have hmu2 : W1.iterPos w.heap.size = pos + 1 := by simp [World.iterPos, HK1.out]
    rw [HM.out, hmu2]
    omega
  ·have hnext : ∀ ty, (Instr.next (.pointer (some ⟨w.heap.size, 0, none⟩)) true ty).run Tryz.prog wr = _ := fun ty => Lib.run_next_end_at wr w.heap.size s pos ty hk hp
   have HN := qh hnx; clear hnx hk
   go_wp2
   go_ret
   exact ⟨rfl, HN.out⟩
theorem indexByte_far (t : ByteArray) (c : UInt8) (hc : 128 ≤ c.toNat) (ht : ∀ b ∈ t.data.toList, b.toNat < 128) (w : World) :
  Calls Tryz.prog 180 #[.string t, .int .u8 (c.toNat : Int)] w fun e w' => e = .returned (.int .i64 (-1)) ∧ w' = w := by
 have h := Tryz.strings_IndexByte t (c.toNat : Int) w
 have e : Lib.indexByte t.data.toList ((c.toNat : Int).toNat.toUInt8) = -1 := by
  have hc' : ((c.toNat : Int).toNat.toUInt8) = c := by simp
  rw [hc']
  generalize t.data.toList = l at ht
  induction l with
  | nil => rfl
  | cons x r ih =>
   have hx := ht x (List.mem_cons_self ..)
   have hne : (x == c) = false := by
    rw [beq_eq_false_iff_ne]
    rintro rfl
    omega
   simp [Lib.indexByte, hne, ih fun b hb => ht b (List.mem_cons_of_mem _ hb)]
 rw [e] at h
 exact h
theorem indexRune_far (s : ByteArray) (r : Int) (w : World) (h128 : 128 ≤ r) (hne : r ≠ 65533) (hv : Lib.validRune r = true) (hs : s.size ≤ 3) (hsa : ∀ i (h : i < s.size), (s[i]'h).toNat < 128) :
  Calls Tryz.prog 184 #[.string s, .int .i32 r] w fun e w' => e = .returned (.int .i64 (-1)) ∧ Below w.heap.size w w' := by
 have h1 : decide (r < 128) = false := by simp; omega
 have h2 : (r == 65533) = false := by simpa using hne
 have h3 : 0 ≤ r := by omega
 have hval := Tryz.utf8_ValidRune r w
 rw [hv] at hval
 obtain ⟨hE2, hE4, hEl⟩ := encode_facts r (by rw [validRune_eq]; exact hv) h128
 have hcv := run_convert_int_string (P := Tryz.prog) w 21 9 .i32 r (by kernel_rfl) Tryz.underlying9
 generalize Utf8.encode r = E at hE2 hE4 hEl hcv
 have HS := qh hsa; clear hsa
 have HEl := qh hEl; clear hEl
 clear hne hv h128
 go_enter Tryz.func184, Tryz.ntmps184
 go_wp2_with (first | (go_at_call 208; refine hval.mono ?_; rintro e w ⟨rfl, rfl⟩))
 have hl0 : (E.size : Int) - 1 = ((E.size - 1 : Nat) : Int) := by omega
 go_step3
 go_wp2
 go_loopw [9, 10] (fun i j wr => ∃ k q : Nat, i = .int .i64 k ∧ j = .int .i64 q ∧ k + 1 = q + E.size ∧ k ≤ 4 ∧ Below w.heap.size w wr) (fun i _ _ => s.size - (intOf i).toNat)
 case atStart => exact ⟨E.size - 1, 0, by rw [← hl0], rfl, by omega, by omega, Below.refl _ _⟩
 case round =>
  obtain ⟨k, q, rfl, rfl, hkq, hk4, hb⟩ := hrel
  have HB := qh hb; clear hb
  by_cases hlt : k < s.size
  ·have ha := HS.out k hlt
   have hz := HEl.out (by omega)
   have hlast : E.size - 1 < E.size := by omega
   have hcmp : (((s[k]'hlt).toNat : Int) == ((E[E.size - 1]'hlast).toNat : Int)) = false := by simp; omega
   have hcmp2 : (((s[k]'hlt).toNat : Int) != ((E[E.size - 1]'hlast).toNat : Int)) = true := by simp; omega
   go_wp2
   go_step3
   go_wp2
   go_quiet (fail)
   rename_i nq
   have HB2 : Hid (Below w.heap.size w (wr.drewN nq)) := qh (below_drewN HB.out nq)
   generalize wr.drewN nq = wz at HB2 ⊢
   go_wp2_with fail
   have hib := fun (t : ByteArray) (ht : ∀ b ∈ t.data.toList, b.toNat < 128) (wx : World) => indexByte_far t (E[E.size - 1]'hlast) hz ht wx
   have hsub : ∀ b ∈ (s.extract (k + 1) s.size).data.toList, b.toNat < 128 := fun b hb => by
    have hm := mem_extract hb
    obtain ⟨i, hi, rfl⟩ := List.getElem_of_mem hm
    rw [Array.length_toList] at hi
    exact HS.out i hi
   have hcall := hib _ hsub
   have Hcall := qh hcall
   clear hib hsub hcall
   have hw1 : IntKind.i64.wrap ((k : Int) + 1) = (k : Int) + 1 := IntWalk.i64_in _ (by omega)
   have hw2 : (0 : Int) ≤ (k : Int) + 1 := by omega
   have hw3 : ((k : Int) + 1).toNat = k + 1 := by omega
   have hw4 : k + 1 ≤ s.size := by omega
   have HKQ := qh hkq; clear hkq
   go_quiet ((go_at_call 180; exact Calls.quiet_of_same (Hcall.out _)))
   go_wp2
   simp only [Exit.noGoto_ret, Exit.inBlock]
   go_wp2
   simp only [Exit.noGoto_ret, Exit.inBlock]
   go_ret
   exact ⟨rfl, below_drewN HB2.out _⟩
  ·go_wp2
   simp only [Exit.noGoto_ret, Exit.inBlock]
   go_ret
   exact ⟨rfl, HB.out⟩
end
section
open Go.RowKit Qm
theorem decodeN_high (n b0 b1 b2 b3 : Nat) (hn : 1 ≤ n) (h0 : 128 ≤ b0) :
  128 ≤ (Lib.decodeN n b0 b1 b2 b3).1 ∧ 1 ≤ (Lib.decodeN n b0 b1 b2 b3).2 ∧ (Lib.decodeN n b0 b1 b2 b3).2 ≤ n ∧ (2 ≤ (Lib.decodeN n b0 b1 b2 b3).2 → 128 ≤ b1) ∧
   (3 ≤ (Lib.decodeN n b0 b1 b2 b3).2 → 128 ≤ b2) ∧ (4 ≤ (Lib.decodeN n b0 b1 b2 b3).2 → 128 ≤ b3) ∧ (Lib.decodeN n b0 b1 b2 b3).2 ≤ 4 := by
 unfold Lib.decodeN
 rw [if_neg (by omega)]
 repeat' split
 all_goals (refine ⟨?_, ?_, ?_, ?_, ?_, ?_, ?_⟩ <;> simp only [] <;> omega)
theorem decode_high (s : ByteArray) (pos : Nat) (hp : pos < s.size) (hb : 128 ≤ (s.data.toList.getD pos 0).toNat) :
  128 ≤ (Utf8.decode s pos).1 ∧ 1 ≤ (Utf8.decode s pos).2 ∧ pos + (Utf8.decode s pos).2 ≤ s.size ∧ ∀ j, pos ≤ j → j < pos + (Utf8.decode s pos).2 → 128 ≤ (s.data.toList.getD j 0).toNat := by
 have hl : s.size = s.data.toList.length := Lib.size_eq s
 have h := decodeN_high (s.data.toList.length - pos) (s.data.toList.getD pos 0).toNat (s.data.toList.getD (pos + 1) 0).toNat (s.data.toList.getD (pos + 2) 0).toNat (s.data.toList.getD (pos + 3) 0).toNat (by omega) hb
 rw [← Lib.decode_N] at h
 obtain ⟨h1, h2, h3, h4, h5, h6, h7⟩ := h
 refine ⟨h1, h2, by omega, fun j hj hj2 => ?_⟩
 have hc : j = pos ∨ j = pos + 1 ∨ j = pos + 2 ∨ j = pos + 3 := by omega
 rcases hc with rfl | rfl | rfl | rfl
 ·exact hb
 ·exact h4 (by omega)
 ·exact h5 (by omega)
 ·exact h6 (by omega)
theorem noAny_skip {l chars : List UInt8} {pos k : Nat} (h : Lib.NoAny l chars pos) (hc : ∀ b ∈ chars, b.toNat < 128) (hk : ∀ j, pos ≤ j → j < pos + k → 128 ≤ (l.getD j 0).toNat) : Lib.NoAny l chars (pos + k) := by
 intro j b hj hb
 rcases Nat.lt_or_ge j pos with hlt | hge
 ·exact h j b hlt hb
 ·have h1 := hk j hge hj
  have h2 : l.getD j 0 = b := by simp [List.getD, hb]
  rw [h2] at h1
  cases e : chars.contains b
  ·rfl
  ·have := hc b (by simpa using e)
   omega
theorem indexByte_contains (chars : List UInt8) (b : UInt8) : decide (0 ≤ Lib.indexByte chars b) = chars.contains b := by
 induction chars with
 | nil => rfl
 | cons x r ih =>
  unfold Lib.indexByte
  by_cases hx : (x == b) = true
  ·have : x = b := by simpa using hx
   subst this
   simp
  ·have hx' : (x == b) = false := by simpa using hx
   have hx2 : (b == x) = false := by rw [beq_eq_false_iff_ne]; rintro rfl; simp at hx
   rw [List.contains_cons, hx2, Bool.false_or, ← ih, hx']
   have := Lib.indexByte_ge r b
   by_cases h1 : Lib.indexByte r b = -1
   ·simp [h1]
   ·have h2 : (Lib.indexByte r b == -1) = false := by simpa using h1
    simp only [h2, Bool.false_eq_true, if_false]
    rw [Bool.eq_iff_iff]; simp; omega
theorem indexRune_high (s : ByteArray) (r : Int) (w : World) (h128 : 128 ≤ r) (hs : s.size ≤ 3) (hsa : ∀ i (h : i < s.size), (s[i]'h).toNat < 128) :
  Calls Tryz.prog 184 #[.string s, .int .i32 r] w fun e w' => e = .returned (.int .i64 (-1)) ∧ Below w.heap.size w w' := by
 by_cases h1 : r = 65533
 ·subst h1; exact indexRune_err s w hsa
 ·cases hv : Lib.validRune r
  ·exact indexRune_bad s r w h128 h1 hv
  ·exact indexRune_far s r w h128 h1 hv hs hsa
theorem indexAny_any (s chars : ByteArray) (w : World) (hs : s.size < 4294967281) (hc2 : 2 ≤ chars.size) (hc3 : chars.size ≤ 3) (hca : ∀ b ∈ chars.data.toList, b.toNat < 128) :
  Calls Tryz.prog 179 #[.string s, .string chars] w fun e w' => e = .returned (.int .i64 (Lib.indexAny s.data.toList chars.data.toList)) ∧ Below w.heap.size w w' := by
 have hcj : ∀ (j : Nat) b, chars.data.toList[j]? = some b → b.toNat < 128 := fun j b h => hca b (List.mem_of_getElem? h)
 by_cases h8 : 8 < s.size
 ·refine (Tryz.strings_IndexAny_long (zero_of_info (P := Tryz.prog) (t := 190) (v := .agg (Array.replicate 256 (.bool false))) (n := 256) (by kernel_rfl)).1 s chars w hc2 h8 hs (by omega) hcj).mono ?_
  rintro e w' ⟨rfl, rfl⟩
  exact ⟨rfl, ((Below.refl _ w).alloc (qr _) _).alloc (by simp) _⟩
 ·have hci : ∀ i (h : i < chars.size), (chars[i]'h).toNat < 128 := fun i h => hca _ (Array.getElem_mem_toList (xs := chars.data) h)
  have hhigh := fun (r : Int) (hr : 128 ≤ r) wx => indexRune_high chars r wx hr hc3 hci
  have hlow := fun (r : Int) (h0 : 0 ≤ r) (h1 : r < 128) wx => Tryz.strings_IndexRune_ascii chars r wx h0 h1
  have HH := qh hhigh
  have HLo := qh hlow
  have HCA := qh hca
  have hce : chars.toList.isEmpty = false := by
   rw [Lib.toList_data]
   have : chars.size = chars.data.toList.length := Lib.size_eq chars
   cases e : chars.data.toList
   ·rw [e, List.length_nil] at this; omega
   ·rfl
  have hc1 : ((chars.size : Int) == 1) = false := beq_eq_false_iff_ne.2 (by omega)
  have huse := Tryz.strings_shouldUseASCIISet (s.size : Int) w
  have hu : decide ((8 : Int) < (s.size : Int)) = false := qdf (by omega)
  rw [hu] at huse
  have HK := qh (World.iter_heap w s 0)
  have HB : Hid (Below w.heap.size w (w.iter s 0)) := qh ((Below.refl _ w).alloc (qr _) _)
  have HSL := qh (Lib.size_eq s)
  clear hhigh hlow hca hcj hci
  go_enter Tryz.func179, Tryz.ntmps179
  go_wp2_with (first | (go_at_call 207; refine huse.mono ?_; rintro e w1 ⟨rfl, hw1⟩; subst w1))
  go_loopw [9, 10] (fun _ _ wr => ∃ pos : Nat, pos ≤ s.size ∧ wr.heap[w.heap.size]? = some (.stringIter s pos) ∧ Lib.NoAny s.data.toList chars.data.toList pos ∧ Below w.heap.size w wr) (fun _ _ wr => s.size - wr.iterPos w.heap.size)
  case atStart => exact ⟨0, Nat.zero_le _, HK.out, Lib.NoAny.zero _ _, HB.out⟩
  case round =>
   obtain ⟨pos, hps, hk, hno, hnx⟩ := hrel
   have HNo := qh hno; clear hno
   have hmu : wr.iterPos w.heap.size = pos := by simp [World.iterPos, hk]
   have HM := qh hmu; clear hmu
   by_cases hp : pos < s.size
   ·have hget : s.data.toList[pos]? = some (s[pos]'hp) := by
     rw [qge (by have := HSL.out; omega)]; rfl
    have HG := qh hget; clear hget
    by_cases hb : (s[pos]'hp).toNat < 128
    ·have hnext : ∀ ty, (Instr.next (.pointer (some ⟨w.heap.size, 0, none⟩)) true ty).run Tryz.prog wr = _ := fun ty => Lib.run_next_ascii_at wr w.heap.size s pos ty hk hp hb
     have HK1 := qh (Lib.iterAt_heap wr w.heap.size s pos (pos + 1) hk)
     have HN := qh (show Below w.heap.size w (wr.iterAt w.heap.size s (pos + 1)) from Lib.below_iterAt hnx (qr _) s (pos + 1))
     clear hk hnx
     generalize wr.iterAt w.heap.size s (pos + 1) = W1 at hnext HK1 HN
     generalize s[pos]'hp = c at hnext HG hb
     have hcall := HLo.out (c.toNat : Int) (by omega) (by omega) W1
     have hcc : (c.toNat : Int).toNat.toUInt8 = c := by simp
     rw [hcc] at hcall
     have hcon := indexByte_contains chars.data.toList c
     generalize Lib.indexByte chars.data.toList c = z at hcall hcon
     clear hcc
     by_cases hz : 0 ≤ z
     ·rw [qdt hz] at hcon
      have HC := qh hcon; clear hcon
      go_wp2_with (first | (go_at_call 184; refine hcall.mono ?_; rintro e W1 ⟨rfl, rfl⟩))
      go_ret
      exact ⟨ret_int (Lib.indexAny_hit HNo.out HG.out HC.out.symm).symm, HN.out⟩
     ·rw [qdf hz] at hcon
      have hz1 : decide (0 ≤ z) = false := qdf hz
      have HC := qh hcon; clear hcon
      go_wp2_with (first | (go_at_call 184; refine hcall.mono ?_; rintro e W1 ⟨rfl, rfl⟩))
      go_roundw
      case rel => exact ⟨pos + 1, by omega, HK1.out, HNo.out.succ HG.out HC.out.symm, HN.out⟩
      case measure =>
       have hmu2 : W1.iterPos w.heap.size = pos + 1 := by simp [World.iterPos, HK1.out]
       rw [HM.out, hmu2]
       omega
    ·have hgd : (s.data.toList.getD pos 0) = s[pos]'hp := by simp [List.getD, HG.out]
     obtain ⟨r1, r2, r3, r4⟩ := decode_high s pos hp (by rw [hgd]; omega)
     have hnext : ∀ ty, (Instr.next (.pointer (some ⟨w.heap.size, 0, none⟩)) true ty).run Tryz.prog wr = _ := fun ty => Lib.run_next_any_at wr w.heap.size s pos ty hk hp
     have HK1 := qh (Lib.iterAt_heap wr w.heap.size s pos (pos + (Utf8.decode s pos).2) hk)
     have HN := qh (show Below w.heap.size w (wr.iterAt w.heap.size s (pos + (Utf8.decode s pos).2)) from Lib.below_iterAt hnx (qr _) s _)
     have HSk := qh (noAny_skip HNo.out HCA.out r4)
     clear hk hnx r4 hgd
     generalize wr.iterAt w.heap.size s (pos + (Utf8.decode s pos).2) = W1 at hnext HK1 HN
     generalize (Utf8.decode s pos).1 = r at hnext r1
     generalize (Utf8.decode s pos).2 = k at HK1 r2 r3 HSk
     have hcall := HH.out (r : Int) (by omega) W1
     go_wp2_with (first | (go_at_call 184; refine hcall.mono ?_; rintro e W2 ⟨rfl, hb2⟩))
     go_roundw
     case rel => exact ⟨pos + k, r3, by rw [hb2.block _ (by have := HK1.out; exact (Array.getElem?_eq_some_iff.1 this).1)]; exact HK1.out, HSk.out, HN.out.trans (hb2.mono HN.out.size)⟩
     case measure =>
      have hmu2 : W2.iterPos w.heap.size = pos + k := by
       have : W2.heap[w.heap.size]? = some (.stringIter s (pos + k)) := by rw [hb2.block _ (Array.getElem?_eq_some_iff.1 HK1.out).1]; exact HK1.out
       simp [World.iterPos, this]
      rw [HM.out, hmu2]
      omega
   ·have hnext : ∀ ty, (Instr.next (.pointer (some ⟨w.heap.size, 0, none⟩)) true ty).run Tryz.prog wr = _ := fun ty => Lib.run_next_end_at wr w.heap.size s pos ty hk hp
    have HN := qh hnx; clear hnx hk
    go_wp2
    go_ret
    refine ⟨ret_int (Lib.indexAny_none ?_).symm, HN.out⟩
    have h1 := HNo.out
    have h2 : pos = s.data.toList.length := by have := HSL.out; omega
    rw [h2] at h1
    exact h1
end
section
open Go.RowKit Qm
def AtEnd (r : At × Int) : Ending := .returned (.tuple #[.agg #[.string ⟨r.1.nm.toArray⟩, .int .i64 r.1.op, .int .i64 r.1.ver, .int .i64 r.1.slot, .string ⟨r.1.fl.toArray⟩, .bool r.1.on], .int .i64 r.2])
theorem fail_any (w : World) :
  Calls Tryz.prog 178 #[] w fun e w' => e = .returned (.tuple #[.agg #[.string ⟨#[]⟩, .int .i64 0, .int .i64 0, .int .i64 0, .string ⟨#[]⟩, .bool false], .int .i64 1]) ∧ Below w.heap.size w w' := by
 go_enter Tryz.func178, Tryz.ntmps178
 go_wp2
 refine bodyPost_ret (v := .tuple #[.agg #[_, _, _, _, _, _], .int .i64 _]) (by simp [results, Tryz.results178, go_sem]) rfl ⟨rfl, ?_⟩
 exact (Below.refl _ _).alloc (qr _) _
structure PS (w : World) (op ver slot : Int) (f : ByteArray) (on : Bool) (wx : World) : Prop where
 z : Whole wx w.heap.size 75 [.string ⟨#[]⟩, .int .i64 0, .int .i64 0, .int .i64 0, .string ⟨#[]⟩, .bool false]
 a : Whole wx (w.heap.size + 1) 75 [.string ⟨#[]⟩, .int .i64 op, .int .i64 ver, .int .i64 slot, .string f, .bool on]
 b : Below w.heap.size w wx
section
variable {w wx wy : World} {op ver slot : Int} {f : ByteArray} {on : Bool}
theorem PS.below (h : PS w op ver slot f on wx) (hb : Below wx.heap.size wx wy) : PS w op ver slot f on wy :=
 ⟨h.z.below hb h.z.lt, h.a.below hb h.a.lt, h.b.trans (hb.mono h.b.size)⟩
theorem PS.new (w : World) : PS w 0 0 0 ⟨#[]⟩ false ((w.alloc (.cells #[.string ⟨#[]⟩, .int .i64 0, .int .i64 0, .int .i64 0, .string ⟨#[]⟩, .bool false] 75)).alloc (.cells #[.string ⟨#[]⟩, .int .i64 0, .int .i64 0, .int .i64 0, .string ⟨#[]⟩, .bool false] 75)) :=
 ⟨(Whole.new w _ _ [.string ⟨#[]⟩, .int .i64 0, .int .i64 0, .int .i64 0, .string ⟨#[]⟩, .bool false] rfl).alloc _, Whole.new _ _ _ [.string ⟨#[]⟩, .int .i64 0, .int .i64 0, .int .i64 0, .string ⟨#[]⟩, .bool false] (by simp),
  ((Below.refl _ w).alloc (qr _) _).alloc (by simp) _⟩
theorem PS.drew (h : PS w op ver slot f on wx) : PS w op ver slot f on wx.drew := ⟨h.z.drew, h.a.drew, h.b.drew⟩
theorem PS.flag (h : PS w op ver slot f on wx) (g : ByteArray) : PS w op ver slot g on (wx.setCell ⟨w.heap.size + 1, 4, none⟩ (.string g)) :=
 ⟨h.z.far (by show w.heap.size ≠ w.heap.size + 1; omega) _, h.a.set_ 4 _, h.b.setCell (by show w.heap.size ≤ w.heap.size + 1; omega) _⟩
theorem PS.on_ (h : PS w op ver slot f on wx) (g : Bool) : PS w op ver slot f g (wx.setCell ⟨w.heap.size + 1, 5, none⟩ (.bool g)) :=
 ⟨h.z.far (by show w.heap.size ≠ w.heap.size + 1; omega) _, h.a.set_ 5 _, h.b.setCell (by show w.heap.size ≤ w.heap.size + 1; omega) _⟩
theorem PS.slot_ (h : PS w op ver slot f on wx) (g : Int) : PS w op ver g f on (wx.setCell ⟨w.heap.size + 1, 3, none⟩ (.int .i64 g)) :=
 ⟨h.z.far (by show w.heap.size ≠ w.heap.size + 1; omega) _, h.a.set_ 3 _, h.b.setCell (by show w.heap.size ≤ w.heap.size + 1; omega) _⟩
theorem PS.op_ (h : PS w op ver slot f on wx) (g v : Int) : PS w g v slot f on ((wx.setCell ⟨w.heap.size + 1, 1, none⟩ (.int .i64 g)).setCell ⟨w.heap.size + 1, 2, none⟩ (.int .i64 v)) :=
 ⟨(h.z.far (by show w.heap.size ≠ w.heap.size + 1; omega) _).far (by show w.heap.size ≠ w.heap.size + 1; omega) _, (h.a.set_ 1 _).set_ 2 _, (h.b.setCell (by show w.heap.size ≤ w.heap.size + 1; omega) _).setCell (by show w.heap.size ≤ w.heap.size + 1; omega) _⟩
end
theorem ops_at0 (wx : World) : (Instr.index 227 (.agg #[.string ⟨#[]⟩, .string ⟨#[61]⟩, .string ⟨#[62, 61]⟩, .string ⟨#[60]⟩]) (.int .i64 0)).run Tryz.prog wx = .ok (.string ⟨#[]⟩) wx := by
 simp [Instr.index, run_underlying Tryz.underlying227, go_sem]
def cutLen : Option (List UInt8 × UInt8 × List UInt8) → Int
 | none => -1
 | some (a, _, _) => (a.length : Int)
theorem cut_any (cs : List UInt8) (p : UInt8 → Bool) (h : ∀ c, cs.contains c = p c) (l : List UInt8) : Lib.indexAny l cs = cutLen (cutAt p l) := by
 rw [cutAt_indexAny]
 have : (fun c => List.contains cs c) = p := funext h
 rw [this]
 rcases cutAt p l with _ | ⟨a, b, d⟩ <;> rfl
theorem beq_d (a b : UInt8) : (a == b) = decide (a = b) := by rw [Bool.eq_iff_iff]; simp
theorem cut_sign (l : List UInt8) : Lib.indexAny l [43, 45] = cutLen (cutAt signB l) := cut_any _ _ (fun c => by simp [signB, beq_d]) l
theorem cut_op (l : List UInt8) : Lib.indexAny l [61, 60, 62] = cutLen (cutAt opB l) := cut_any _ _ (fun c => by simp [opB, beq_d, Bool.or_assoc]) l
theorem cut_colon (l : List UInt8) : Lib.indexByte l 58 = cutLen (cutAt (· == 58) l) := by
 rw [← Lib.indexAny_one]
 exact cut_any _ _ (fun c => by simp [beq_d]) l
theorem bs_take (R : ByteArray) {a d : List UInt8} {c : UInt8} (h : R.data.toList = a ++ c :: d) : (R.extract 0 a.length).data.toList = a := by
 rw [Lib.extract_data, h]; simp
theorem bs_drop (R : ByteArray) {a d : List UInt8} {c : UInt8} (h : R.data.toList = a ++ c :: d) : (R.extract (a.length + 1) R.size).data.toList = d := by
 rw [Lib.extract_to_end, h]; simp
theorem bs_get (R : ByteArray) {a d : List UInt8} {c : UInt8} (h : R.data.toList = a ++ c :: d) (hlt : a.length < R.size) : R[a.length]'hlt = c := by
 have : R.data.toList[a.length]? = some c := by rw [h]; simp
 have h2 : R.data.toList[a.length]? = some (R[a.length]'hlt) := by
  rw [qge (by rw [← Lib.size_eq]; exact hlt)]; rfl
 rw [h2] at this
 exact Option.some.inj this
end
end Go.Proofs.YtedbhlgjcnnknaaGreatDoor
