/- Parts of the proof: walks and plain laws, side by side. -/
import Derived.Test.YtedbhlgjcnnknaaGreatDoorP1
import Derived.Test.YtedbhlgjcnnknaaGreatDoorP2
import Derived.Test.YtedbhlgjcnnknaaGreatDoorProg
import Derived.Deep.LoopGhost
import Derived.IntWalk
import Derived.Outline
import Derived.Lib.ConvBytes
import Derived.Lib.AtoiErrMem
import Derived.Lib.Strings
set_option linter.unusedVariables false
set_option linter.unusedSimpArgs false
set_option linter.unusedSectionVars false
set_option maxRecDepth 100000
set_option maxHeartbeats 12800000
namespace Go.Proofs.YtedbhlgjcnnknaaGreatDoor
section
open Go.RowKit Qm
def ndRow (k : Int) (a : At) (f : Qm.W) (no : Bool) (A : Option Addr) (n c : Nat) : List Value :=
 [.int .i64 k, .string ⟨a.nm.toArray⟩, .int .i64 a.op, .int .i64 a.ver, .int .i64 a.slot, .string ⟨a.fl.toArray⟩, .bool a.on, .string ⟨f.toArray⟩, .bool no, .slice A n c]
inductive RNd (w : World) (S : Nat → Prop) : List Value → Nd → Prop
 | mk (k : Int) (a : At) (f : Qm.W) (no : Bool) (A : Option Addr) (n c : Nat) (ks : List Nd) (cs : List (List Value))
  (hnc : n ≤ c) (hc : c ≤ maxLen) (h1 : a.nm.length ≤ maxLen) (h2 : a.fl.length ≤ maxLen) (h3 : f.length ≤ maxLen)
  (hk : ks.length = n) (hcs : cs.length = n) (hrow : Row w S A (n * 10) cs.flatten)
  (hr : ∀ (j : Nat) (x : List Value) (y : Nd), cs[j]? = some x → ks[j]? = some y → RNd w S x y) : RNd w S (ndRow k a f no A n c) (.mk k a f no ks)
theorem RNd.ten {w : World} {S : Nat → Prop} {x : List Value} {y : Nd} (h : RNd w S x y) : x.length = 10 := by cases h; rfl
def RKids (w : World) (S : Nat → Prop) (A : Option Addr) (n : Nat) (ks : List Nd) : Prop :=
 ∃ cs : List (List Value), ks.length = n ∧ cs.length = n ∧ Row w S A (n * 10) cs.flatten ∧ ∀ (j : Nat) (x : List Value) (y : Nd), cs[j]? = some x → ks[j]? = some y → RNd w S x y
theorem RNd.open_ {w : World} {S : Nat → Prop} {x : List Value} {k : Int} {a : At} {f : Qm.W} {no : Bool} {ks : List Nd} (h : RNd w S x (.mk k a f no ks)) :
  ∃ A n c, x = ndRow k a f no A n c ∧ n ≤ c ∧ c ≤ maxLen ∧ a.nm.length ≤ maxLen ∧ a.fl.length ≤ maxLen ∧ f.length ≤ maxLen ∧ RKids w S A n ks := by
 cases h with
 | mk k a f no A n c ks cs hnc hc h1 h2 h3 hk hcs hrow hr => exact ⟨A, n, c, rfl, hnc, hc, h1, h2, h3, cs, hk, hcs, hrow, hr⟩
theorem RNd.shut {w : World} {S : Nat → Prop} {k : Int} {a : At} {f : Qm.W} {no : Bool} {ks : List Nd} {A : Option Addr} {n c : Nat}
  (hnc : n ≤ c) (hc : c ≤ maxLen) (h1 : a.nm.length ≤ maxLen) (h2 : a.fl.length ≤ maxLen) (h3 : f.length ≤ maxLen) (h : RKids w S A n ks) : RNd w S (ndRow k a f no A n c) (.mk k a f no ks) := by
 obtain ⟨cs, hk, hcs, hrow, hr⟩ := h
 exact .mk k a f no A n c ks cs hnc hc h1 h2 h3 hk hcs hrow hr
theorem RNd.keep {w w' : World} {S : Nat → Prop} (hw : ∀ p : Addr, S p.block → w'.cell? p = w.cell? p) {x : List Value} {y : Nd} (h : RNd w S x y) : RNd w' S x y := by
 induction h with
 | mk k a f no A n c ks cs hnc hc h1 h2 h3 hk hcs hrow hr ih => exact .mk k a f no A n c ks cs hnc hc h1 h2 h3 hk hcs (hrow.keep hw) ih
theorem RNd.more {w : World} {S S' : Nat → Prop} (hS : ∀ k, S k → S' k) {x : List Value} {y : Nd} (h : RNd w S x y) : RNd w S' x y := by
 induction h with
 | mk k a f no A n c ks cs hnc hc h1 h2 h3 hk hcs hrow hr ih => exact .mk k a f no A n c ks cs hnc hc h1 h2 h3 hk hcs (hrow.more hS) ih
theorem RNd.under {w w' : World} {S : Nat → Prop} {B : Nat} {x : List Value} {y : Nd} (h : RNd w S x y) (hb : Below B w w') (hS : ∀ k, S k → k < B) : RNd w' S x y := h.keep fun _ hp => hb.cell (hS _ hp)
theorem RKids.keep {w w' : World} {S : Nat → Prop} {A : Option Addr} {n : Nat} {ks : List Nd} (h : RKids w S A n ks) (hw : ∀ p : Addr, S p.block → w'.cell? p = w.cell? p) : RKids w' S A n ks := by
 obtain ⟨cs, hk, hcs, hrow, hr⟩ := h
 exact ⟨cs, hk, hcs, hrow.keep hw, fun j x y h1 h2 => (hr j x y h1 h2).keep hw⟩
theorem RKids.more {w : World} {S S' : Nat → Prop} (hS : ∀ k, S k → S' k) {A : Option Addr} {n : Nat} {ks : List Nd} (h : RKids w S A n ks) : RKids w S' A n ks := by
 obtain ⟨cs, hk, hcs, hrow, hr⟩ := h
 exact ⟨cs, hk, hcs, hrow.more hS, fun j x y h1 h2 => (hr j x y h1 h2).more hS⟩
theorem RKids.under {w w' : World} {S : Nat → Prop} {B : Nat} {A : Option Addr} {n : Nat} {ks : List Nd} (h : RKids w S A n ks) (hb : Below B w w') (hS : ∀ k, S k → k < B) : RKids w' S A n ks := h.keep fun _ hp => hb.cell (hS _ hp)
theorem RKids.len {w : World} {S : Nat → Prop} {A : Option Addr} {n : Nat} {ks : List Nd} (h : RKids w S A n ks) : ks.length = n := by obtain ⟨_, h, _⟩ := h; exact h
theorem RKids.nil_ {w : World} {S : Nat → Prop} {A : Option Addr} : RKids w S A 0 [] := ⟨[], rfl, rfl, by simpa using Row.nil_, fun j x y h _ => by simp at h⟩
theorem flat_at {cs : List (List Value)} (h : ∀ x ∈ cs, x.length = 10) : ∀ {j : Nat} {x : List Value}, cs[j]? = some x → ∀ i, i < 10 → cs.flatten[j * 10 + i]? = x[i]? := by
 induction cs with
 | nil => intro j x hj; simp at hj
 | cons c r ih =>
  intro j x hj i hi
  have hc := h c (List.mem_cons_self ..)
  rw [List.flatten_cons]
  cases j with
  | zero =>
   simp only [qgz, Option.some.injEq] at hj
   subst hj
   rw [List.getElem?_append_left (by omega)]; congr 1; omega
  | succ j =>
   rw [qgs] at hj
   rw [List.getElem?_append_right (by omega)]
   rw [← ih (fun y hy => h y (List.mem_cons_of_mem _ hy)) hj i hi]
   congr 1; omega
theorem RKids.at_ {w : World} {S : Nat → Prop} {A : Option Addr} {n : Nat} {ks : List Nd} (h : RKids w S A n ks) {j : Nat} (hj : j < n) :
  ∃ b o x y, A = some ⟨b, o, none⟩ ∧ S b ∧ ks[j]? = some y ∧ RNd w S x y ∧ ∀ i, i < 10 → w.cell? ⟨b, o + j * 10 + i, none⟩ = x[i]? := by
 obtain ⟨cs, hk, hcs, hrow, hr⟩ := h
 obtain ⟨b, o, hA, hb, hc⟩ := hrow.2 (by omega)
 have e1 : cs[j]? = some (cs[j]'(by omega)) := qge (by omega)
 have e2 : ks[j]? = some (ks[j]'(by omega)) := qge (by omega)
 refine ⟨b, o, _, _, hA, hb, e2, hr j _ _ e1 e2, fun i hi => ?_⟩
 rw [Nat.add_assoc, hc (j * 10 + i) (by omega)]
 refine flat_at (fun x hx => ?_) e1 i hi
 obtain ⟨i', hi', e⟩ := List.mem_iff_getElem.1 hx
 exact (hr i' x (ks[i']'(by omega)) (by rw [← e]; exact qge hi') (qge (by omega))).ten
end
section
open Go.RowKit Qm
def cntV : Option Int → Value
 | none => .tuple #[.int .i64 0, .bool false]
 | some c => .tuple #[.int .i64 c, .bool true]
theorem drop_step {ks : List Nd} {j : Nat} {y : Nd} (h : ks[j]? = some y) : ks.drop j = y :: ks.drop (j + 1) := by
 obtain ⟨hj, e⟩ := List.getElem?_eq_some_iff.1 h
 rw [List.drop_eq_getElem_cons hj, e]
theorem count_any : ∀ (n : Nd) (S : Nat → Prop) (x : List Value) (d : Nat) (m : Int) (w : World), RNd w S x n → (∀ k, S k → k < w.heap.size) → 1 ≤ d → d ≤ 5 → 0 ≤ m → m ≤ 20 →
  Calls Tryz.prog 151 #[.agg x.toArray, .int .i64 d, .int .i64 m] w fun e w' => e = .returned (cntV (cnt n d m)) ∧ Below w.heap.size w w' := by
 refine Nd.ind fun k a f no ks ih => ?_
 intro S x d m w hR hS hd1 hd5 hm0 hm
 have HI := qh ih; clear ih
 obtain ⟨A, n, c, rfl, hnc, hc, h1, h2, h3, hK⟩ := hR.open_
 clear hR
 have HS := qh hS; clear hS
 have HK := qh hK; clear hK
 unfold maxLen at hc
 clear h1 h2 h3
 unfold ndRow
 have HW := qh (Whole.new w _ 99 [.int .i64 k, .string ⟨a.nm.toArray⟩, .int .i64 a.op, .int .i64 a.ver, .int .i64 a.slot, .string ⟨a.fl.toArray⟩, .bool a.on, .string ⟨f.toArray⟩, .bool no, .slice A n c] rfl)
 have HB := qh ((Below.refl _ w).alloc (qr _) (.cells #[.int .i64 k, .string ⟨a.nm.toArray⟩, .int .i64 a.op, .int .i64 a.ver, .int .i64 a.slot, .string ⟨a.fl.toArray⟩, .bool a.on, .string ⟨f.toArray⟩, .bool no, .slice A n c] 99))
 by_cases h4 : 4 < d
 ·have h4' : (4 : Int) < (d : Int) := by omega
  go_enter Tryz.func151, Tryz.ntmps151
  go_wp2
  go_ret2
  exact ⟨by simp [cnt, cntV, h4], HB.out⟩
 ·have h4' : decide ((4 : Int) < (d : Int)) = false := by simp; omega
  have HC : Hid (cnt (.mk k a f no ks) d m = cntL ks d m 1) := qh (by simp [cnt, h4])
  go_enter Tryz.func151, Tryz.ntmps151
  go_wp2
  go_loopg [8, 18] n (fun g av iv wr => ∃ (j : Nat) (z : Int), Hid (j + g = n) ∧ iv = .int .i64 j ∧ av = .int .i64 z ∧ 1 ≤ z ∧ z ≤ 21 ∧ Hid (cntL ks d m 1 = cntL (ks.drop j) d m z) ∧ Below w.heap.size w wr)
  case atStart => exact ⟨0, 1, qh (Nat.zero_add _), rfl, rfl, by omega, by omega, qh rfl, HB.out⟩
  case round =>
   obtain ⟨j, z, Hj, rfl, rfl, hz1, hz2, Hcl, hb⟩ := hrel
   have HBr := qh hb; clear hb
   by_cases hj : j < n
   ·obtain ⟨b, o, x, y, rfl, hb, hy, hxy, hcell⟩ := (HK.out.under HBr.out HS.out).at_ hj
    have Hdr := qh (drop_step hy)
    have hmem := List.mem_of_getElem? hy
    obtain ⟨yk, ya, yf, yn, yks⟩ := y
    obtain ⟨A', n', c', rfl, -⟩ := hxy.open_
    have g0 := hcell 0 (by omega); have g1 := hcell 1 (by omega); have g2 := hcell 2 (by omega); have g3 := hcell 3 (by omega); have g4 := hcell 4 (by omega)
    have g5 := hcell 5 (by omega); have g6 := hcell 6 (by omega); have g7 := hcell 7 (by omega); have g8 := hcell 8 (by omega); have g9 := hcell 9 (by omega)
    clear hcell
    unfold ndRow at g0 g1 g2 g3 g4 g5 g6 g7 g8 g9
    simp only [qgz, qgs, Nat.add_zero] at g0 g1 g2 g3 g4 g5 g6 g7 g8 g9
    clear hy
    have hxy2 := (hxy.under (Below.refl _ wr |>.alloc (qr _) (.cells #[.int .i64 yk, .string ⟨ya.nm.toArray⟩, .int .i64 ya.op, .int .i64 ya.ver, .int .i64 ya.slot, .string ⟨ya.fl.toArray⟩, .bool ya.on, .string ⟨yf.toArray⟩, .bool yn, .slice A' n' c'] 99)) fun q hq => ql (HS.out q hq) HBr.out.size)
    clear hxy
    by_cases hzm : m < z
    ·go_wp2_with fail
     go_ret2
     exact ⟨by rw [HC.out, Hcl.out, Hdr.out]; simp [cntL, hzm, cntV], HBr.out.alloc HBr.out.size _⟩
    ·have hzm' : decide (m < z) = false := by simpa using hzm
     have hcall := HI.out _ hmem S _ (d + 1) (m - z) _ hxy2 (fun q hq => by have := HS.out q hq; have := HBr.out.size; simp; omega) (by omega) (by omega) (by omega) (by omega)
     have Hle := qh (cnt_le (.mk yk ya yf yn yks) (d + 1) (m - z))
     have Hge := qh (cnt_spec (.mk yk ya yf yn yks) (d + 1) (m - z) (by omega)).1
     have e : ((d + 1 : Nat) : Int) = (d : Int) + 1 := by omega
     rw [e] at hcall
     unfold ndRow at hcall
     have HX : Hid (cntL (ks.drop j) d m z = match cnt (.mk yk ya yf yn yks) (d + 1) (m - z) with | none => none | some c => cntL (ks.drop (j + 1)) d m (z + c)) := qh (by rw [Hdr.out]; simp only [cntL, if_neg hzm]; cases cnt (.mk yk ya yf yn yks) (d + 1) (m - z) <;> rfl)
     generalize hq : cnt (.mk yk ya yf yn yks) (d + 1) (m - z) = q at hcall Hle Hge HX
     have HBn := qh (HBr.out.alloc HBr.out.size (.cells #[.int .i64 yk, .string ⟨ya.nm.toArray⟩, .int .i64 ya.op, .int .i64 ya.ver, .int .i64 ya.slot, .string ⟨ya.fl.toArray⟩, .bool ya.on, .string ⟨yf.toArray⟩, .bool yn, .slice A' n' c'] 99))
     clear hq e hxy2
     have Hcall := qh hcall; clear hcall
     rcases q with _ | q
     ·simp only [cntV] at Hcall
      go_wp2_with fail
      refine Hcall.out.mono ?_
      rintro e w' ⟨rfl, hb'⟩
      have HB' := qh (HBn.out.trans (hb'.mono HBn.out.size)); clear hb'
      go_wp2_with fail
      go_ret2
      exact ⟨by rw [HC.out, Hcl.out, HX.out]; rfl, HB'.out⟩
     ·simp only [cntV] at Hcall
      have hq1 := Hle.out q (by omega) rfl
      have hq0 := (Hge.out q rfl).1
      go_wp2_with fail
      refine Hcall.out.mono ?_
      rintro e w' ⟨rfl, hb'⟩
      have HB' := qh (HBn.out.trans (hb'.mono HBn.out.size)); clear hb'
      go_wp2_with fail
      go_roundg (gk - 1)
      case measure => have := Hj.out; omega
      case rel => exact ⟨j + 1, z + q, qh (by have := Hj.out; omega), by go_num, rfl, by omega, by omega, qh (by rw [Hcl.out, HX.out]), HB'.out⟩
   ·go_wp2_with fail
    go_ret2
    refine ⟨?_, HBr.out⟩
    rw [HC.out, Hcl.out, List.drop_of_length_le (by have := HK.out.len; omega)]; rfl
end
section
open Go.RowKit Qm
theorem okFrom_drop {l : List UInt8} {k : Nat} (h : k < l.length) : okFrom k (l.drop k) = (okAt k (l.getD k 0) && okFrom (k + 1) (l.drop (k + 1))) := by
 rw [List.drop_eq_getElem_cons h, okFrom]
 simp [List.getD, h]
theorem okAt_low {k : Nat} {c : UInt8} (h1 : 97 ≤ c.toNat) (h2 : c.toNat ≤ 122) : okAt k c = true := by simp [okAt, lowB, h1, h2]
theorem okAt_dig {k : Nat} {c : UInt8} (h0 : 0 < k) (h1 : 48 ≤ c.toNat) (h2 : c.toNat ≤ 57) : okAt k c = true := by simp [okAt, digB, h0, h1, h2]
theorem okAt_not {k : Nat} {c : UInt8} (h1 : c.toNat < 97 ∨ 122 < c.toNat) (h2 : k = 0 ∨ c.toNat < 48 ∨ 57 < c.toNat) : okAt k c = false := by
 simp only [okAt, lowB, digB, Bool.or_eq_false_iff, Bool.and_eq_false_iff, decide_eq_false_iff_not]
 omega
theorem name_any (s : ByteArray) (w : World) (hs : s.size ≤ maxLen) :
  Calls Tryz.prog 104 #[.string s] w fun e w' => e = .returned (.bool (isName s.data.toList)) ∧ Below w.heap.size w w' := by
 unfold maxLen at hs
 have HL := qh (Lib.size_eq s).symm
 by_cases h0 : s.size = 0
 ·have hz : s = ⟨#[]⟩ := by
   obtain ⟨⟨l⟩⟩ := s
   have : l.length = 0 := h0
   cases l
   ·rfl
   ·simp at this
  subst hz
  go_enter Tryz.func104, Tryz.ntmps104
  go_wp2
  go_ret
  exact ⟨rfl, Below.refl _ _⟩
 ·have hne : s.toList.isEmpty = false := by
   have := HL.out
   rw [Lib.toList_data]
   cases e : s.data.toList
   ·rw [e] at this; simp at this; omega
   ·rfl
  by_cases h8 : 8 < s.size
  ·have h8' : (8 : Int) < (s.size : Int) := by omega
   go_enter Tryz.func104, Tryz.ntmps104
   go_wp2
   go_ret
   refine ⟨?_, Below.refl _ _⟩
   have : isName s.data.toList = false := by
    have := HL.out
    unfold isName
    rw [qdf (by omega)]; rfl
   rw [this]; rfl
  ·have h8' : decide ((8 : Int) < (s.size : Int)) = false := by simp; omega
   have hcv := Lib.run_convert_string_bytes (P := Tryz.prog) w 9 173 5 s Tryz.underlying9 Tryz.underlying173 Tryz.underlying5
   have hcell : ∀ k, k < s.size → (Lib.bytesWorld w 5 s).cell? ⟨w.heap.size, k, none⟩ = some (.int .u8 (s.data.toList.getD k 0).toNat) := fun k hk => Lib.bytesWorld_cell w 5 s k hk
   have hbw := Lib.bytesWorld_below w 5 s
   have HB := qh hbw; clear hbw
   generalize Lib.bytesWorld w 5 s = W1 at hcv hcell HB
   have HC := qh hcell; clear hcell
   go_enter Tryz.func104, Tryz.ntmps104
   go_wp2
   clear hcv
   go_loop [15] (fun i => ∃ k : Nat, k ≤ s.size ∧ i = .int .i64 k ∧ okFrom 0 s.data.toList = okFrom k (s.data.toList.drop k)) (fun i => s.size - (intOf i).toNat)
   case atStart => exact ⟨0, Nat.zero_le _, rfl, rfl⟩
   case round =>
    obtain ⟨k, hk, rfl, hok⟩ := hrel
    have Hok := qh hok; clear hok
    by_cases hlt : k < s.size
    ·have hc := HC.out k hlt
     have HS := qh (okFrom_drop (l := s.data.toList) (k := k) (by have := HL.out; omega))
     generalize s.data.toList.getD k 0 = c at hc HS
     have no : okAt k c = false → isName s.data.toList = false := by
      intro h
      unfold isName
      rw [Hok.out, HS.out, h, Bool.false_and, Bool.and_false]
     have yes : okAt k c = true → okFrom 0 s.data.toList = okFrom (k + 1) (s.data.toList.drop (k + 1)) := by
      intro h
      rw [Hok.out, HS.out, h, Bool.true_and]
     have No := qh no; clear no
     have Yes := qh yes; clear yes
     by_cases a1 : c.toNat < 97
     ·have b1 : (c.toNat : Int) < 97 := by omega
      by_cases k0 : k = 0
      ·subst k0
       go_wp2
       go_ret
       refine ⟨?_, HB.out⟩
       rw [No.out (okAt_not (by omega) (by omega))]; rfl
      ·have bk : ((k : Int) == 0) = false := by simp; omega
       by_cases a3 : c.toNat < 48
       ·have b3 : (c.toNat : Int) < 48 := by omega
        go_wp2
        go_ret
        refine ⟨?_, HB.out⟩
        rw [No.out (okAt_not (by omega) (by omega))]; rfl
       ·have b3 : decide ((c.toNat : Int) < 48) = false := by simp; omega
        by_cases a4 : 57 < c.toNat
        ·have b4 : 57 < (c.toNat : Int) := by omega
         go_wp2
         go_ret
         refine ⟨?_, HB.out⟩
         rw [No.out (okAt_not (by omega) (by omega))]; rfl
        ·have b4 : decide (57 < (c.toNat : Int)) = false := by simp; omega
         go_wp2
         go_round
         case rel => exact ⟨k + 1, by omega, by go_num, Yes.out (okAt_dig (by omega) (by omega) (by omega))⟩
         case measure => simp [intOf]; omega
     ·have b1 : decide ((c.toNat : Int) < 97) = false := by simp; omega
      by_cases a2 : 122 < c.toNat
      ·have b2 : 122 < (c.toNat : Int) := by omega
       by_cases k0 : k = 0
       ·subst k0
        go_wp2
        go_ret
        refine ⟨?_, HB.out⟩
        rw [No.out (okAt_not (by omega) (by omega))]; rfl
       ·have bk : ((k : Int) == 0) = false := by simp; omega
        have b3 : decide ((c.toNat : Int) < 48) = false := by simp; omega
        have b4 : 57 < (c.toNat : Int) := by omega
        go_wp2
        go_ret
        refine ⟨?_, HB.out⟩
        rw [No.out (okAt_not (by omega) (by omega))]; rfl
      ·have b2 : decide (122 < (c.toNat : Int)) = false := by simp; omega
       go_wp2
       go_round
       case rel => exact ⟨k + 1, by omega, by go_num, Yes.out (okAt_low (by omega) (by omega))⟩
       case measure => simp [intOf]; omega
    ·go_wp2
     go_ret
     refine ⟨?_, HB.out⟩
     have e : okFrom 0 s.data.toList = true := by
      rw [Hok.out, List.drop_of_length_le (by have := HL.out; omega)]; rfl
     have : isName s.data.toList = true := by
      unfold isName
      have := HL.out
      rw [e, qdt (by omega)]; rfl
     rw [this]; rfl
end
section
open Go.RowKit Qm
def atv (s : ByteArray) (op ver slot : Int) (f : ByteArray) (on : Bool) : Value := .agg #[.string s, .int .i64 op, .int .i64 ver, .int .i64 slot, .string f, .bool on]
def atOf (s : ByteArray) (op ver slot : Int) (f : ByteArray) (on : Bool) : At := ⟨s.data.toList, op, ver, slot, f.data.toList, on⟩
theorem box_cell {w w1 : World} {cs : Array Value} {t : TypeId} (h : Below (w.alloc (.cells cs t)).heap.size (w.alloc (.cells cs t)) w1) {i : Nat} {v : Value} (hv : cs[i]? = some v) : w1.cell? ⟨w.heap.size, i, none⟩ = some v := by
 rw [h.cell (by simp)]
 simp [World.cell?, World.alloc, -World.alloc_eq, hv]
theorem empty_spell {f : ByteArray} (h : f.data.toList = []) : f.toList.isEmpty = true ∧ (!f.toList.isEmpty) = false := by
 rw [Lib.toList_data, h]; exact ⟨rfl, rfl⟩
theorem full_spell {f : ByteArray} (h : f.data.toList ≠ []) : f.toList.isEmpty = false ∧ (!f.toList.isEmpty) = true := by
 rw [Lib.toList_data]
 cases e : f.data.toList
 ·exact absurd e h
 ·exact ⟨rfl, rfl⟩
theorem ck1 {a : At} (h : isName a.nm = false ∨ a.fl ≠ [] ∧ isName a.fl = false) : ckAtom a = 1 := by unfold ckAtom; rw [if_pos h]
theorem ck3 {a : At} (h : ¬ (isName a.nm = false ∨ a.fl ≠ [] ∧ isName a.fl = false)) (h2 : (a.op < 0 ∨ 3 < a.op ∨ a.slot < 0 ∨ 9 < a.slot) ∨ (a.op = 0 ∧ a.ver ≠ 0 ∨ a.op ≠ 0 ∧ (a.ver < 1 ∨ 99 < a.ver))) : ckAtom a = 3 := by
 unfold ckAtom
 rw [if_neg h]
 split
 ·rfl
 ·rename_i h3
  rw [if_pos (by omega)]
theorem ck4 {a : At} (h : ¬ (isName a.nm = false ∨ a.fl ≠ [] ∧ isName a.fl = false)) (h2 : ¬ ((a.op < 0 ∨ 3 < a.op ∨ a.slot < 0 ∨ 9 < a.slot) ∨ (a.op = 0 ∧ a.ver ≠ 0 ∨ a.op ≠ 0 ∧ (a.ver < 1 ∨ 99 < a.ver)))) : ckAtom a = if a.fl = [] ∧ a.on = true then 4 else 0 := by
 unfold ckAtom
 rw [if_neg h, if_neg (by omega), if_neg (by omega)]
theorem check_any (s f : ByteArray) (op ver slot : Int) (on : Bool) (w : World) (hs : s.size ≤ maxLen) (hf : f.size ≤ maxLen) :
  Calls Tryz.prog 75 #[atv s op ver slot f on] w fun e w' => e = .returned (.int .i64 (ckAtom (atOf s op ver slot f on))) ∧ Below w.heap.size w w' := by
 unfold atv
 have ba : Below w.heap.size w (w.alloc (.cells #[.string s, .int .i64 op, .int .i64 ver, .int .i64 slot, .string f, .bool on] 75)) := (Below.refl _ w).alloc (qr _) _
 have Ba := qh ba; clear ba
 cases hn : isName s.data.toList
 ·skip
  go_enter Tryz.func75, Tryz.ntmps75
  go_wp2_with (first
   | (go_at_call 104; refine (name_any _ _ hs).mono ?_; rintro e w1 ⟨rfl, hb1⟩; have c0 := box_cell hb1 (i := 0) rfl; have c1 := box_cell hb1 (i := 1) rfl; have c2 := box_cell hb1 (i := 2) rfl; have c3 := box_cell hb1 (i := 3) rfl; have c4 := box_cell hb1 (i := 4) rfl; have c5 := box_cell hb1 (i := 5) rfl; refine Hid.out ?_))
  refine qh ?_
  have HB := qh (Ba.out.trans (hb1.mono (by simp)))
  clear hb1
  go_wp2
  go_ret
  exact ⟨ret_int (ck1 (a := atOf s op ver slot f on) (.inl hn)).symm, HB.out⟩
 ·by_cases h0 : f.data.toList = []
  ·obtain ⟨e1, e2⟩ := empty_spell h0
   go_enter Tryz.func75, Tryz.ntmps75
   go_wp2_with (first
    | (go_at_call 104; refine (name_any _ _ hs).mono ?_; rintro e w1 ⟨rfl, hb1⟩; have c0 := box_cell hb1 (i := 0) rfl; have c1 := box_cell hb1 (i := 1) rfl; have c2 := box_cell hb1 (i := 2) rfl; have c3 := box_cell hb1 (i := 3) rfl; have c4 := box_cell hb1 (i := 4) rfl; have c5 := box_cell hb1 (i := 5) rfl; refine Hid.out ?_))
   refine qh ?_
   have HB := qh (Ba.out.trans (hb1.mono (by simp)))
   clear hb1
   have H0 := qh h0
   have HG := qh (show ¬ (isName (atOf s op ver slot f on).nm = false ∨ (atOf s op ver slot f on).fl ≠ [] ∧ isName (atOf s op ver slot f on).fl = false) by simp [atOf, hn, h0])
   clear h0
   by_cases o1 : op < 0
   ·
    go_wp2
    go_ret
    exact ⟨ret_int (ck3 (a := atOf s _ _ slot f on) HG.out (by show _ ∨ _; simp only [atOf]; first | omega | exact .inr (.inl ⟨trivial, ‹_›⟩))).symm, HB.out⟩
   have o1' : decide (op < 0) = false := by simpa using o1
   by_cases o2 : 3 < op
   ·
    go_wp2
    go_ret
    exact ⟨ret_int (ck3 (a := atOf s _ _ slot f on) HG.out (by show _ ∨ _; simp only [atOf]; first | omega | exact .inr (.inl ⟨trivial, ‹_›⟩))).symm, HB.out⟩
   have o2' : decide (3 < op) = false := by simpa using o2
   by_cases s1 : slot < 0
   ·
    go_wp2
    go_ret
    exact ⟨ret_int (ck3 (a := atOf s _ _ slot f on) HG.out (by show _ ∨ _; simp only [atOf]; first | omega | exact .inr (.inl ⟨trivial, ‹_›⟩))).symm, HB.out⟩
   have s1' : decide (slot < 0) = false := by simpa using s1
   by_cases s2 : 9 < slot
   ·
    go_wp2
    go_ret
    exact ⟨ret_int (ck3 (a := atOf s _ _ slot f on) HG.out (by show _ ∨ _; simp only [atOf]; first | omega | exact .inr (.inl ⟨trivial, ‹_›⟩))).symm, HB.out⟩
   have s2' : decide (9 < slot) = false := by simpa using s2
   by_cases z : op = 0
   ·
    subst z
    by_cases v : ver = 0
    ·
     subst v
     cases on
     ·
      go_wp2
      go_ret
      exact ⟨ret_int (by rw [ck4 (a := atOf s _ _ slot f false) HG.out (by simp only [atOf]; omega)]; simp [atOf]), HB.out⟩
     ·
      go_wp2
      go_ret
      exact ⟨ret_int (by rw [ck4 (a := atOf s _ _ slot f true) HG.out (by simp only [atOf]; omega)]; simp [atOf, H0.out]), HB.out⟩
    ·
     have v1 : (ver == 0) = false := by simpa using v
     have v2 : (ver != 0) = true := by simpa using v
     go_wp2
     go_ret
     exact ⟨ret_int (ck3 (a := atOf s _ _ slot f on) HG.out (by show _ ∨ _; simp only [atOf]; first | omega | exact .inr (.inl ⟨trivial, ‹_›⟩))).symm, HB.out⟩
   ·
    have z1 : (op == 0) = false := by simpa using z
    have z2 : (op != 0) = true := by simpa using z
    by_cases v1 : ver < 1
    ·
     go_wp2
     go_ret
     exact ⟨ret_int (ck3 (a := atOf s _ _ slot f on) HG.out (by show _ ∨ _; simp only [atOf]; first | omega | exact .inr (.inl ⟨trivial, ‹_›⟩))).symm, HB.out⟩
    have v1' : decide (ver < 1) = false := by simpa using v1
    by_cases v2 : 99 < ver
    ·
     go_wp2
     go_ret
     exact ⟨ret_int (ck3 (a := atOf s _ _ slot f on) HG.out (by show _ ∨ _; simp only [atOf]; first | omega | exact .inr (.inl ⟨trivial, ‹_›⟩))).symm, HB.out⟩
    have v2' : decide (99 < ver) = false := by simpa using v2
    cases on
    ·
     go_wp2
     go_ret
     exact ⟨ret_int (by rw [ck4 (a := atOf s _ _ slot f false) HG.out (by simp only [atOf]; omega)]; simp [atOf]), HB.out⟩
    ·
     go_wp2
     go_ret
     exact ⟨ret_int (by rw [ck4 (a := atOf s _ _ slot f true) HG.out (by simp only [atOf]; omega)]; simp [atOf, H0.out]), HB.out⟩
  ·obtain ⟨e1, e2⟩ := full_spell h0
   cases hn2 : isName f.data.toList
   ·skip
    go_enter Tryz.func75, Tryz.ntmps75
    go_wp2_with (first
     | (go_at_call 104; refine (name_any _ _ hs).mono ?_; rintro e w1 ⟨rfl, hb1⟩; have c0 := box_cell hb1 (i := 0) rfl; have c1 := box_cell hb1 (i := 1) rfl; have c2 := box_cell hb1 (i := 2) rfl; have c3 := box_cell hb1 (i := 3) rfl; have c4 := box_cell hb1 (i := 4) rfl; have c5 := box_cell hb1 (i := 5) rfl; refine Hid.out ?_))
    refine qh ?_
    go_wp2_with (first
     | (go_at_call 104; refine (name_any _ _ hf).mono ?_; rintro e w2 ⟨rfl, hb2⟩; replace c0 := (hb2.cell (World.block_lt_of_cell? _ _ c0)).trans c0; replace c1 := (hb2.cell (World.block_lt_of_cell? _ _ c1)).trans c1; replace c2 := (hb2.cell (World.block_lt_of_cell? _ _ c2)).trans c2; replace c3 := (hb2.cell (World.block_lt_of_cell? _ _ c3)).trans c3; replace c4 := (hb2.cell (World.block_lt_of_cell? _ _ c4)).trans c4; replace c5 := (hb2.cell (World.block_lt_of_cell? _ _ c5)).trans c5; refine Hid.out ?_))
    refine qh ?_
    have HB := qh (Ba.out.trans ((hb1.mono (by simp)).trans (hb2.mono (qlt (by simp) hb1.size))))
    clear hb1 hb2
    go_wp2
    go_ret
    exact ⟨ret_int (ck1 (a := atOf s op ver slot f on) (.inr ⟨h0, hn2⟩)).symm, HB.out⟩
   ·skip
    go_enter Tryz.func75, Tryz.ntmps75
    go_wp2_with (first
     | (go_at_call 104; refine (name_any _ _ hs).mono ?_; rintro e w1 ⟨rfl, hb1⟩; have c0 := box_cell hb1 (i := 0) rfl; have c1 := box_cell hb1 (i := 1) rfl; have c2 := box_cell hb1 (i := 2) rfl; have c3 := box_cell hb1 (i := 3) rfl; have c4 := box_cell hb1 (i := 4) rfl; have c5 := box_cell hb1 (i := 5) rfl; refine Hid.out ?_))
    refine qh ?_
    go_wp2_with (first
     | (go_at_call 104; refine (name_any _ _ hf).mono ?_; rintro e w2 ⟨rfl, hb2⟩; replace c0 := (hb2.cell (World.block_lt_of_cell? _ _ c0)).trans c0; replace c1 := (hb2.cell (World.block_lt_of_cell? _ _ c1)).trans c1; replace c2 := (hb2.cell (World.block_lt_of_cell? _ _ c2)).trans c2; replace c3 := (hb2.cell (World.block_lt_of_cell? _ _ c3)).trans c3; replace c4 := (hb2.cell (World.block_lt_of_cell? _ _ c4)).trans c4; replace c5 := (hb2.cell (World.block_lt_of_cell? _ _ c5)).trans c5; refine Hid.out ?_))
    refine qh ?_
    have HB := qh (Ba.out.trans ((hb1.mono (by simp)).trans (hb2.mono (qlt (by simp) hb1.size))))
    clear hb1 hb2
    have H0 := qh h0
    have HG := qh (show ¬ (isName (atOf s op ver slot f on).nm = false ∨ (atOf s op ver slot f on).fl ≠ [] ∧ isName (atOf s op ver slot f on).fl = false) by simp [atOf, hn, hn2])
    clear h0
    by_cases o1 : op < 0
    ·
     go_wp2
     go_ret
     exact ⟨ret_int (ck3 (a := atOf s _ _ slot f on) HG.out (by show _ ∨ _; simp only [atOf]; first | omega | exact .inr (.inl ⟨trivial, ‹_›⟩))).symm, HB.out⟩
    have o1' : decide (op < 0) = false := by simpa using o1
    by_cases o2 : 3 < op
    ·
     go_wp2
     go_ret
     exact ⟨ret_int (ck3 (a := atOf s _ _ slot f on) HG.out (by show _ ∨ _; simp only [atOf]; first | omega | exact .inr (.inl ⟨trivial, ‹_›⟩))).symm, HB.out⟩
    have o2' : decide (3 < op) = false := by simpa using o2
    by_cases s1 : slot < 0
    ·
     go_wp2
     go_ret
     exact ⟨ret_int (ck3 (a := atOf s _ _ slot f on) HG.out (by show _ ∨ _; simp only [atOf]; first | omega | exact .inr (.inl ⟨trivial, ‹_›⟩))).symm, HB.out⟩
    have s1' : decide (slot < 0) = false := by simpa using s1
    by_cases s2 : 9 < slot
    ·
     go_wp2
     go_ret
     exact ⟨ret_int (ck3 (a := atOf s _ _ slot f on) HG.out (by show _ ∨ _; simp only [atOf]; first | omega | exact .inr (.inl ⟨trivial, ‹_›⟩))).symm, HB.out⟩
    have s2' : decide (9 < slot) = false := by simpa using s2
    by_cases z : op = 0
    ·
     subst z
     by_cases v : ver = 0
     ·
      subst v
      go_wp2
      go_ret
      exact ⟨ret_int (by rw [ck4 (a := atOf s _ _ slot f on) HG.out (by simp only [atOf]; omega)]; simp [atOf, H0.out]), HB.out⟩
     ·
      have v1 : (ver == 0) = false := by simpa using v
      have v2 : (ver != 0) = true := by simpa using v
      go_wp2
      go_ret
      exact ⟨ret_int (ck3 (a := atOf s _ _ slot f on) HG.out (by show _ ∨ _; simp only [atOf]; first | omega | exact .inr (.inl ⟨trivial, ‹_›⟩))).symm, HB.out⟩
    ·
     have z1 : (op == 0) = false := by simpa using z
     have z2 : (op != 0) = true := by simpa using z
     by_cases v1 : ver < 1
     ·
      go_wp2
      go_ret
      exact ⟨ret_int (ck3 (a := atOf s _ _ slot f on) HG.out (by show _ ∨ _; simp only [atOf]; first | omega | exact .inr (.inl ⟨trivial, ‹_›⟩))).symm, HB.out⟩
     have v1' : decide (ver < 1) = false := by simpa using v1
     by_cases v2 : 99 < ver
     ·
      go_wp2
      go_ret
      exact ⟨ret_int (ck3 (a := atOf s _ _ slot f on) HG.out (by show _ ∨ _; simp only [atOf]; first | omega | exact .inr (.inl ⟨trivial, ‹_›⟩))).symm, HB.out⟩
     have v2' : decide (99 < ver) = false := by simpa using v2
     go_wp2
     go_ret
     exact ⟨ret_int (by rw [ck4 (a := atOf s _ _ slot f on) HG.out (by simp only [atOf]; omega)]; simp [atOf, H0.out]), HB.out⟩
end
section
open Go.RowKit Qm
theorem atOf_mk (x : At) : atOf ⟨x.nm.toArray⟩ x.op x.ver x.slot ⟨x.fl.toArray⟩ x.on = x := by
 cases x; simp [atOf]
theorem bsz (l : Qm.W) : (⟨l.toArray⟩ : ByteArray).size = l.length := by simp [ByteArray.size]
theorem ncheck_bad (nm fl f : Qm.W) (op ver slot k : Int) (on no : Bool) (A : Option Addr) (n c : Nat) (ks : List Nd) (w : World) (k1 : 3 ≤ k) (k2 : k ≤ 5) (ha : ¬ (nm = [] ∧ op = 0 ∧ ver = 0 ∧ slot = 0 ∧ fl = [] ∧ on = false)) :
  Calls Tryz.prog 152 #[.agg (ndRow k ⟨nm, op, ver, slot, fl, on⟩ f no A n c).toArray] w fun e w' => e = .returned (.int .i64 (ckNd (.mk k ⟨nm, op, ver, slot, fl, on⟩ f no ks))) ∧ Below w.heap.size w w' := by
 unfold ndRow
 have HC : Hid (ckNd (.mk k ⟨nm, op, ver, slot, fl, on⟩ f no ks) = 4) := qh (by
  have hl : leafK k = false := by simp [leafK]; omega
  simp only [ckNd]; rw [if_neg (by omega), if_neg (by simp [hl]), if_pos ⟨hl, by simpa [At.zero] using ha⟩])
 have e1 : (k == 1) = false := by simp; omega
 have e2 : (k == 2) = false := by simp; omega
 have e3 : decide (k < 1) = false := by simp; omega
 have e4 : decide (5 < k) = false := by simp; omega
 have HB := qh ((Below.refl _ w).alloc (qr _) (.cells #[.int .i64 k, .string ⟨nm.toArray⟩, .int .i64 op, .int .i64 ver, .int .i64 slot, .string ⟨fl.toArray⟩, .bool on, .string ⟨f.toArray⟩, .bool no, .slice A n c] 99))
 by_cases c1 : nm = []
 ·subst c1
  by_cases c2 : op = 0
  ·subst c2
   by_cases c3 : ver = 0
   ·subst c3
    by_cases c4 : slot = 0
    ·subst c4
     by_cases c5 : fl = []
     ·subst c5
      cases on
      ·exact absurd ⟨rfl, rfl, rfl, rfl, rfl, rfl⟩ ha
      ·clear ha
       go_enter Tryz.func152, Tryz.ntmps152
       go_wp2
       go_ret
       exact ⟨ret_int HC.out.symm, HB.out⟩
     ·clear ha
      go_enter Tryz.func152, Tryz.ntmps152
      go_wp2
      go_ret
      exact ⟨ret_int HC.out.symm, HB.out⟩
    ·clear ha
     go_enter Tryz.func152, Tryz.ntmps152
     go_wp2
     go_ret
     exact ⟨ret_int HC.out.symm, HB.out⟩
   ·clear ha
    go_enter Tryz.func152, Tryz.ntmps152
    go_wp2
    go_ret
    exact ⟨ret_int HC.out.symm, HB.out⟩
  ·clear ha
   go_enter Tryz.func152, Tryz.ntmps152
   go_wp2
   go_ret
   exact ⟨ret_int HC.out.symm, HB.out⟩
 ·clear ha
  go_enter Tryz.func152, Tryz.ntmps152
  go_wp2
  go_ret
  exact ⟨ret_int HC.out.symm, HB.out⟩
theorem ncheck_any : ∀ (y : Nd) (S : Nat → Prop) (x : List Value) (w : World), RNd w S x y → (∀ k, S k → k < w.heap.size) →
  Calls Tryz.prog 152 #[.agg x.toArray] w fun e w' => e = .returned (.int .i64 (ckNd y)) ∧ Below w.heap.size w w' := by
 refine Nd.ind fun k a f no ks ih => ?_
 intro S x w hR hS
 have HI := qh ih; clear ih
 obtain ⟨A, n, c, rfl, hnc, hc, h1, h2, h3, hK⟩ := hR.open_
 clear hR
 have HS := qh hS; clear hS
 have HK := qh hK; clear hK
 unfold maxLen at hc
 obtain ⟨nm, op, ver, slot, fl, on⟩ := a
 unfold ndRow
 simp only [] at h1 h2 ⊢
 have HB := qh ((Below.refl _ w).alloc (qr _) (.cells #[.int .i64 k, .string ⟨nm.toArray⟩, .int .i64 op, .int .i64 ver, .int .i64 slot, .string ⟨fl.toArray⟩, .bool on, .string ⟨f.toArray⟩, .bool no, .slice A n c] 99))
 by_cases k1 : k < 1
 ·have HC : Hid (ckNd (.mk k ⟨nm, op, ver, slot, fl, on⟩ f no ks) = 4) := qh (by simp only [ckNd]; rw [if_pos (.inl k1)])
  have e1 : (k == 1) = false := by simp; omega
  have e2 : (k == 2) = false := by simp; omega
  go_enter Tryz.func152, Tryz.ntmps152
  go_wp2
  go_ret
  exact ⟨ret_int HC.out.symm, HB.out⟩
 by_cases k5 : 5 < k
 ·have HC : Hid (ckNd (.mk k ⟨nm, op, ver, slot, fl, on⟩ f no ks) = 4) := qh (by simp only [ckNd]; rw [if_pos (.inr k5)])
  have e1 : (k == 1) = false := by simp; omega
  have e2 : (k == 2) = false := by simp; omega
  go_enter Tryz.func152, Tryz.ntmps152
  go_wp2
  go_ret
  exact ⟨ret_int HC.out.symm, HB.out⟩
 rcases (show k = 1 ∨ k = 2 ∨ k = 3 ∨ k = 4 ∨ k = 5 by omega) with rfl | rfl | rfl | rfl | rfl
 ·clear k1 k5
  by_cases hn : 0 < n
  ·have HC : Hid (ckNd (.mk 1 ⟨nm, op, ver, slot, fl, on⟩ f no ks) = 4) := qh (by
    have := HK.out.len
    simp only [ckNd]; rw [if_neg (by omega), if_pos ⟨rfl, by omega⟩])
   have hn' : (0 : Int) < (n : Int) := by omega
   go_enter Tryz.func152, Tryz.ntmps152
   go_wp2
   go_ret
   exact ⟨ret_int HC.out.symm, HB.out⟩
  ·obtain rfl : n = 0 := by omega
   by_cases hf : f = [] ∧ no = false
   ·obtain ⟨rfl, rfl⟩ := hf
    have HC : Hid (ckNd (.mk 1 ⟨nm, op, ver, slot, fl, on⟩ [] false ks) = ckAtom ⟨nm, op, ver, slot, fl, on⟩) := qh (by
     have := HK.out.len
     simp only [ckNd]; rw [if_neg (by omega), if_neg (by simp [this]), if_neg (by simp [leafK]), if_neg (by simp), if_neg (by simp), if_pos (by rfl)])
    have hck := fun wx => check_any ⟨nm.toArray⟩ ⟨fl.toArray⟩ op ver slot on wx (by rw [bsz]; exact h1) (by rw [bsz]; exact h2)
    rw [show atOf ⟨nm.toArray⟩ op ver slot ⟨fl.toArray⟩ on = ⟨nm, op, ver, slot, fl, on⟩ from by simp [atOf]] at hck
    unfold atv at hck
    have Hck := qh hck; clear hck
    clear h1 h2 h3
    go_enter Tryz.func152, Tryz.ntmps152
    go_wp2_with (first | (go_at_call 75; refine (Hck.out _).mono ?_; rintro e w1 ⟨rfl, hb1⟩; refine Hid.out ?_))
    refine qh ?_
    have HB1 := qh (HB.out.trans (hb1.mono HB.out.size)); clear hb1
    go_wp2
    go_ret
    exact ⟨ret_int HC.out.symm, HB1.out⟩
   ·have HC : Hid (ckNd (.mk 1 ⟨nm, op, ver, slot, fl, on⟩ f no ks) = 4) := qh (by
     have := HK.out.len
     simp only [ckNd]; rw [if_neg (by omega), if_neg (by simp [this]), if_neg (by simp [leafK]), if_pos ⟨by omega, by cases no <;> simp_all⟩])
    by_cases hf0 : f = []
    ·subst hf0
     cases no
     ·exact absurd ⟨rfl, rfl⟩ hf
     ·clear hf
      go_enter Tryz.func152, Tryz.ntmps152
      go_wp2
      go_ret
      exact ⟨ret_int HC.out.symm, HB.out⟩
    ·clear hf
     go_enter Tryz.func152, Tryz.ntmps152
     go_wp2
     go_ret
     exact ⟨ret_int HC.out.symm, HB.out⟩
 ·clear k1 k5
  by_cases hn : 0 < n
  ·have HC : Hid (ckNd (.mk 2 ⟨nm, op, ver, slot, fl, on⟩ f no ks) = 4) := qh (by
    have := HK.out.len
    simp only [ckNd]; rw [if_neg (by omega), if_pos ⟨rfl, by omega⟩])
   have hn' : (0 : Int) < (n : Int) := by omega
   go_enter Tryz.func152, Tryz.ntmps152
   go_wp2
   go_ret
   exact ⟨ret_int HC.out.symm, HB.out⟩
  ·obtain rfl : n = 0 := by omega
   by_cases hf : f = [] ∧ no = false
   ·obtain ⟨rfl, rfl⟩ := hf
    have HC : Hid (ckNd (.mk 2 ⟨nm, op, ver, slot, fl, on⟩ [] false ks) = ckAtom ⟨nm, op, ver, slot, fl, on⟩) := qh (by
     have := HK.out.len
     simp only [ckNd]; rw [if_neg (by omega), if_neg (by simp [this]), if_neg (by simp [leafK]), if_neg (by simp), if_neg (by simp), if_pos (by rfl)])
    have hck := fun wx => check_any ⟨nm.toArray⟩ ⟨fl.toArray⟩ op ver slot on wx (by rw [bsz]; exact h1) (by rw [bsz]; exact h2)
    rw [show atOf ⟨nm.toArray⟩ op ver slot ⟨fl.toArray⟩ on = ⟨nm, op, ver, slot, fl, on⟩ from by simp [atOf]] at hck
    unfold atv at hck
    have Hck := qh hck; clear hck
    clear h1 h2 h3
    go_enter Tryz.func152, Tryz.ntmps152
    go_wp2_with (first | (go_at_call 75; refine (Hck.out _).mono ?_; rintro e w1 ⟨rfl, hb1⟩; refine Hid.out ?_))
    refine qh ?_
    have HB1 := qh (HB.out.trans (hb1.mono HB.out.size)); clear hb1
    go_wp2
    go_ret
    exact ⟨ret_int HC.out.symm, HB1.out⟩
   ·have HC : Hid (ckNd (.mk 2 ⟨nm, op, ver, slot, fl, on⟩ f no ks) = 4) := qh (by
     have := HK.out.len
     simp only [ckNd]; rw [if_neg (by omega), if_neg (by simp [this]), if_neg (by simp [leafK]), if_pos ⟨by omega, by cases no <;> simp_all⟩])
    by_cases hf0 : f = []
    ·subst hf0
     cases no
     ·exact absurd ⟨rfl, rfl⟩ hf
     ·clear hf
      go_enter Tryz.func152, Tryz.ntmps152
      go_wp2
      go_ret
      exact ⟨ret_int HC.out.symm, HB.out⟩
    ·clear hf
     go_enter Tryz.func152, Tryz.ntmps152
     go_wp2
     go_ret
     exact ⟨ret_int HC.out.symm, HB.out⟩
 ·clear k1 k5
  by_cases ha : nm = [] ∧ op = 0 ∧ ver = 0 ∧ slot = 0 ∧ fl = [] ∧ on = false
  ·obtain ⟨rfl, rfl, rfl, rfl, rfl, rfl⟩ := ha
   by_cases hf : f = [] ∧ no = false
   ·obtain ⟨rfl, rfl⟩ := hf
    have HC : Hid (ckNd (.mk 3 ⟨[], 0, 0, 0, [], false⟩ [] false ks) = ckKids ks) := qh (by
     simp only [ckNd]; rw [if_neg (by omega), if_neg (by simp [leafK]), if_neg (by simp [At.zero]), if_neg (by simp), if_neg (by simp), if_neg (by simp [leafK])])
    clear h1 h2 h3
    go_enter Tryz.func152, Tryz.ntmps152
    go_wp2
    go_loopg [70] n (fun g iv wr => ∃ (j : Nat), Hid (j + g = n) ∧ iv = .int .i64 j ∧ Hid (ckKids ks = ckKids (ks.drop j)) ∧ Below w.heap.size w wr)
    case atStart => exact ⟨0, qh (Nat.zero_add _), rfl, qh rfl, HB.out⟩
    case round =>
     obtain ⟨j, Hj, rfl, Hcl, hb⟩ := hrel
     have HBr := qh hb; clear hb
     by_cases hj : j < n
     ·obtain ⟨b, o, x, y, rfl, hb, hy, hxy, hcell⟩ := (HK.out.under HBr.out HS.out).at_ hj
      have Hdr := qh (drop_step hy)
      have hmem := List.mem_of_getElem? hy
      obtain ⟨yk, ya, yf, yn, yks⟩ := y
      obtain ⟨A', n', c', rfl, -⟩ := hxy.open_
      have g0 := hcell 0 (by omega); have g1 := hcell 1 (by omega); have g2 := hcell 2 (by omega); have g3 := hcell 3 (by omega); have g4 := hcell 4 (by omega)
      have g5 := hcell 5 (by omega); have g6 := hcell 6 (by omega); have g7 := hcell 7 (by omega); have g8 := hcell 8 (by omega); have g9 := hcell 9 (by omega)
      clear hcell
      unfold ndRow at g0 g1 g2 g3 g4 g5 g6 g7 g8 g9
      simp only [qgz, qgs, Nat.add_zero] at g0 g1 g2 g3 g4 g5 g6 g7 g8 g9
      clear hy
      have hxy2 := (hxy.under (Below.refl _ wr |>.alloc (qr _) (.cells #[.int .i64 yk, .string ⟨ya.nm.toArray⟩, .int .i64 ya.op, .int .i64 ya.ver, .int .i64 ya.slot, .string ⟨ya.fl.toArray⟩, .bool ya.on, .string ⟨yf.toArray⟩, .bool yn, .slice A' n' c'] 99)) fun q hq => ql (HS.out q hq) HBr.out.size)
      clear hxy
      have hcall := HI.out _ hmem S _ _ hxy2 (fun q hq => by have := HS.out q hq; have := HBr.out.size; simp; omega)
      unfold ndRow at hcall
      have HX : Hid (ckKids (ks.drop j) = if ckNd (.mk yk ya yf yn yks) = 0 then ckKids (ks.drop (j + 1)) else ckNd (.mk yk ya yf yn yks)) := qh (by rw [Hdr.out]; simp only [ckKids])
      generalize hq : ckNd (.mk yk ya yf yn yks) = q at hcall HX
      have HBn := qh (HBr.out.alloc HBr.out.size (.cells #[.int .i64 yk, .string ⟨ya.nm.toArray⟩, .int .i64 ya.op, .int .i64 ya.ver, .int .i64 ya.slot, .string ⟨ya.fl.toArray⟩, .bool ya.on, .string ⟨yf.toArray⟩, .bool yn, .slice A' n' c'] 99))
      clear hq hxy2
      have Hcall := qh hcall; clear hcall
      by_cases h0 : q = 0
      ·subst h0
       go_wp2_with fail
       refine Hcall.out.mono ?_
       rintro e w' ⟨rfl, hb'⟩
       have HB' := qh (HBn.out.trans (hb'.mono HBn.out.size)); clear hb'
       go_wp2_with fail
       go_roundg (gk - 1)
       case measure => have := Hj.out; omega
       case rel => exact ⟨j + 1, qh (by have := Hj.out; omega), by go_num, qh (by rw [Hcl.out, HX.out]; simp), HB'.out⟩
      ·have h1 : (q != 0) = true := by simpa using h0
       have H0 := qh h0; clear h0
       go_wp2_with fail
       refine Hcall.out.mono ?_
       rintro e w' ⟨rfl, hb'⟩
       have HB' := qh (HBn.out.trans (hb'.mono HBn.out.size)); clear hb'
       go_wp2_with fail
       go_ret
       exact ⟨ret_int (by rw [HC.out, Hcl.out, HX.out, if_neg H0.out]), HB'.out⟩
     ·go_wp2_with fail
      go_ret
      refine ⟨ret_int ?_, HBr.out⟩
      rw [HC.out, Hcl.out, List.drop_of_length_le (by have := HK.out.len; omega)]; rfl
   ·have HC : Hid (ckNd (.mk 3 ⟨[], 0, 0, 0, [], false⟩ f no ks) = 4) := qh (by
     simp only [ckNd]; rw [if_neg (by omega), if_neg (by simp [leafK]), if_neg (by simp [At.zero]), if_pos ⟨by omega, by cases no <;> simp_all⟩])
    by_cases hf0 : f = []
    ·subst hf0
     cases no
     ·exact absurd ⟨rfl, rfl⟩ hf
     ·clear hf
      go_enter Tryz.func152, Tryz.ntmps152
      go_wp2
      go_ret
      exact ⟨ret_int HC.out.symm, HB.out⟩
    ·clear hf
     go_enter Tryz.func152, Tryz.ntmps152
     go_wp2
     go_ret
     exact ⟨ret_int HC.out.symm, HB.out⟩
  ·exact ncheck_bad nm fl f op ver slot 3 on no A n c ks w (by decide) (by decide) ha
 ·clear k1 k5
  by_cases ha : nm = [] ∧ op = 0 ∧ ver = 0 ∧ slot = 0 ∧ fl = [] ∧ on = false
  ·obtain ⟨rfl, rfl, rfl, rfl, rfl, rfl⟩ := ha
   by_cases hf : f = [] ∧ no = false
   ·obtain ⟨rfl, rfl⟩ := hf
    have HC : Hid (ckNd (.mk 4 ⟨[], 0, 0, 0, [], false⟩ [] false ks) = ckKids ks) := qh (by
     simp only [ckNd]; rw [if_neg (by omega), if_neg (by simp [leafK]), if_neg (by simp [At.zero]), if_neg (by simp), if_neg (by simp), if_neg (by simp [leafK])])
    clear h1 h2 h3
    go_enter Tryz.func152, Tryz.ntmps152
    go_wp2
    go_loopg [70] n (fun g iv wr => ∃ (j : Nat), Hid (j + g = n) ∧ iv = .int .i64 j ∧ Hid (ckKids ks = ckKids (ks.drop j)) ∧ Below w.heap.size w wr)
    case atStart => exact ⟨0, qh (Nat.zero_add _), rfl, qh rfl, HB.out⟩
    case round =>
     obtain ⟨j, Hj, rfl, Hcl, hb⟩ := hrel
     have HBr := qh hb; clear hb
     by_cases hj : j < n
     ·obtain ⟨b, o, x, y, rfl, hb, hy, hxy, hcell⟩ := (HK.out.under HBr.out HS.out).at_ hj
      have Hdr := qh (drop_step hy)
      have hmem := List.mem_of_getElem? hy
      obtain ⟨yk, ya, yf, yn, yks⟩ := y
      obtain ⟨A', n', c', rfl, -⟩ := hxy.open_
      have g0 := hcell 0 (by omega); have g1 := hcell 1 (by omega); have g2 := hcell 2 (by omega); have g3 := hcell 3 (by omega); have g4 := hcell 4 (by omega)
      have g5 := hcell 5 (by omega); have g6 := hcell 6 (by omega); have g7 := hcell 7 (by omega); have g8 := hcell 8 (by omega); have g9 := hcell 9 (by omega)
      clear hcell
      unfold ndRow at g0 g1 g2 g3 g4 g5 g6 g7 g8 g9
      simp only [qgz, qgs, Nat.add_zero] at g0 g1 g2 g3 g4 g5 g6 g7 g8 g9
      clear hy
      have hxy2 := (hxy.under (Below.refl _ wr |>.alloc (qr _) (.cells #[.int .i64 yk, .string ⟨ya.nm.toArray⟩, .int .i64 ya.op, .int .i64 ya.ver, .int .i64 ya.slot, .string ⟨ya.fl.toArray⟩, .bool ya.on, .string ⟨yf.toArray⟩, .bool yn, .slice A' n' c'] 99)) fun q hq => ql (HS.out q hq) HBr.out.size)
      clear hxy
      have hcall := HI.out _ hmem S _ _ hxy2 (fun q hq => by have := HS.out q hq; have := HBr.out.size; simp; omega)
      unfold ndRow at hcall
      have HX : Hid (ckKids (ks.drop j) = if ckNd (.mk yk ya yf yn yks) = 0 then ckKids (ks.drop (j + 1)) else ckNd (.mk yk ya yf yn yks)) := qh (by rw [Hdr.out]; simp only [ckKids])
      generalize hq : ckNd (.mk yk ya yf yn yks) = q at hcall HX
      have HBn := qh (HBr.out.alloc HBr.out.size (.cells #[.int .i64 yk, .string ⟨ya.nm.toArray⟩, .int .i64 ya.op, .int .i64 ya.ver, .int .i64 ya.slot, .string ⟨ya.fl.toArray⟩, .bool ya.on, .string ⟨yf.toArray⟩, .bool yn, .slice A' n' c'] 99))
      clear hq hxy2
      have Hcall := qh hcall; clear hcall
      by_cases h0 : q = 0
      ·subst h0
       go_wp2_with fail
       refine Hcall.out.mono ?_
       rintro e w' ⟨rfl, hb'⟩
       have HB' := qh (HBn.out.trans (hb'.mono HBn.out.size)); clear hb'
       go_wp2_with fail
       go_roundg (gk - 1)
       case measure => have := Hj.out; omega
       case rel => exact ⟨j + 1, qh (by have := Hj.out; omega), by go_num, qh (by rw [Hcl.out, HX.out]; simp), HB'.out⟩
      ·have h1 : (q != 0) = true := by simpa using h0
       have H0 := qh h0; clear h0
       go_wp2_with fail
       refine Hcall.out.mono ?_
       rintro e w' ⟨rfl, hb'⟩
       have HB' := qh (HBn.out.trans (hb'.mono HBn.out.size)); clear hb'
       go_wp2_with fail
       go_ret
       exact ⟨ret_int (by rw [HC.out, Hcl.out, HX.out, if_neg H0.out]), HB'.out⟩
     ·go_wp2_with fail
      go_ret
      refine ⟨ret_int ?_, HBr.out⟩
      rw [HC.out, Hcl.out, List.drop_of_length_le (by have := HK.out.len; omega)]; rfl
   ·have HC : Hid (ckNd (.mk 4 ⟨[], 0, 0, 0, [], false⟩ f no ks) = 4) := qh (by
     simp only [ckNd]; rw [if_neg (by omega), if_neg (by simp [leafK]), if_neg (by simp [At.zero]), if_pos ⟨by omega, by cases no <;> simp_all⟩])
    by_cases hf0 : f = []
    ·subst hf0
     cases no
     ·exact absurd ⟨rfl, rfl⟩ hf
     ·clear hf
      go_enter Tryz.func152, Tryz.ntmps152
      go_wp2
      go_ret
      exact ⟨ret_int HC.out.symm, HB.out⟩
    ·clear hf
     go_enter Tryz.func152, Tryz.ntmps152
     go_wp2
     go_ret
     exact ⟨ret_int HC.out.symm, HB.out⟩
  ·exact ncheck_bad nm fl f op ver slot 4 on no A n c ks w (by decide) (by decide) ha
 ·clear k1 k5
  by_cases ha : nm = [] ∧ op = 0 ∧ ver = 0 ∧ slot = 0 ∧ fl = [] ∧ on = false
  ·obtain ⟨rfl, rfl, rfl, rfl, rfl, rfl⟩ := ha
   have hnm := fun wx => name_any ⟨f.toArray⟩ wx (by rw [bsz]; exact h3)
   rw [show (⟨f.toArray⟩ : ByteArray).data.toList = f from by simp] at hnm
   cases hn : isName f
   ·rw [hn] at hnm
    have Hnm := qh hnm; clear hnm
    have HC : Hid (ckNd (.mk 5 ⟨[], 0, 0, 0, [], false⟩ f no ks) = 1) := qh (by
     simp only [ckNd]; rw [if_neg (by omega), if_neg (by simp [leafK]), if_neg (by simp [At.zero]), if_neg (by simp), if_pos ⟨by trivial, hn⟩])
    clear h1 h2 h3 hn
    go_enter Tryz.func152, Tryz.ntmps152
    go_wp2_with (first | (go_at_call 104; refine (Hnm.out _).mono ?_; rintro e w1 ⟨rfl, hb1⟩; refine Hid.out ?_))
    refine qh ?_
    have HB1 := qh (HB.out.trans (hb1.mono HB.out.size)); clear hb1
    go_wp2
    go_ret
    exact ⟨ret_int HC.out.symm, HB1.out⟩
   ·rw [hn] at hnm
    have Hnm := qh hnm; clear hnm
    have HC : Hid (ckNd (.mk 5 ⟨[], 0, 0, 0, [], false⟩ f no ks) = ckKids ks) := qh (by
     simp only [ckNd]; rw [if_neg (by omega), if_neg (by simp [leafK]), if_neg (by simp [At.zero]), if_neg (by simp), if_neg (by simp [hn]), if_neg (by simp [leafK])])
    clear h1 h2 h3 hn
    have HW := qh (Whole.new w _ 99 [.int .i64 5, .string ⟨#[]⟩, .int .i64 0, .int .i64 0, .int .i64 0, .string ⟨#[]⟩, .bool false, .string ⟨f.toArray⟩, .bool no, .slice A n c] rfl)
    go_enter Tryz.func152, Tryz.ntmps152
    go_wp2_with (first | (go_at_call 104; refine (Hnm.out _).mono ?_; rintro e w1 ⟨rfl, hb1⟩; refine Hid.out ?_))
    refine qh ?_
    replace HB := qh (HB.out.trans (hb1.mono HB.out.size))
    have q9 := (HW.out.below hb1 HW.out.lt).cell 9
    simp only [qgz, qgs] at q9
    clear hb1 HW
    go_wp2
    go_loopg [70] n (fun g iv wr => ∃ (j : Nat), Hid (j + g = n) ∧ iv = .int .i64 j ∧ Hid (ckKids ks = ckKids (ks.drop j)) ∧ Below w.heap.size w wr)
    case atStart => exact ⟨0, qh (Nat.zero_add _), rfl, qh rfl, HB.out⟩
    case round =>
     obtain ⟨j, Hj, rfl, Hcl, hb⟩ := hrel
     have HBr := qh hb; clear hb
     by_cases hj : j < n
     ·obtain ⟨b, o, x, y, rfl, hb, hy, hxy, hcell⟩ := (HK.out.under HBr.out HS.out).at_ hj
      have Hdr := qh (drop_step hy)
      have hmem := List.mem_of_getElem? hy
      obtain ⟨yk, ya, yf, yn, yks⟩ := y
      obtain ⟨A', n', c', rfl, -⟩ := hxy.open_
      have g0 := hcell 0 (by omega); have g1 := hcell 1 (by omega); have g2 := hcell 2 (by omega); have g3 := hcell 3 (by omega); have g4 := hcell 4 (by omega)
      have g5 := hcell 5 (by omega); have g6 := hcell 6 (by omega); have g7 := hcell 7 (by omega); have g8 := hcell 8 (by omega); have g9 := hcell 9 (by omega)
      clear hcell
      unfold ndRow at g0 g1 g2 g3 g4 g5 g6 g7 g8 g9
      simp only [qgz, qgs, Nat.add_zero] at g0 g1 g2 g3 g4 g5 g6 g7 g8 g9
      clear hy
      have hxy2 := (hxy.under (Below.refl _ wr |>.alloc (qr _) (.cells #[.int .i64 yk, .string ⟨ya.nm.toArray⟩, .int .i64 ya.op, .int .i64 ya.ver, .int .i64 ya.slot, .string ⟨ya.fl.toArray⟩, .bool ya.on, .string ⟨yf.toArray⟩, .bool yn, .slice A' n' c'] 99)) fun q hq => ql (HS.out q hq) HBr.out.size)
      clear hxy
      have hcall := HI.out _ hmem S _ _ hxy2 (fun q hq => by have := HS.out q hq; have := HBr.out.size; simp; omega)
      unfold ndRow at hcall
      have HX : Hid (ckKids (ks.drop j) = if ckNd (.mk yk ya yf yn yks) = 0 then ckKids (ks.drop (j + 1)) else ckNd (.mk yk ya yf yn yks)) := qh (by rw [Hdr.out]; simp only [ckKids])
      generalize hq : ckNd (.mk yk ya yf yn yks) = q at hcall HX
      have HBn := qh (HBr.out.alloc HBr.out.size (.cells #[.int .i64 yk, .string ⟨ya.nm.toArray⟩, .int .i64 ya.op, .int .i64 ya.ver, .int .i64 ya.slot, .string ⟨ya.fl.toArray⟩, .bool ya.on, .string ⟨yf.toArray⟩, .bool yn, .slice A' n' c'] 99))
      clear hq hxy2
      have Hcall := qh hcall; clear hcall
      by_cases h0 : q = 0
      ·subst h0
       go_wp2_with fail
       refine Hcall.out.mono ?_
       rintro e w' ⟨rfl, hb'⟩
       have HB' := qh (HBn.out.trans (hb'.mono HBn.out.size)); clear hb'
       go_wp2_with fail
       go_roundg (gk - 1)
       case measure => have := Hj.out; omega
       case rel => exact ⟨j + 1, qh (by have := Hj.out; omega), by go_num, qh (by rw [Hcl.out, HX.out]; simp), HB'.out⟩
      ·have h1 : (q != 0) = true := by simpa using h0
       have H0 := qh h0; clear h0
       go_wp2_with fail
       refine Hcall.out.mono ?_
       rintro e w' ⟨rfl, hb'⟩
       have HB' := qh (HBn.out.trans (hb'.mono HBn.out.size)); clear hb'
       go_wp2_with fail
       go_ret
       exact ⟨ret_int (by rw [HC.out, Hcl.out, HX.out, if_neg H0.out]), HB'.out⟩
     ·go_wp2_with fail
      go_ret
      refine ⟨ret_int ?_, HBr.out⟩
      rw [HC.out, Hcl.out, List.drop_of_length_le (by have := HK.out.len; omega)]; rfl
  ·exact ncheck_bad nm fl f op ver slot 5 on no A n c ks w (by decide) (by decide) ha
end
end Go.Proofs.YtedbhlgjcnnknaaGreatDoor
