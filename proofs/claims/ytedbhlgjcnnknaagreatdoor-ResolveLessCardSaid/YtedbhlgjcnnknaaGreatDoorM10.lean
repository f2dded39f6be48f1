/- Parts of the proof: walks and plain laws, side by side. -/
import Derived.Test.YtedbhlgjcnnknaaGreatDoorProg
import Derived.Test.YtedbhlgjcnnknaaGreatDoorM1
import Derived.Lib.ConvBytes
import Derived.Lib.AtoiErrMem
import Derived.Lib.Strings
import Derived.Test.YtedbhlgjcnnknaaGreatDoorM9
import Derived.Test.YtedbhlgjcnnknaaGreatDoorShelf
import Derived.Deep.QuietTactic
import Derived.BigQuiet
import Derived.Deep.RegionHeld3
import Derived.Deep.DeepCutAuto
import Derived.Test.YtedbhlgjcnnknaaGreatDoorM6
import Derived.Deep.CutBlock
set_option linter.unusedVariables false
set_option linter.unusedSimpArgs false
set_option linter.unusedSectionVars false
namespace Go.Proofs.YtedbhlgjcnnknaaGreatDoor
/- atom.Name, walked. -/
section
open Go.RowKit Qm

theorem okFrom_drop {l : List UInt8} {k : Nat} (h : k < l.length) : okFrom k (l.drop k) = (okAt k (l.getD k 0) && okFrom (k + 1) (l.drop (k + 1))) := by
 rw [List.drop_eq_getElem_cons h, okFrom]
 simp [List.getD, h]

theorem okAt_low {k : Nat} {c : UInt8} (h1 : 97 ≤ c.toNat) (h2 : c.toNat ≤ 122) : okAt k c = true := by simp [okAt, lowB, h1, h2]
theorem okAt_dig {k : Nat} {c : UInt8} (h0 : 0 < k) (h1 : 48 ≤ c.toNat) (h2 : c.toNat ≤ 57) : okAt k c = true := by simp [okAt, digB, h0, h1, h2]
theorem okAt_not {k : Nat} {c : UInt8} (h1 : c.toNat < 97 ∨ 122 < c.toNat) (h2 : k = 0 ∨ c.toNat < 48 ∨ 57 < c.toNat) : okAt k c = false := by
 simp only [okAt, lowB, digB, Bool.or_eq_false_iff, Bool.and_eq_false_iff, decide_eq_false_iff_not]
 omega

set_option maxHeartbeats 1600000 in
theorem name_any (s : ByteArray) (w : World) (hs : s.size ≤ maxLen) :
  Calls Tryz.prog 104 #[.string s] w fun e w' => e = .returned (.bool (isName s.data.toList)) ∧ Below w.heap.size w w' := by
 unfold maxLen at hs
 have HL := qh (Lib.size_eq s).symm
 by_cases h0 : s.size = 0
 ·have hz : s = ⟨#[]⟩ := by
   obtain ⟨⟨l⟩⟩ := s
   have : l.length = 0 := h0
   cases l
   ·rfl
   ·simp at this
  subst hz
  go_enter Tryz.func104, Tryz.ntmps104
  go_wp2
  go_ret
  exact ⟨rfl, Below.refl _ _⟩
 ·have hne : s.toList.isEmpty = false := by
   have := HL.out
   rw [Lib.toList_data]
   cases e : s.data.toList
   ·rw [e] at this; simp at this; omega
   ·rfl
  by_cases h8 : 8 < s.size
  ·have h8' : (8 : Int) < (s.size : Int) := by omega
   go_enter Tryz.func104, Tryz.ntmps104
   go_wp2
   go_ret
   refine ⟨?_, Below.refl _ _⟩
   have : isName s.data.toList = false := by
    have := HL.out
    unfold isName
    rw [decide_eq_false (by omega)]; rfl
   rw [this]; rfl
  ·have h8' : decide ((8 : Int) < (s.size : Int)) = false := by simp; omega
   have hcv := Lib.run_convert_string_bytes (P := Tryz.prog) w 9 173 5 s Tryz.underlying9 Tryz.underlying173 Tryz.underlying5
   have hcell : ∀ k, k < s.size → (Lib.bytesWorld w 5 s).cell? ⟨w.heap.size, k, none⟩ = some (.int .u8 (s.data.toList.getD k 0).toNat) := fun k hk => Lib.bytesWorld_cell w 5 s k hk
   have hbw := Lib.bytesWorld_below w 5 s
   have HB := qh hbw; clear hbw
   generalize Lib.bytesWorld w 5 s = W1 at hcv hcell HB
   have HC := qh hcell; clear hcell
   go_enter Tryz.func104, Tryz.ntmps104
   go_wp2
   clear hcv
   go_loop [15] (fun i => ∃ k : Nat, k ≤ s.size ∧ i = .int .i64 k ∧ okFrom 0 s.data.toList = okFrom k (s.data.toList.drop k)) (fun i => s.size - (intOf i).toNat)
   case atStart => exact ⟨0, Nat.zero_le _, rfl, rfl⟩
   case round =>
    obtain ⟨k, hk, rfl, hok⟩ := hrel
    have Hok := qh hok; clear hok
    by_cases hlt : k < s.size
    ·have hc := HC.out k hlt
     have HS := qh (okFrom_drop (l := s.data.toList) (k := k) (by have := HL.out; omega))
     generalize s.data.toList.getD k 0 = c at hc HS
     have no : okAt k c = false → isName s.data.toList = false := by
      intro h
      unfold isName
      rw [Hok.out, HS.out, h, Bool.false_and, Bool.and_false]
     have yes : okAt k c = true → okFrom 0 s.data.toList = okFrom (k + 1) (s.data.toList.drop (k + 1)) := by
      intro h
      rw [Hok.out, HS.out, h, Bool.true_and]
     have No := qh no; clear no
     have Yes := qh yes; clear yes
     by_cases a1 : c.toNat < 97
     ·have b1 : (c.toNat : Int) < 97 := by omega
      by_cases k0 : k = 0
      ·subst k0
       go_wp2
       go_ret
       refine ⟨?_, HB.out⟩
       rw [No.out (okAt_not (by omega) (by omega))]; rfl
      ·have bk : ((k : Int) == 0) = false := by simp; omega
       by_cases a3 : c.toNat < 48
       ·have b3 : (c.toNat : Int) < 48 := by omega
        go_wp2
        go_ret
        refine ⟨?_, HB.out⟩
        rw [No.out (okAt_not (by omega) (by omega))]; rfl
       ·have b3 : decide ((c.toNat : Int) < 48) = false := by simp; omega
        by_cases a4 : 57 < c.toNat
        ·have b4 : 57 < (c.toNat : Int) := by omega
         go_wp2
         go_ret
         refine ⟨?_, HB.out⟩
         rw [No.out (okAt_not (by omega) (by omega))]; rfl
        ·have b4 : decide (57 < (c.toNat : Int)) = false := by simp; omega
         go_wp2
         go_round
         case rel => exact ⟨k + 1, by omega, by go_num, Yes.out (okAt_dig (by omega) (by omega) (by omega))⟩
         case measure => simp [intOf]; omega
     ·have b1 : decide ((c.toNat : Int) < 97) = false := by simp; omega
      by_cases a2 : 122 < c.toNat
      ·have b2 : 122 < (c.toNat : Int) := by omega
       by_cases k0 : k = 0
       ·subst k0
        go_wp2
        go_ret
        refine ⟨?_, HB.out⟩
        rw [No.out (okAt_not (by omega) (by omega))]; rfl
       ·have bk : ((k : Int) == 0) = false := by simp; omega
        have b3 : decide ((c.toNat : Int) < 48) = false := by simp; omega
        have b4 : 57 < (c.toNat : Int) := by omega
        go_wp2
        go_ret
        refine ⟨?_, HB.out⟩
        rw [No.out (okAt_not (by omega) (by omega))]; rfl
      ·have b2 : decide (122 < (c.toNat : Int)) = false := by simp; omega
       go_wp2
       go_round
       case rel => exact ⟨k + 1, by omega, by go_num, Yes.out (okAt_low (by omega) (by omega))⟩
       case measure => simp [intOf]; omega
    ·go_wp2
     go_ret
     refine ⟨?_, HB.out⟩
     have e : okFrom 0 s.data.toList = true := by
      rw [Hok.out, List.drop_of_length_le (by have := HL.out; omega)]; rfl
     have : isName s.data.toList = true := by
      unfold isName
      have := HL.out
      rw [e, decide_eq_true (by omega)]; rfl
     rw [this]; rfl
end
/- atom.Check, walked. -/
section
open Go.RowKit Qm

def atv (s : ByteArray) (op ver slot : Int) (f : ByteArray) (on : Bool) : Value := .agg #[.string s, .int .i64 op, .int .i64 ver, .int .i64 slot, .string f, .bool on]
def atOf (s : ByteArray) (op ver slot : Int) (f : ByteArray) (on : Bool) : At := ⟨s.data.toList, op, ver, slot, f.data.toList, on⟩

theorem box_cell {w w1 : World} {cs : Array Value} {t : TypeId} (h : Below (w.alloc (.cells cs t)).heap.size (w.alloc (.cells cs t)) w1) {i : Nat} {v : Value} (hv : cs[i]? = some v) : w1.cell? ⟨w.heap.size, i, none⟩ = some v := by
 rw [h.cell (by simp)]
 simp [World.cell?, World.alloc, -World.alloc_eq, hv]

theorem empty_spell {f : ByteArray} (h : f.data.toList = []) : f.toList.isEmpty = true ∧ (!f.toList.isEmpty) = false := by
 rw [Lib.toList_data, h]; exact ⟨rfl, rfl⟩
theorem full_spell {f : ByteArray} (h : f.data.toList ≠ []) : f.toList.isEmpty = false ∧ (!f.toList.isEmpty) = true := by
 rw [Lib.toList_data]
 cases e : f.data.toList
 ·exact absurd e h
 ·exact ⟨rfl, rfl⟩

theorem ck1 {a : At} (h : isName a.nm = false ∨ a.fl ≠ [] ∧ isName a.fl = false) : ckAtom a = 1 := by unfold ckAtom; rw [if_pos h]
theorem ck3 {a : At} (h : ¬ (isName a.nm = false ∨ a.fl ≠ [] ∧ isName a.fl = false)) (h2 : (a.op < 0 ∨ 3 < a.op ∨ a.slot < 0 ∨ 9 < a.slot) ∨ (a.op = 0 ∧ a.ver ≠ 0 ∨ a.op ≠ 0 ∧ (a.ver < 1 ∨ 99 < a.ver))) : ckAtom a = 3 := by
 unfold ckAtom
 rw [if_neg h]
 split
 ·rfl
 ·rename_i h3
  rw [if_pos (by omega)]
theorem ck4 {a : At} (h : ¬ (isName a.nm = false ∨ a.fl ≠ [] ∧ isName a.fl = false)) (h2 : ¬ ((a.op < 0 ∨ 3 < a.op ∨ a.slot < 0 ∨ 9 < a.slot) ∨ (a.op = 0 ∧ a.ver ≠ 0 ∨ a.op ≠ 0 ∧ (a.ver < 1 ∨ 99 < a.ver)))) : ckAtom a = if a.fl = [] ∧ a.on = true then 4 else 0 := by
 unfold ckAtom
 rw [if_neg h, if_neg (by omega), if_neg (by omega)]

set_option maxHeartbeats 3200000 in
theorem check_any (s f : ByteArray) (op ver slot : Int) (on : Bool) (w : World) (hs : s.size ≤ maxLen) (hf : f.size ≤ maxLen) :
  Calls Tryz.prog 75 #[atv s op ver slot f on] w fun e w' => e = .returned (.int .i64 (ckAtom (atOf s op ver slot f on))) ∧ Below w.heap.size w w' := by
 unfold atv
 have ba : Below w.heap.size w (w.alloc (.cells #[.string s, .int .i64 op, .int .i64 ver, .int .i64 slot, .string f, .bool on] 75)) := (Below.refl _ w).alloc (qr _) _
 have Ba := qh ba; clear ba
 cases hn : isName s.data.toList
 ·skip
  go_enter Tryz.func75, Tryz.ntmps75
  go_wp2_with (first
   | (go_at_call 104; refine (name_any _ _ hs).mono ?_; rintro e w1 ⟨rfl, hb1⟩; have c0 := box_cell hb1 (i := 0) rfl; have c1 := box_cell hb1 (i := 1) rfl; have c2 := box_cell hb1 (i := 2) rfl; have c3 := box_cell hb1 (i := 3) rfl; have c4 := box_cell hb1 (i := 4) rfl; have c5 := box_cell hb1 (i := 5) rfl; refine Hid.out ?_))
  refine qh ?_
  have HB := qh (Ba.out.trans (hb1.mono (by simp)))
  clear hb1
  go_wp2
  go_ret
  exact ⟨ret_int (ck1 (a := atOf s op ver slot f on) (.inl hn)).symm, HB.out⟩
 ·by_cases h0 : f.data.toList = []
  ·obtain ⟨e1, e2⟩ := empty_spell h0
   go_enter Tryz.func75, Tryz.ntmps75
   go_wp2_with (first
    | (go_at_call 104; refine (name_any _ _ hs).mono ?_; rintro e w1 ⟨rfl, hb1⟩; have c0 := box_cell hb1 (i := 0) rfl; have c1 := box_cell hb1 (i := 1) rfl; have c2 := box_cell hb1 (i := 2) rfl; have c3 := box_cell hb1 (i := 3) rfl; have c4 := box_cell hb1 (i := 4) rfl; have c5 := box_cell hb1 (i := 5) rfl; refine Hid.out ?_))
   refine qh ?_
   have HB := qh (Ba.out.trans (hb1.mono (by simp)))
   clear hb1
   have H0 := qh h0
   have HG := qh (show ¬ (isName (atOf s op ver slot f on).nm = false ∨ (atOf s op ver slot f on).fl ≠ [] ∧ isName (atOf s op ver slot f on).fl = false) by simp [atOf, hn, h0])
   clear h0
   by_cases o1 : op < 0
   ·
    go_wp2
    go_ret
    exact ⟨ret_int (ck3 (a := atOf s _ _ slot f on) HG.out (by show _ ∨ _; simp only [atOf]; first | omega | exact .inr (.inl ⟨trivial, ‹_›⟩))).symm, HB.out⟩
   have o1' : decide (op < 0) = false := by simpa using o1
   by_cases o2 : 3 < op
   ·
    go_wp2
    go_ret
    exact ⟨ret_int (ck3 (a := atOf s _ _ slot f on) HG.out (by show _ ∨ _; simp only [atOf]; first | omega | exact .inr (.inl ⟨trivial, ‹_›⟩))).symm, HB.out⟩
   have o2' : decide (3 < op) = false := by simpa using o2
   by_cases s1 : slot < 0
   ·
    go_wp2
    go_ret
    exact ⟨ret_int (ck3 (a := atOf s _ _ slot f on) HG.out (by show _ ∨ _; simp only [atOf]; first | omega | exact .inr (.inl ⟨trivial, ‹_›⟩))).symm, HB.out⟩
   have s1' : decide (slot < 0) = false := by simpa using s1
   by_cases s2 : 9 < slot
   ·
    go_wp2
    go_ret
    exact ⟨ret_int (ck3 (a := atOf s _ _ slot f on) HG.out (by show _ ∨ _; simp only [atOf]; first | omega | exact .inr (.inl ⟨trivial, ‹_›⟩))).symm, HB.out⟩
   have s2' : decide (9 < slot) = false := by simpa using s2
   by_cases z : op = 0
   ·
    subst z
    by_cases v : ver = 0
    ·
     subst v
     cases on
     ·
      go_wp2
      go_ret
      exact ⟨ret_int (by rw [ck4 (a := atOf s _ _ slot f false) HG.out (by simp only [atOf]; omega)]; simp [atOf]), HB.out⟩
     ·
      go_wp2
      go_ret
      exact ⟨ret_int (by rw [ck4 (a := atOf s _ _ slot f true) HG.out (by simp only [atOf]; omega)]; simp [atOf, H0.out]), HB.out⟩
    ·
     have v1 : (ver == 0) = false := by simpa using v
     have v2 : (ver != 0) = true := by simpa using v
     go_wp2
     go_ret
     exact ⟨ret_int (ck3 (a := atOf s _ _ slot f on) HG.out (by show _ ∨ _; simp only [atOf]; first | omega | exact .inr (.inl ⟨trivial, ‹_›⟩))).symm, HB.out⟩
   ·
    have z1 : (op == 0) = false := by simpa using z
    have z2 : (op != 0) = true := by simpa using z
    by_cases v1 : ver < 1
    ·
     go_wp2
     go_ret
     exact ⟨ret_int (ck3 (a := atOf s _ _ slot f on) HG.out (by show _ ∨ _; simp only [atOf]; first | omega | exact .inr (.inl ⟨trivial, ‹_›⟩))).symm, HB.out⟩
    have v1' : decide (ver < 1) = false := by simpa using v1
    by_cases v2 : 99 < ver
    ·
     go_wp2
     go_ret
     exact ⟨ret_int (ck3 (a := atOf s _ _ slot f on) HG.out (by show _ ∨ _; simp only [atOf]; first | omega | exact .inr (.inl ⟨trivial, ‹_›⟩))).symm, HB.out⟩
    have v2' : decide (99 < ver) = false := by simpa using v2
    cases on
    ·
     go_wp2
     go_ret
     exact ⟨ret_int (by rw [ck4 (a := atOf s _ _ slot f false) HG.out (by simp only [atOf]; omega)]; simp [atOf]), HB.out⟩
    ·
     go_wp2
     go_ret
     exact ⟨ret_int (by rw [ck4 (a := atOf s _ _ slot f true) HG.out (by simp only [atOf]; omega)]; simp [atOf, H0.out]), HB.out⟩
  ·obtain ⟨e1, e2⟩ := full_spell h0
   cases hn2 : isName f.data.toList
   ·skip
    go_enter Tryz.func75, Tryz.ntmps75
    go_wp2_with (first
     | (go_at_call 104; refine (name_any _ _ hs).mono ?_; rintro e w1 ⟨rfl, hb1⟩; have c0 := box_cell hb1 (i := 0) rfl; have c1 := box_cell hb1 (i := 1) rfl; have c2 := box_cell hb1 (i := 2) rfl; have c3 := box_cell hb1 (i := 3) rfl; have c4 := box_cell hb1 (i := 4) rfl; have c5 := box_cell hb1 (i := 5) rfl; refine Hid.out ?_))
    refine qh ?_
    go_wp2_with (first
     | (go_at_call 104; refine (name_any _ _ hf).mono ?_; rintro e w2 ⟨rfl, hb2⟩; replace c0 := (hb2.cell (World.block_lt_of_cell? _ _ c0)).trans c0; replace c1 := (hb2.cell (World.block_lt_of_cell? _ _ c1)).trans c1; replace c2 := (hb2.cell (World.block_lt_of_cell? _ _ c2)).trans c2; replace c3 := (hb2.cell (World.block_lt_of_cell? _ _ c3)).trans c3; replace c4 := (hb2.cell (World.block_lt_of_cell? _ _ c4)).trans c4; replace c5 := (hb2.cell (World.block_lt_of_cell? _ _ c5)).trans c5; refine Hid.out ?_))
    refine qh ?_
    have HB := qh (Ba.out.trans ((hb1.mono (by simp)).trans (hb2.mono (Nat.le_trans (by simp) hb1.size))))
    clear hb1 hb2
    go_wp2
    go_ret
    exact ⟨ret_int (ck1 (a := atOf s op ver slot f on) (.inr ⟨h0, hn2⟩)).symm, HB.out⟩
   ·skip
    go_enter Tryz.func75, Tryz.ntmps75
    go_wp2_with (first
     | (go_at_call 104; refine (name_any _ _ hs).mono ?_; rintro e w1 ⟨rfl, hb1⟩; have c0 := box_cell hb1 (i := 0) rfl; have c1 := box_cell hb1 (i := 1) rfl; have c2 := box_cell hb1 (i := 2) rfl; have c3 := box_cell hb1 (i := 3) rfl; have c4 := box_cell hb1 (i := 4) rfl; have c5 := box_cell hb1 (i := 5) rfl; refine Hid.out ?_))
    refine qh ?_
    go_wp2_with (first
     | (go_at_call 104; refine (name_any _ _ hf).mono ?_; rintro e w2 ⟨rfl, hb2⟩; replace c0 := (hb2.cell (World.block_lt_of_cell? _ _ c0)).trans c0; replace c1 := (hb2.cell (World.block_lt_of_cell? _ _ c1)).trans c1; replace c2 := (hb2.cell (World.block_lt_of_cell? _ _ c2)).trans c2; replace c3 := (hb2.cell (World.block_lt_of_cell? _ _ c3)).trans c3; replace c4 := (hb2.cell (World.block_lt_of_cell? _ _ c4)).trans c4; replace c5 := (hb2.cell (World.block_lt_of_cell? _ _ c5)).trans c5; refine Hid.out ?_))
    refine qh ?_
    have HB := qh (Ba.out.trans ((hb1.mono (by simp)).trans (hb2.mono (Nat.le_trans (by simp) hb1.size))))
    clear hb1 hb2
    have H0 := qh h0
    have HG := qh (show ¬ (isName (atOf s op ver slot f on).nm = false ∨ (atOf s op ver slot f on).fl ≠ [] ∧ isName (atOf s op ver slot f on).fl = false) by simp [atOf, hn, hn2])
    clear h0
    by_cases o1 : op < 0
    ·
     go_wp2
     go_ret
     exact ⟨ret_int (ck3 (a := atOf s _ _ slot f on) HG.out (by show _ ∨ _; simp only [atOf]; first | omega | exact .inr (.inl ⟨trivial, ‹_›⟩))).symm, HB.out⟩
    have o1' : decide (op < 0) = false := by simpa using o1
    by_cases o2 : 3 < op
    ·
     go_wp2
     go_ret
     exact ⟨ret_int (ck3 (a := atOf s _ _ slot f on) HG.out (by show _ ∨ _; simp only [atOf]; first | omega | exact .inr (.inl ⟨trivial, ‹_›⟩))).symm, HB.out⟩
    have o2' : decide (3 < op) = false := by simpa using o2
    by_cases s1 : slot < 0
    ·
     go_wp2
     go_ret
     exact ⟨ret_int (ck3 (a := atOf s _ _ slot f on) HG.out (by show _ ∨ _; simp only [atOf]; first | omega | exact .inr (.inl ⟨trivial, ‹_›⟩))).symm, HB.out⟩
    have s1' : decide (slot < 0) = false := by simpa using s1
    by_cases s2 : 9 < slot
    ·
     go_wp2
     go_ret
     exact ⟨ret_int (ck3 (a := atOf s _ _ slot f on) HG.out (by show _ ∨ _; simp only [atOf]; first | omega | exact .inr (.inl ⟨trivial, ‹_›⟩))).symm, HB.out⟩
    have s2' : decide (9 < slot) = false := by simpa using s2
    by_cases z : op = 0
    ·
     subst z
     by_cases v : ver = 0
     ·
      subst v
      go_wp2
      go_ret
      exact ⟨ret_int (by rw [ck4 (a := atOf s _ _ slot f on) HG.out (by simp only [atOf]; omega)]; simp [atOf, H0.out]), HB.out⟩
     ·
      have v1 : (ver == 0) = false := by simpa using v
      have v2 : (ver != 0) = true := by simpa using v
      go_wp2
      go_ret
      exact ⟨ret_int (ck3 (a := atOf s _ _ slot f on) HG.out (by show _ ∨ _; simp only [atOf]; first | omega | exact .inr (.inl ⟨trivial, ‹_›⟩))).symm, HB.out⟩
    ·
     have z1 : (op == 0) = false := by simpa using z
     have z2 : (op != 0) = true := by simpa using z
     by_cases v1 : ver < 1
     ·
      go_wp2
      go_ret
      exact ⟨ret_int (ck3 (a := atOf s _ _ slot f on) HG.out (by show _ ∨ _; simp only [atOf]; first | omega | exact .inr (.inl ⟨trivial, ‹_›⟩))).symm, HB.out⟩
     have v1' : decide (ver < 1) = false := by simpa using v1
     by_cases v2 : 99 < ver
     ·
      go_wp2
      go_ret
      exact ⟨ret_int (ck3 (a := atOf s _ _ slot f on) HG.out (by show _ ∨ _; simp only [atOf]; first | omega | exact .inr (.inl ⟨trivial, ‹_›⟩))).symm, HB.out⟩
     have v2' : decide (99 < ver) = false := by simpa using v2
     go_wp2
     go_ret
     exact ⟨ret_int (by rw [ck4 (a := atOf s _ _ slot f on) HG.out (by simp only [atOf]; omega)]; simp [atOf, H0.out]), HB.out⟩
end
/- need.check and need.Check, walked. -/
section
open Go.RowKit Qm

theorem atOf_mk (x : At) : atOf ⟨x.nm.toArray⟩ x.op x.ver x.slot ⟨x.fl.toArray⟩ x.on = x := by
 cases x; simp [atOf]
theorem bsz (l : Qm.W) : (⟨l.toArray⟩ : ByteArray).size = l.length := by simp [ByteArray.size]

set_option maxRecDepth 100000 in
set_option maxHeartbeats 3200000 in
theorem ncheck_bad (nm fl f : Qm.W) (op ver slot k : Int) (on no : Bool) (A : Option Addr) (n c : Nat) (ks : List Nd) (w : World) (k1 : 3 ≤ k) (k2 : k ≤ 5) (ha : ¬ (nm = [] ∧ op = 0 ∧ ver = 0 ∧ slot = 0 ∧ fl = [] ∧ on = false)) :
  Calls Tryz.prog 152 #[.agg (ndRow k ⟨nm, op, ver, slot, fl, on⟩ f no A n c).toArray] w fun e w' => e = .returned (.int .i64 (ckNd (.mk k ⟨nm, op, ver, slot, fl, on⟩ f no ks))) ∧ Below w.heap.size w w' := by
 unfold ndRow
 have HC : Hid (ckNd (.mk k ⟨nm, op, ver, slot, fl, on⟩ f no ks) = 4) := qh (by
  have hl : leafK k = false := by simp [leafK]; omega
  simp only [ckNd]; rw [if_neg (by omega), if_neg (by simp [hl]), if_pos ⟨hl, by simpa [At.zero] using ha⟩])
 have e1 : (k == 1) = false := by simp; omega
 have e2 : (k == 2) = false := by simp; omega
 have e3 : decide (k < 1) = false := by simp; omega
 have e4 : decide (5 < k) = false := by simp; omega
 have HB := qh ((Below.refl _ w).alloc (qr _) (.cells #[.int .i64 k, .string ⟨nm.toArray⟩, .int .i64 op, .int .i64 ver, .int .i64 slot, .string ⟨fl.toArray⟩, .bool on, .string ⟨f.toArray⟩, .bool no, .slice A n c] 99))
 by_cases c1 : nm = []
 ·subst c1
  by_cases c2 : op = 0
  ·subst c2
   by_cases c3 : ver = 0
   ·subst c3
    by_cases c4 : slot = 0
    ·subst c4
     by_cases c5 : fl = []
     ·subst c5
      cases on
      ·exact absurd ⟨rfl, rfl, rfl, rfl, rfl, rfl⟩ ha
      ·clear ha
       go_enter Tryz.func152, Tryz.ntmps152
       go_wp2
       go_ret
       exact ⟨ret_int HC.out.symm, HB.out⟩
     ·clear ha
      go_enter Tryz.func152, Tryz.ntmps152
      go_wp2
      go_ret
      exact ⟨ret_int HC.out.symm, HB.out⟩
    ·clear ha
     go_enter Tryz.func152, Tryz.ntmps152
     go_wp2
     go_ret
     exact ⟨ret_int HC.out.symm, HB.out⟩
   ·clear ha
    go_enter Tryz.func152, Tryz.ntmps152
    go_wp2
    go_ret
    exact ⟨ret_int HC.out.symm, HB.out⟩
  ·clear ha
   go_enter Tryz.func152, Tryz.ntmps152
   go_wp2
   go_ret
   exact ⟨ret_int HC.out.symm, HB.out⟩
 ·clear ha
  go_enter Tryz.func152, Tryz.ntmps152
  go_wp2
  go_ret
  exact ⟨ret_int HC.out.symm, HB.out⟩

set_option maxRecDepth 100000 in
set_option maxHeartbeats 3200000 in
theorem ncheck_any : ∀ (y : Nd) (S : Nat → Prop) (x : List Value) (w : World), RNd w S x y → (∀ k, S k → k < w.heap.size) →
  Calls Tryz.prog 152 #[.agg x.toArray] w fun e w' => e = .returned (.int .i64 (ckNd y)) ∧ Below w.heap.size w w' := by
 refine Nd.ind fun k a f no ks ih => ?_
 intro S x w hR hS
 have HI := qh ih; clear ih
 obtain ⟨A, n, c, rfl, hnc, hc, h1, h2, h3, hK⟩ := hR.open_
 clear hR
 have HS := qh hS; clear hS
 have HK := qh hK; clear hK
 unfold maxLen at hc
 obtain ⟨nm, op, ver, slot, fl, on⟩ := a
 unfold ndRow
 simp only [] at h1 h2 ⊢
 have HB := qh ((Below.refl _ w).alloc (qr _) (.cells #[.int .i64 k, .string ⟨nm.toArray⟩, .int .i64 op, .int .i64 ver, .int .i64 slot, .string ⟨fl.toArray⟩, .bool on, .string ⟨f.toArray⟩, .bool no, .slice A n c] 99))
 by_cases k1 : k < 1
 ·have HC : Hid (ckNd (.mk k ⟨nm, op, ver, slot, fl, on⟩ f no ks) = 4) := qh (by simp only [ckNd]; rw [if_pos (.inl k1)])
  have e1 : (k == 1) = false := by simp; omega
  have e2 : (k == 2) = false := by simp; omega
  go_enter Tryz.func152, Tryz.ntmps152
  go_wp2
  go_ret
  exact ⟨ret_int HC.out.symm, HB.out⟩
 by_cases k5 : 5 < k
 ·have HC : Hid (ckNd (.mk k ⟨nm, op, ver, slot, fl, on⟩ f no ks) = 4) := qh (by simp only [ckNd]; rw [if_pos (.inr k5)])
  have e1 : (k == 1) = false := by simp; omega
  have e2 : (k == 2) = false := by simp; omega
  go_enter Tryz.func152, Tryz.ntmps152
  go_wp2
  go_ret
  exact ⟨ret_int HC.out.symm, HB.out⟩
 rcases (show k = 1 ∨ k = 2 ∨ k = 3 ∨ k = 4 ∨ k = 5 by omega) with rfl | rfl | rfl | rfl | rfl
 ·clear k1 k5
  by_cases hn : 0 < n
  ·have HC : Hid (ckNd (.mk 1 ⟨nm, op, ver, slot, fl, on⟩ f no ks) = 4) := qh (by
    have := HK.out.len
    simp only [ckNd]; rw [if_neg (by omega), if_pos ⟨rfl, by omega⟩])
   have hn' : (0 : Int) < (n : Int) := by omega
   go_enter Tryz.func152, Tryz.ntmps152
   go_wp2
   go_ret
   exact ⟨ret_int HC.out.symm, HB.out⟩
  ·obtain rfl : n = 0 := by omega
   by_cases hf : f = [] ∧ no = false
   ·obtain ⟨rfl, rfl⟩ := hf
    have HC : Hid (ckNd (.mk 1 ⟨nm, op, ver, slot, fl, on⟩ [] false ks) = ckAtom ⟨nm, op, ver, slot, fl, on⟩) := qh (by
     have := HK.out.len
     simp only [ckNd]; rw [if_neg (by omega), if_neg (by simp [this]), if_neg (by simp [leafK]), if_neg (by simp), if_neg (by simp), if_pos (by rfl)])
    have hck := fun wx => check_any ⟨nm.toArray⟩ ⟨fl.toArray⟩ op ver slot on wx (by rw [bsz]; exact h1) (by rw [bsz]; exact h2)
    rw [show atOf ⟨nm.toArray⟩ op ver slot ⟨fl.toArray⟩ on = ⟨nm, op, ver, slot, fl, on⟩ from by simp [atOf]] at hck
    unfold atv at hck
    have Hck := qh hck; clear hck
    clear h1 h2 h3
    go_enter Tryz.func152, Tryz.ntmps152
    go_wp2_with (first | (go_at_call 75; refine (Hck.out _).mono ?_; rintro e w1 ⟨rfl, hb1⟩; refine Hid.out ?_))
    refine qh ?_
    have HB1 := qh (HB.out.trans (hb1.mono HB.out.size)); clear hb1
    go_wp2
    go_ret
    exact ⟨ret_int HC.out.symm, HB1.out⟩
   ·have HC : Hid (ckNd (.mk 1 ⟨nm, op, ver, slot, fl, on⟩ f no ks) = 4) := qh (by
     have := HK.out.len
     simp only [ckNd]; rw [if_neg (by omega), if_neg (by simp [this]), if_neg (by simp [leafK]), if_pos ⟨by omega, by cases no <;> simp_all⟩])
    by_cases hf0 : f = []
    ·subst hf0
     cases no
     ·exact absurd ⟨rfl, rfl⟩ hf
     ·clear hf
      go_enter Tryz.func152, Tryz.ntmps152
      go_wp2
      go_ret
      exact ⟨ret_int HC.out.symm, HB.out⟩
    ·clear hf
     go_enter Tryz.func152, Tryz.ntmps152
     go_wp2
     go_ret
     exact ⟨ret_int HC.out.symm, HB.out⟩
 ·clear k1 k5
  by_cases hn : 0 < n
  ·have HC : Hid (ckNd (.mk 2 ⟨nm, op, ver, slot, fl, on⟩ f no ks) = 4) := qh (by
    have := HK.out.len
    simp only [ckNd]; rw [if_neg (by omega), if_pos ⟨rfl, by omega⟩])
   have hn' : (0 : Int) < (n : Int) := by omega
   go_enter Tryz.func152, Tryz.ntmps152
   go_wp2
   go_ret
   exact ⟨ret_int HC.out.symm, HB.out⟩
  ·obtain rfl : n = 0 := by omega
   by_cases hf : f = [] ∧ no = false
   ·obtain ⟨rfl, rfl⟩ := hf
    have HC : Hid (ckNd (.mk 2 ⟨nm, op, ver, slot, fl, on⟩ [] false ks) = ckAtom ⟨nm, op, ver, slot, fl, on⟩) := qh (by
     have := HK.out.len
     simp only [ckNd]; rw [if_neg (by omega), if_neg (by simp [this]), if_neg (by simp [leafK]), if_neg (by simp), if_neg (by simp), if_pos (by rfl)])
    have hck := fun wx => check_any ⟨nm.toArray⟩ ⟨fl.toArray⟩ op ver slot on wx (by rw [bsz]; exact h1) (by rw [bsz]; exact h2)
    rw [show atOf ⟨nm.toArray⟩ op ver slot ⟨fl.toArray⟩ on = ⟨nm, op, ver, slot, fl, on⟩ from by simp [atOf]] at hck
    unfold atv at hck
    have Hck := qh hck; clear hck
    clear h1 h2 h3
    go_enter Tryz.func152, Tryz.ntmps152
    go_wp2_with (first | (go_at_call 75; refine (Hck.out _).mono ?_; rintro e w1 ⟨rfl, hb1⟩; refine Hid.out ?_))
    refine qh ?_
    have HB1 := qh (HB.out.trans (hb1.mono HB.out.size)); clear hb1
    go_wp2
    go_ret
    exact ⟨ret_int HC.out.symm, HB1.out⟩
   ·have HC : Hid (ckNd (.mk 2 ⟨nm, op, ver, slot, fl, on⟩ f no ks) = 4) := qh (by
     have := HK.out.len
     simp only [ckNd]; rw [if_neg (by omega), if_neg (by simp [this]), if_neg (by simp [leafK]), if_pos ⟨by omega, by cases no <;> simp_all⟩])
    by_cases hf0 : f = []
    ·subst hf0
     cases no
     ·exact absurd ⟨rfl, rfl⟩ hf
     ·clear hf
      go_enter Tryz.func152, Tryz.ntmps152
      go_wp2
      go_ret
      exact ⟨ret_int HC.out.symm, HB.out⟩
    ·clear hf
     go_enter Tryz.func152, Tryz.ntmps152
     go_wp2
     go_ret
     exact ⟨ret_int HC.out.symm, HB.out⟩
 ·clear k1 k5
  by_cases ha : nm = [] ∧ op = 0 ∧ ver = 0 ∧ slot = 0 ∧ fl = [] ∧ on = false
  ·obtain ⟨rfl, rfl, rfl, rfl, rfl, rfl⟩ := ha
   by_cases hf : f = [] ∧ no = false
   ·obtain ⟨rfl, rfl⟩ := hf
    have HC : Hid (ckNd (.mk 3 ⟨[], 0, 0, 0, [], false⟩ [] false ks) = ckKids ks) := qh (by
     simp only [ckNd]; rw [if_neg (by omega), if_neg (by simp [leafK]), if_neg (by simp [At.zero]), if_neg (by simp), if_neg (by simp), if_neg (by simp [leafK])])
    clear h1 h2 h3
    go_enter Tryz.func152, Tryz.ntmps152
    go_wp2
    go_loopg [70] n (fun g iv wr => ∃ (j : Nat), Hid (j + g = n) ∧ iv = .int .i64 j ∧ Hid (ckKids ks = ckKids (ks.drop j)) ∧ Below w.heap.size w wr)
    case atStart => exact ⟨0, qh (Nat.zero_add _), rfl, qh rfl, HB.out⟩
    case round =>
     obtain ⟨j, Hj, rfl, Hcl, hb⟩ := hrel
     have HBr := qh hb; clear hb
     by_cases hj : j < n
     ·obtain ⟨b, o, x, y, rfl, hb, hy, hxy, hcell⟩ := (HK.out.under HBr.out HS.out).at_ hj
      have Hdr := qh (drop_step hy)
      have hmem := List.mem_of_getElem? hy
      obtain ⟨yk, ya, yf, yn, yks⟩ := y
      obtain ⟨A', n', c', rfl, -⟩ := hxy.open_
      have g0 := hcell 0 (by omega); have g1 := hcell 1 (by omega); have g2 := hcell 2 (by omega); have g3 := hcell 3 (by omega); have g4 := hcell 4 (by omega)
      have g5 := hcell 5 (by omega); have g6 := hcell 6 (by omega); have g7 := hcell 7 (by omega); have g8 := hcell 8 (by omega); have g9 := hcell 9 (by omega)
      clear hcell
      unfold ndRow at g0 g1 g2 g3 g4 g5 g6 g7 g8 g9
      simp only [List.getElem?_cons_zero, List.getElem?_cons_succ, Nat.add_zero] at g0 g1 g2 g3 g4 g5 g6 g7 g8 g9
      clear hy
      have hxy2 := (hxy.under (Below.refl _ wr |>.alloc (qr _) (.cells #[.int .i64 yk, .string ⟨ya.nm.toArray⟩, .int .i64 ya.op, .int .i64 ya.ver, .int .i64 ya.slot, .string ⟨ya.fl.toArray⟩, .bool ya.on, .string ⟨yf.toArray⟩, .bool yn, .slice A' n' c'] 99)) fun q hq => ql (HS.out q hq) HBr.out.size)
      clear hxy
      have hcall := HI.out _ hmem S _ _ hxy2 (fun q hq => by have := HS.out q hq; have := HBr.out.size; simp; omega)
      unfold ndRow at hcall
      have HX : Hid (ckKids (ks.drop j) = if ckNd (.mk yk ya yf yn yks) = 0 then ckKids (ks.drop (j + 1)) else ckNd (.mk yk ya yf yn yks)) := qh (by rw [Hdr.out]; simp only [ckKids])
      generalize hq : ckNd (.mk yk ya yf yn yks) = q at hcall HX
      have HBn := qh (HBr.out.alloc HBr.out.size (.cells #[.int .i64 yk, .string ⟨ya.nm.toArray⟩, .int .i64 ya.op, .int .i64 ya.ver, .int .i64 ya.slot, .string ⟨ya.fl.toArray⟩, .bool ya.on, .string ⟨yf.toArray⟩, .bool yn, .slice A' n' c'] 99))
      clear hq hxy2
      have Hcall := qh hcall; clear hcall
      by_cases h0 : q = 0
      ·subst h0
       go_wp2_with fail
       refine Hcall.out.mono ?_
       rintro e w' ⟨rfl, hb'⟩
       have HB' := qh (HBn.out.trans (hb'.mono HBn.out.size)); clear hb'
       go_wp2_with fail
       go_roundg (gk - 1)
       case measure => have := Hj.out; omega
       case rel => exact ⟨j + 1, qh (by have := Hj.out; omega), by go_num, qh (by rw [Hcl.out, HX.out]; simp), HB'.out⟩
      ·have h1 : (q != 0) = true := by simpa using h0
       have H0 := qh h0; clear h0
       go_wp2_with fail
       refine Hcall.out.mono ?_
       rintro e w' ⟨rfl, hb'⟩
       have HB' := qh (HBn.out.trans (hb'.mono HBn.out.size)); clear hb'
       go_wp2_with fail
       go_ret
       exact ⟨ret_int (by rw [HC.out, Hcl.out, HX.out, if_neg H0.out]), HB'.out⟩
     ·go_wp2_with fail
      go_ret
      refine ⟨ret_int ?_, HBr.out⟩
      rw [HC.out, Hcl.out, List.drop_of_length_le (by have := HK.out.len; omega)]; rfl
   ·have HC : Hid (ckNd (.mk 3 ⟨[], 0, 0, 0, [], false⟩ f no ks) = 4) := qh (by
     simp only [ckNd]; rw [if_neg (by omega), if_neg (by simp [leafK]), if_neg (by simp [At.zero]), if_pos ⟨by omega, by cases no <;> simp_all⟩])
    by_cases hf0 : f = []
    ·subst hf0
     cases no
     ·exact absurd ⟨rfl, rfl⟩ hf
     ·clear hf
      go_enter Tryz.func152, Tryz.ntmps152
      go_wp2
      go_ret
      exact ⟨ret_int HC.out.symm, HB.out⟩
    ·clear hf
     go_enter Tryz.func152, Tryz.ntmps152
     go_wp2
     go_ret
     exact ⟨ret_int HC.out.symm, HB.out⟩
  ·exact ncheck_bad nm fl f op ver slot 3 on no A n c ks w (by decide) (by decide) ha
 ·clear k1 k5
  by_cases ha : nm = [] ∧ op = 0 ∧ ver = 0 ∧ slot = 0 ∧ fl = [] ∧ on = false
  ·obtain ⟨rfl, rfl, rfl, rfl, rfl, rfl⟩ := ha
   by_cases hf : f = [] ∧ no = false
   ·obtain ⟨rfl, rfl⟩ := hf
    have HC : Hid (ckNd (.mk 4 ⟨[], 0, 0, 0, [], false⟩ [] false ks) = ckKids ks) := qh (by
     simp only [ckNd]; rw [if_neg (by omega), if_neg (by simp [leafK]), if_neg (by simp [At.zero]), if_neg (by simp), if_neg (by simp), if_neg (by simp [leafK])])
    clear h1 h2 h3
    go_enter Tryz.func152, Tryz.ntmps152
    go_wp2
    go_loopg [70] n (fun g iv wr => ∃ (j : Nat), Hid (j + g = n) ∧ iv = .int .i64 j ∧ Hid (ckKids ks = ckKids (ks.drop j)) ∧ Below w.heap.size w wr)
    case atStart => exact ⟨0, qh (Nat.zero_add _), rfl, qh rfl, HB.out⟩
    case round =>
     obtain ⟨j, Hj, rfl, Hcl, hb⟩ := hrel
     have HBr := qh hb; clear hb
     by_cases hj : j < n
     ·obtain ⟨b, o, x, y, rfl, hb, hy, hxy, hcell⟩ := (HK.out.under HBr.out HS.out).at_ hj
      have Hdr := qh (drop_step hy)
      have hmem := List.mem_of_getElem? hy
      obtain ⟨yk, ya, yf, yn, yks⟩ := y
      obtain ⟨A', n', c', rfl, -⟩ := hxy.open_
      have g0 := hcell 0 (by omega); have g1 := hcell 1 (by omega); have g2 := hcell 2 (by omega); have g3 := hcell 3 (by omega); have g4 := hcell 4 (by omega)
      have g5 := hcell 5 (by omega); have g6 := hcell 6 (by omega); have g7 := hcell 7 (by omega); have g8 := hcell 8 (by omega); have g9 := hcell 9 (by omega)
      clear hcell
      unfold ndRow at g0 g1 g2 g3 g4 g5 g6 g7 g8 g9
      simp only [List.getElem?_cons_zero, List.getElem?_cons_succ, Nat.add_zero] at g0 g1 g2 g3 g4 g5 g6 g7 g8 g9
      clear hy
      have hxy2 := (hxy.under (Below.refl _ wr |>.alloc (qr _) (.cells #[.int .i64 yk, .string ⟨ya.nm.toArray⟩, .int .i64 ya.op, .int .i64 ya.ver, .int .i64 ya.slot, .string ⟨ya.fl.toArray⟩, .bool ya.on, .string ⟨yf.toArray⟩, .bool yn, .slice A' n' c'] 99)) fun q hq => ql (HS.out q hq) HBr.out.size)
      clear hxy
      have hcall := HI.out _ hmem S _ _ hxy2 (fun q hq => by have := HS.out q hq; have := HBr.out.size; simp; omega)
      unfold ndRow at hcall
      have HX : Hid (ckKids (ks.drop j) = if ckNd (.mk yk ya yf yn yks) = 0 then ckKids (ks.drop (j + 1)) else ckNd (.mk yk ya yf yn yks)) := qh (by rw [Hdr.out]; simp only [ckKids])
      generalize hq : ckNd (.mk yk ya yf yn yks) = q at hcall HX
      have HBn := qh (HBr.out.alloc HBr.out.size (.cells #[.int .i64 yk, .string ⟨ya.nm.toArray⟩, .int .i64 ya.op, .int .i64 ya.ver, .int .i64 ya.slot, .string ⟨ya.fl.toArray⟩, .bool ya.on, .string ⟨yf.toArray⟩, .bool yn, .slice A' n' c'] 99))
      clear hq hxy2
      have Hcall := qh hcall; clear hcall
      by_cases h0 : q = 0
      ·subst h0
       go_wp2_with fail
       refine Hcall.out.mono ?_
       rintro e w' ⟨rfl, hb'⟩
       have HB' := qh (HBn.out.trans (hb'.mono HBn.out.size)); clear hb'
       go_wp2_with fail
       go_roundg (gk - 1)
       case measure => have := Hj.out; omega
       case rel => exact ⟨j + 1, qh (by have := Hj.out; omega), by go_num, qh (by rw [Hcl.out, HX.out]; simp), HB'.out⟩
      ·have h1 : (q != 0) = true := by simpa using h0
       have H0 := qh h0; clear h0
       go_wp2_with fail
       refine Hcall.out.mono ?_
       rintro e w' ⟨rfl, hb'⟩
       have HB' := qh (HBn.out.trans (hb'.mono HBn.out.size)); clear hb'
       go_wp2_with fail
       go_ret
       exact ⟨ret_int (by rw [HC.out, Hcl.out, HX.out, if_neg H0.out]), HB'.out⟩
     ·go_wp2_with fail
      go_ret
      refine ⟨ret_int ?_, HBr.out⟩
      rw [HC.out, Hcl.out, List.drop_of_length_le (by have := HK.out.len; omega)]; rfl
   ·have HC : Hid (ckNd (.mk 4 ⟨[], 0, 0, 0, [], false⟩ f no ks) = 4) := qh (by
     simp only [ckNd]; rw [if_neg (by omega), if_neg (by simp [leafK]), if_neg (by simp [At.zero]), if_pos ⟨by omega, by cases no <;> simp_all⟩])
    by_cases hf0 : f = []
    ·subst hf0
     cases no
     ·exact absurd ⟨rfl, rfl⟩ hf
     ·clear hf
      go_enter Tryz.func152, Tryz.ntmps152
      go_wp2
      go_ret
      exact ⟨ret_int HC.out.symm, HB.out⟩
    ·clear hf
     go_enter Tryz.func152, Tryz.ntmps152
     go_wp2
     go_ret
     exact ⟨ret_int HC.out.symm, HB.out⟩
  ·exact ncheck_bad nm fl f op ver slot 4 on no A n c ks w (by decide) (by decide) ha
 ·clear k1 k5
  by_cases ha : nm = [] ∧ op = 0 ∧ ver = 0 ∧ slot = 0 ∧ fl = [] ∧ on = false
  ·obtain ⟨rfl, rfl, rfl, rfl, rfl, rfl⟩ := ha
   have hnm := fun wx => name_any ⟨f.toArray⟩ wx (by rw [bsz]; exact h3)
   rw [show (⟨f.toArray⟩ : ByteArray).data.toList = f from by simp] at hnm
   cases hn : isName f
   ·rw [hn] at hnm
    have Hnm := qh hnm; clear hnm
    have HC : Hid (ckNd (.mk 5 ⟨[], 0, 0, 0, [], false⟩ f no ks) = 1) := qh (by
     simp only [ckNd]; rw [if_neg (by omega), if_neg (by simp [leafK]), if_neg (by simp [At.zero]), if_neg (by simp), if_pos ⟨by trivial, hn⟩])
    clear h1 h2 h3 hn
    go_enter Tryz.func152, Tryz.ntmps152
    go_wp2_with (first | (go_at_call 104; refine (Hnm.out _).mono ?_; rintro e w1 ⟨rfl, hb1⟩; refine Hid.out ?_))
    refine qh ?_
    have HB1 := qh (HB.out.trans (hb1.mono HB.out.size)); clear hb1
    go_wp2
    go_ret
    exact ⟨ret_int HC.out.symm, HB1.out⟩
   ·rw [hn] at hnm
    have Hnm := qh hnm; clear hnm
    have HC : Hid (ckNd (.mk 5 ⟨[], 0, 0, 0, [], false⟩ f no ks) = ckKids ks) := qh (by
     simp only [ckNd]; rw [if_neg (by omega), if_neg (by simp [leafK]), if_neg (by simp [At.zero]), if_neg (by simp), if_neg (by simp [hn]), if_neg (by simp [leafK])])
    clear h1 h2 h3 hn
    have HW := qh (Whole.new w _ 99 [.int .i64 5, .string ⟨#[]⟩, .int .i64 0, .int .i64 0, .int .i64 0, .string ⟨#[]⟩, .bool false, .string ⟨f.toArray⟩, .bool no, .slice A n c] rfl)
    go_enter Tryz.func152, Tryz.ntmps152
    go_wp2_with (first | (go_at_call 104; refine (Hnm.out _).mono ?_; rintro e w1 ⟨rfl, hb1⟩; refine Hid.out ?_))
    refine qh ?_
    replace HB := qh (HB.out.trans (hb1.mono HB.out.size))
    have q9 := (HW.out.below hb1 HW.out.lt).cell 9
    simp only [qgz, qgs] at q9
    clear hb1 HW
    go_wp2
    go_loopg [70] n (fun g iv wr => ∃ (j : Nat), Hid (j + g = n) ∧ iv = .int .i64 j ∧ Hid (ckKids ks = ckKids (ks.drop j)) ∧ Below w.heap.size w wr)
    case atStart => exact ⟨0, qh (Nat.zero_add _), rfl, qh rfl, HB.out⟩
    case round =>
     obtain ⟨j, Hj, rfl, Hcl, hb⟩ := hrel
     have HBr := qh hb; clear hb
     by_cases hj : j < n
     ·obtain ⟨b, o, x, y, rfl, hb, hy, hxy, hcell⟩ := (HK.out.under HBr.out HS.out).at_ hj
      have Hdr := qh (drop_step hy)
      have hmem := List.mem_of_getElem? hy
      obtain ⟨yk, ya, yf, yn, yks⟩ := y
      obtain ⟨A', n', c', rfl, -⟩ := hxy.open_
      have g0 := hcell 0 (by omega); have g1 := hcell 1 (by omega); have g2 := hcell 2 (by omega); have g3 := hcell 3 (by omega); have g4 := hcell 4 (by omega)
      have g5 := hcell 5 (by omega); have g6 := hcell 6 (by omega); have g7 := hcell 7 (by omega); have g8 := hcell 8 (by omega); have g9 := hcell 9 (by omega)
      clear hcell
      unfold ndRow at g0 g1 g2 g3 g4 g5 g6 g7 g8 g9
      simp only [List.getElem?_cons_zero, List.getElem?_cons_succ, Nat.add_zero] at g0 g1 g2 g3 g4 g5 g6 g7 g8 g9
      clear hy
      have hxy2 := (hxy.under (Below.refl _ wr |>.alloc (qr _) (.cells #[.int .i64 yk, .string ⟨ya.nm.toArray⟩, .int .i64 ya.op, .int .i64 ya.ver, .int .i64 ya.slot, .string ⟨ya.fl.toArray⟩, .bool ya.on, .string ⟨yf.toArray⟩, .bool yn, .slice A' n' c'] 99)) fun q hq => ql (HS.out q hq) HBr.out.size)
      clear hxy
      have hcall := HI.out _ hmem S _ _ hxy2 (fun q hq => by have := HS.out q hq; have := HBr.out.size; simp; omega)
      unfold ndRow at hcall
      have HX : Hid (ckKids (ks.drop j) = if ckNd (.mk yk ya yf yn yks) = 0 then ckKids (ks.drop (j + 1)) else ckNd (.mk yk ya yf yn yks)) := qh (by rw [Hdr.out]; simp only [ckKids])
      generalize hq : ckNd (.mk yk ya yf yn yks) = q at hcall HX
      have HBn := qh (HBr.out.alloc HBr.out.size (.cells #[.int .i64 yk, .string ⟨ya.nm.toArray⟩, .int .i64 ya.op, .int .i64 ya.ver, .int .i64 ya.slot, .string ⟨ya.fl.toArray⟩, .bool ya.on, .string ⟨yf.toArray⟩, .bool yn, .slice A' n' c'] 99))
      clear hq hxy2
      have Hcall := qh hcall; clear hcall
      by_cases h0 : q = 0
      ·subst h0
       go_wp2_with fail
       refine Hcall.out.mono ?_
       rintro e w' ⟨rfl, hb'⟩
       have HB' := qh (HBn.out.trans (hb'.mono HBn.out.size)); clear hb'
       go_wp2_with fail
       go_roundg (gk - 1)
       case measure => have := Hj.out; omega
       case rel => exact ⟨j + 1, qh (by have := Hj.out; omega), by go_num, qh (by rw [Hcl.out, HX.out]; simp), HB'.out⟩
      ·have h1 : (q != 0) = true := by simpa using h0
       have H0 := qh h0; clear h0
       go_wp2_with fail
       refine Hcall.out.mono ?_
       rintro e w' ⟨rfl, hb'⟩
       have HB' := qh (HBn.out.trans (hb'.mono HBn.out.size)); clear hb'
       go_wp2_with fail
       go_ret
       exact ⟨ret_int (by rw [HC.out, Hcl.out, HX.out, if_neg H0.out]), HB'.out⟩
     ·go_wp2_with fail
      go_ret
      refine ⟨ret_int ?_, HBr.out⟩
      rw [HC.out, Hcl.out, List.drop_of_length_le (by have := HK.out.len; omega)]; rfl
  ·exact ncheck_bad nm fl f op ver slot 5 on no A n c ks w (by decide) (by decide) ha
end
/- need.Check, need.Same, walked. -/
section
open Go.RowKit Qm

set_option maxHeartbeats 1600000 in
theorem nCheck_any (y : Nd) (S : Nat → Prop) (x : List Value) (w : World) (hR : RNd w S x y) (hS : ∀ k, S k → k < w.heap.size) :
  Calls Tryz.prog 129 #[.agg x.toArray] w fun e w' => e = .returned (.int .i64 (ckNeed y)) ∧ Below w.heap.size w w' := by
 obtain ⟨k, a, f, no, ks⟩ := y
 obtain ⟨A, n, c, rfl, -⟩ := hR.open_
 have HB := qh ((Below.refl _ w).alloc (qr _) (.cells (ndRow k a f no A n c).toArray 99))
 have HW := qh (Whole.new w _ 99 (ndRow k a f no A n c) rfl)
 have hR1 := hR.under HB.out hS
 have hc1 := fun wx hw => count_any (.mk k a f no ks) S (ndRow k a f no A n c) 1 20 wx hw
 have hc2 := fun wx hw => ncheck_any (.mk k a f no ks) S (ndRow k a f no A n c) wx hw
 have HM := qh (cnt_many (.mk k a f no ks))
 have HK : Hid (ckNeed (.mk k a f no ks) = if tooMany (.mk k a f no ks) then 2 else ckNd (.mk k a f no ks)) := qh rfl
 generalize ckNeed (.mk k a f no ks) = R at HK ⊢
 generalize hq : cnt (.mk k a f no ks) 1 20 = q at hc1 HM
 generalize ckNd (.mk k a f no ks) = z at hc2 HK
 clear hq
 have HR := qh hR1; have HS := qh hS; clear hR hR1 hS
 unfold ndRow at hc1 hc2 HW HB HR ⊢
 have Hc1 := qh hc1; have Hc2 := qh hc2; clear hc1 hc2
 rcases q with _ | q
 ·have HE : Hid (R = 2) := qh (by rw [HK.out, if_pos (HM.out.2 rfl)])
  go_enter Tryz.func129, Tryz.ntmps129
  go_wp2_with (first | (go_at_call 151; refine (Hc1.out _ HR.out (fun k hk => ql (HS.out k hk) HB.out.size) (by decide) (by decide) (by decide) (by decide)).mono ?_; unfold cntV; rintro e w1 ⟨rfl, hb1⟩; refine Hid.out ?_))
  refine qh ?_
  have HB1 := qh (HB.out.trans (hb1.mono HB.out.size)); clear hb1
  go_wp2
  go_ret
  exact ⟨ret_int HE.out.symm, HB1.out⟩
 ·have hM := HM.out.1 q rfl
  by_cases h20 : 20 < q
  ·have HE : Hid (R = 2) := qh (by rw [HK.out, if_pos (hM.1 h20)])
   clear hM
   go_enter Tryz.func129, Tryz.ntmps129
   go_wp2_with (first | (go_at_call 151; refine (Hc1.out _ HR.out (fun k hk => ql (HS.out k hk) HB.out.size) (by decide) (by decide) (by decide) (by decide)).mono ?_; unfold cntV; rintro e w1 ⟨rfl, hb1⟩; refine Hid.out ?_))
   refine qh ?_
   have HB1 := qh (HB.out.trans (hb1.mono HB.out.size)); clear hb1
   go_wp2
   go_ret
   exact ⟨ret_int HE.out.symm, HB1.out⟩
  ·have HE : Hid (R = z) := qh (by rw [HK.out, if_neg fun h => h20 (hM.2 h)])
   have h20' : decide ((20 : Int) < q) = false := by simpa using h20
   clear hM
   go_enter Tryz.func129, Tryz.ntmps129
   go_wp2_with (first | (go_at_call 151; refine (Hc1.out _ HR.out (fun k hk => ql (HS.out k hk) HB.out.size) (by decide) (by decide) (by decide) (by decide)).mono ?_; unfold cntV; rintro e w1 ⟨rfl, hb1⟩; refine Hid.out ?_))
   refine qh ?_
   have HB1 := qh (HB.out.trans (hb1.mono HB.out.size))
   have HR1 := qh (HR.out.under hb1 fun k hk => ql (HS.out k hk) HB.out.size)
   have HW1 := qh (HW.out.below hb1 HW.out.lt); clear hb1
   have g0 := HW1.out.cell 0; have g1 := HW1.out.cell 1; have g2 := HW1.out.cell 2; have g3 := HW1.out.cell 3; have g4 := HW1.out.cell 4
   have g5 := HW1.out.cell 5; have g6 := HW1.out.cell 6; have g7 := HW1.out.cell 7; have g8 := HW1.out.cell 8; have g9 := HW1.out.cell 9
   simp only [qgz, qgs] at g0 g1 g2 g3 g4 g5 g6 g7 g8 g9
   go_wp2_with (first | (go_at_call 152; refine (Hc2.out _ HR1.out (fun k hk => ql (HS.out k hk) HB1.out.size)).mono ?_; rintro e w2 ⟨rfl, hb2⟩; refine Hid.out ?_))
   refine qh ?_
   have HB2 := qh (HB1.out.trans (hb2.mono HB1.out.size)); clear hb2
   go_wp2
   go_ret
   exact ⟨ret_int HE.out.symm, HB2.out⟩

end
/- atom.ops, atom.Print, walked. -/
section
open Go.RowKit Qm

def opsV : Value := .agg #[.string ⟨#[]⟩, .string ⟨#[61]⟩, .string ⟨#[62, 61]⟩, .string ⟨#[60]⟩]

set_option maxHeartbeats 1600000 in
theorem ops_any (w : World) :
  Calls Tryz.prog 182 #[] w fun e w' => e = .returned opsV ∧ Below w.heap.size w w' := by
 go_enter Tryz.func182, Tryz.ntmps182
 go_wp2
 refine bodyPost_ret (v := opsV) (by simp [results, Tryz.results182, go_sem]; rfl) rfl ⟨rfl, ?_⟩
 exact (Below.refl _ _).alloc (qr _) _

theorem ops_any' (w : World) : Calls Tryz.prog 182 #[] w fun e w' => e = .returned (.agg #[.string ⟨#[]⟩, .string ⟨#[61]⟩, .string ⟨#[62, 61]⟩, .string ⟨#[60]⟩]) ∧ Below w.heap.size w w' := ops_any w

structure Boxed (w : World) (s : ByteArray) (op ver slot : Int) (f : ByteArray) (on : Bool) (wx : World) : Prop where
 c0 : wx.cell? ⟨w.heap.size, 0, none⟩ = some (.string s)
 c1 : wx.cell? ⟨w.heap.size, 1, none⟩ = some (.int .i64 op)
 c2 : wx.cell? ⟨w.heap.size, 2, none⟩ = some (.int .i64 ver)
 c3 : wx.cell? ⟨w.heap.size, 3, none⟩ = some (.int .i64 slot)
 c4 : wx.cell? ⟨w.heap.size, 4, none⟩ = some (.string f)
 c5 : wx.cell? ⟨w.heap.size, 5, none⟩ = some (.bool on)
 b : Below w.heap.size w wx
theorem Boxed.new (w : World) (s : ByteArray) (op ver slot : Int) (f : ByteArray) (on : Bool) {t : TypeId} : Boxed w s op ver slot f on (w.alloc (.cells #[.string s, .int .i64 op, .int .i64 ver, .int .i64 slot, .string f, .bool on] t)) := by
 refine ⟨?_, ?_, ?_, ?_, ?_, ?_, (Below.refl _ w).alloc (qr _) _⟩ <;> simp [World.cell?, World.alloc, -World.alloc_eq]

theorem bs_size (a : List UInt8) : (⟨a.toArray⟩ : ByteArray).size = a.length := by show a.toArray.size = _; simp

theorem ops_at1 (wx : World) : (Instr.index 227 (.agg #[.string ⟨#[]⟩, .string ⟨#[61]⟩, .string ⟨#[62, 61]⟩, .string ⟨#[60]⟩]) (.int .i64 1)).run Tryz.prog wx = .ok (.string ⟨#[61]⟩) wx := by
 simp [Instr.index, run_underlying Tryz.underlying227, go_sem]
theorem ops_at2 (wx : World) : (Instr.index 227 (.agg #[.string ⟨#[]⟩, .string ⟨#[61]⟩, .string ⟨#[62, 61]⟩, .string ⟨#[60]⟩]) (.int .i64 2)).run Tryz.prog wx = .ok (.string ⟨#[62, 61]⟩) wx := by
 simp [Instr.index, run_underlying Tryz.underlying227, go_sem]
theorem ops_at3 (wx : World) : (Instr.index 227 (.agg #[.string ⟨#[]⟩, .string ⟨#[61]⟩, .string ⟨#[62, 61]⟩, .string ⟨#[60]⟩]) (.int .i64 3)).run Tryz.prog wx = .ok (.string ⟨#[60]⟩) wx := by
 simp [Instr.index, run_underlying Tryz.underlying227, go_sem]
end
/- need.words, walked. -/
section
open Go.RowKit Qm

def strs (ws : List Qm.W) : List Value := ws.map fun l => .string ⟨l.toArray⟩
theorem strs_append (a b : List Qm.W) : strs (a ++ b) = strs a ++ strs b := by simp [strs]
theorem strs_len (a : List Qm.W) : (strs a).length = a.length := by simp [strs]
theorem string_info : (Tryz.prog.info? 9).map (fun i => (i.zero, i.size, i.bytes)) = some (some (.string ⟨#[]⟩), 1, 16) := by kernel_rfl

structure Wd (w : World) (box : List Value) (ws : List Qm.W) (A : Option Addr) (c : Nat) (wx : World) : Prop where
 own : wx.ownsRow (w.heap.size + 1) 9 1 (.slice A ws.length c) ws.length (strs ws)
 box : Whole wx w.heap.size 99 box
 bel : Below w.heap.size w wx
theorem own_below {w w' : World} {base : Nat} {e : TypeId} {size : Nat} {v : Value} {n : Nat} {xs : List Value} (h : w.ownsRow base e size v n xs) (hb : Below w.heap.size w w') : w'.ownsRow base e size v n xs :=
 h.kept (grown_of_below hb none) (by cases hv : v.ownBlock <;> simp)
theorem own_row {w : World} {base : Nat} {e : TypeId} {A : Option Addr} {n c : Nat} {vs : List Value} (h : w.ownsRow base e 1 (.slice A n c) n vs) : Row w (fun k => base ≤ k ∧ k < w.heap.size) A n vs := by
 obtain ⟨A', c', he, _, _, hr⟩ := own_form h
 injection he with h1 _ _
 subst h1
 exact hr
theorem take_snocN {ks : List Nd} {j : Nat} {y : Nd} (h : ks[j]? = some y) : ks.take (j + 1) = ks.take j ++ [y] := by
 obtain ⟨hj, e⟩ := List.getElem?_eq_some_iff.1 h
 rw [List.take_succ_eq_append_getElem hj, e]
/- one word behind: of P at wp, the words WS; the word L -/
end
end Go.Proofs.YtedbhlgjcnnknaaGreatDoor
