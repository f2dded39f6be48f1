/- atom.Check, walked. -/
import Derived.Test.YtnkmonmkhmcgaaaGreatDoorAW1
namespace Go.Proofs.YtnkmonmkhmcgaaaGreatDoor
open Go.RowKit Qm

def atv (s : ByteArray) (op ver slot : Int) (f : ByteArray) (on : Bool) : Value := .agg #[.string s, .int .i64 op, .int .i64 ver, .int .i64 slot, .string f, .bool on]
def atOf (s : ByteArray) (op ver slot : Int) (f : ByteArray) (on : Bool) : At := ⟨s.data.toList, op, ver, slot, f.data.toList, on⟩

theorem box_cell {w w1 : World} {cs : Array Value} {t : TypeId} (h : Below (w.alloc (.cells cs t)).heap.size (w.alloc (.cells cs t)) w1) {i : Nat} {v : Value} (hv : cs[i]? = some v) : w1.cell? ⟨w.heap.size, i, none⟩ = some v := by
  rw [h.cell (by simp)]
  simp [World.cell?, World.alloc, -World.alloc_eq, hv]

theorem empty_spell {f : ByteArray} (h : f.data.toList = []) : f.toList.isEmpty = true ∧ (!f.toList.isEmpty) = false := by
  rw [Lib.toList_data, h]; exact ⟨rfl, rfl⟩
theorem full_spell {f : ByteArray} (h : f.data.toList ≠ []) : f.toList.isEmpty = false ∧ (!f.toList.isEmpty) = true := by
  rw [Lib.toList_data]
  cases e : f.data.toList
  · exact absurd e h
  · exact ⟨rfl, rfl⟩

theorem ck1 {a : At} (h : isName a.nm = false ∨ a.fl ≠ [] ∧ isName a.fl = false) : ckAtom a = 1 := by unfold ckAtom; rw [if_pos h]
theorem ck3 {a : At} (h : ¬ (isName a.nm = false ∨ a.fl ≠ [] ∧ isName a.fl = false)) (h2 : (a.op < 0 ∨ 3 < a.op ∨ a.slot < 0 ∨ 9 < a.slot) ∨ (a.op = 0 ∧ a.ver ≠ 0 ∨ a.op ≠ 0 ∧ (a.ver < 1 ∨ 99 < a.ver))) : ckAtom a = 3 := by
  unfold ckAtom
  rw [if_neg h]
  split
  · rfl
  · rename_i h3
    rw [if_pos (by omega)]
theorem ck4 {a : At} (h : ¬ (isName a.nm = false ∨ a.fl ≠ [] ∧ isName a.fl = false)) (h2 : ¬ ((a.op < 0 ∨ 3 < a.op ∨ a.slot < 0 ∨ 9 < a.slot) ∨ (a.op = 0 ∧ a.ver ≠ 0 ∨ a.op ≠ 0 ∧ (a.ver < 1 ∨ 99 < a.ver)))) : ckAtom a = if a.fl = [] ∧ a.on = true then 4 else 0 := by
  unfold ckAtom
  rw [if_neg h, if_neg (by omega), if_neg (by omega)]

set_option maxHeartbeats 3200000 in
theorem check_any (s f : ByteArray) (op ver slot : Int) (on : Bool) (w : World) (hs : s.size ≤ maxLen) (hf : f.size ≤ maxLen) :
    Calls Tryz.prog 53 #[atv s op ver slot f on] w fun e w' => e = .returned (.int .i64 (ckAtom (atOf s op ver slot f on))) ∧ Below w.heap.size w w' := by
  unfold atv
  have ba : Below w.heap.size w (w.alloc (.cells #[.string s, .int .i64 op, .int .i64 ver, .int .i64 slot, .string f, .bool on] 23)) := (Below.refl _ w).alloc (Nat.le_refl _) _
  have Ba := Lib.hid ba; clear ba
  cases hn : isName s.data.toList
  · skip
    go_enter Tryz.func53, Tryz.ntmps53
    go_wp2_with (first
      | (go_at_call 47; refine (name_any _ _ hs).mono ?_; rintro e w1 ⟨rfl, hb1⟩; have c0 := box_cell hb1 (i := 0) rfl; have c1 := box_cell hb1 (i := 1) rfl; have c2 := box_cell hb1 (i := 2) rfl; have c3 := box_cell hb1 (i := 3) rfl; have c4 := box_cell hb1 (i := 4) rfl; have c5 := box_cell hb1 (i := 5) rfl; refine Hid.out ?_))
    refine Lib.hid ?_
    have HB := Lib.hid (Ba.out.trans (hb1.mono (by simp)))
    clear hb1
    go_wp2
    go_ret
    exact ⟨ret_int (ck1 (a := atOf s op ver slot f on) (.inl hn)).symm, HB.out⟩
  · by_cases h0 : f.data.toList = []
    · obtain ⟨e1, e2⟩ := empty_spell h0
      go_enter Tryz.func53, Tryz.ntmps53
      go_wp2_with (first
        | (go_at_call 47; refine (name_any _ _ hs).mono ?_; rintro e w1 ⟨rfl, hb1⟩; have c0 := box_cell hb1 (i := 0) rfl; have c1 := box_cell hb1 (i := 1) rfl; have c2 := box_cell hb1 (i := 2) rfl; have c3 := box_cell hb1 (i := 3) rfl; have c4 := box_cell hb1 (i := 4) rfl; have c5 := box_cell hb1 (i := 5) rfl; refine Hid.out ?_))
      refine Lib.hid ?_
      have HB := Lib.hid (Ba.out.trans (hb1.mono (by simp)))
      clear hb1
      have H0 := Lib.hid h0
      have HG := Lib.hid (show ¬ (isName (atOf s op ver slot f on).nm = false ∨ (atOf s op ver slot f on).fl ≠ [] ∧ isName (atOf s op ver slot f on).fl = false) by simp [atOf, hn, h0])
      clear h0
      by_cases o1 : op < 0
      ·
        go_wp2
        go_ret
        exact ⟨ret_int (ck3 (a := atOf s _ _ slot f on) HG.out (by show _ ∨ _; simp only [atOf]; first | omega | exact .inr (.inl ⟨trivial, ‹_›⟩))).symm, HB.out⟩
      have o1' : decide (op < 0) = false := by simpa using o1
      by_cases o2 : 3 < op
      ·
        go_wp2
        go_ret
        exact ⟨ret_int (ck3 (a := atOf s _ _ slot f on) HG.out (by show _ ∨ _; simp only [atOf]; first | omega | exact .inr (.inl ⟨trivial, ‹_›⟩))).symm, HB.out⟩
      have o2' : decide (3 < op) = false := by simpa using o2
      by_cases s1 : slot < 0
      ·
        go_wp2
        go_ret
        exact ⟨ret_int (ck3 (a := atOf s _ _ slot f on) HG.out (by show _ ∨ _; simp only [atOf]; first | omega | exact .inr (.inl ⟨trivial, ‹_›⟩))).symm, HB.out⟩
      have s1' : decide (slot < 0) = false := by simpa using s1
      by_cases s2 : 9 < slot
      ·
        go_wp2
        go_ret
        exact ⟨ret_int (ck3 (a := atOf s _ _ slot f on) HG.out (by show _ ∨ _; simp only [atOf]; first | omega | exact .inr (.inl ⟨trivial, ‹_›⟩))).symm, HB.out⟩
      have s2' : decide (9 < slot) = false := by simpa using s2
      by_cases z : op = 0
      ·
        subst z
        by_cases v : ver = 0
        ·
          subst v
          cases on
          ·
            go_wp2
            go_ret
            exact ⟨ret_int (by rw [ck4 (a := atOf s _ _ slot f false) HG.out (by simp only [atOf]; omega)]; simp [atOf]), HB.out⟩
          ·
            go_wp2
            go_ret
            exact ⟨ret_int (by rw [ck4 (a := atOf s _ _ slot f true) HG.out (by simp only [atOf]; omega)]; simp [atOf, H0.out]), HB.out⟩
        ·
          have v1 : (ver == 0) = false := by simpa using v
          have v2 : (ver != 0) = true := by simpa using v
          go_wp2
          go_ret
          exact ⟨ret_int (ck3 (a := atOf s _ _ slot f on) HG.out (by show _ ∨ _; simp only [atOf]; first | omega | exact .inr (.inl ⟨trivial, ‹_›⟩))).symm, HB.out⟩
      ·
        have z1 : (op == 0) = false := by simpa using z
        have z2 : (op != 0) = true := by simpa using z
        by_cases v1 : ver < 1
        ·
          go_wp2
          go_ret
          exact ⟨ret_int (ck3 (a := atOf s _ _ slot f on) HG.out (by show _ ∨ _; simp only [atOf]; first | omega | exact .inr (.inl ⟨trivial, ‹_›⟩))).symm, HB.out⟩
        have v1' : decide (ver < 1) = false := by simpa using v1
        by_cases v2 : 99 < ver
        ·
          go_wp2
          go_ret
          exact ⟨ret_int (ck3 (a := atOf s _ _ slot f on) HG.out (by show _ ∨ _; simp only [atOf]; first | omega | exact .inr (.inl ⟨trivial, ‹_›⟩))).symm, HB.out⟩
        have v2' : decide (99 < ver) = false := by simpa using v2
        cases on
        ·
          go_wp2
          go_ret
          exact ⟨ret_int (by rw [ck4 (a := atOf s _ _ slot f false) HG.out (by simp only [atOf]; omega)]; simp [atOf]), HB.out⟩
        ·
          go_wp2
          go_ret
          exact ⟨ret_int (by rw [ck4 (a := atOf s _ _ slot f true) HG.out (by simp only [atOf]; omega)]; simp [atOf, H0.out]), HB.out⟩
    · obtain ⟨e1, e2⟩ := full_spell h0
      cases hn2 : isName f.data.toList
      · skip
        go_enter Tryz.func53, Tryz.ntmps53
        go_wp2_with (first
          | (go_at_call 47; refine (name_any _ _ hs).mono ?_; rintro e w1 ⟨rfl, hb1⟩; have c0 := box_cell hb1 (i := 0) rfl; have c1 := box_cell hb1 (i := 1) rfl; have c2 := box_cell hb1 (i := 2) rfl; have c3 := box_cell hb1 (i := 3) rfl; have c4 := box_cell hb1 (i := 4) rfl; have c5 := box_cell hb1 (i := 5) rfl; refine Hid.out ?_))
        refine Lib.hid ?_
        go_wp2_with (first
          | (go_at_call 47; refine (name_any _ _ hf).mono ?_; rintro e w2 ⟨rfl, hb2⟩; replace c0 := (hb2.cell (World.block_lt_of_cell? _ _ c0)).trans c0; replace c1 := (hb2.cell (World.block_lt_of_cell? _ _ c1)).trans c1; replace c2 := (hb2.cell (World.block_lt_of_cell? _ _ c2)).trans c2; replace c3 := (hb2.cell (World.block_lt_of_cell? _ _ c3)).trans c3; replace c4 := (hb2.cell (World.block_lt_of_cell? _ _ c4)).trans c4; replace c5 := (hb2.cell (World.block_lt_of_cell? _ _ c5)).trans c5; refine Hid.out ?_))
        refine Lib.hid ?_
        have HB := Lib.hid (Ba.out.trans ((hb1.mono (by simp)).trans (hb2.mono (Nat.le_trans (by simp) hb1.size))))
        clear hb1 hb2
        go_wp2
        go_ret
        exact ⟨ret_int (ck1 (a := atOf s op ver slot f on) (.inr ⟨h0, hn2⟩)).symm, HB.out⟩
      · skip
        go_enter Tryz.func53, Tryz.ntmps53
        go_wp2_with (first
          | (go_at_call 47; refine (name_any _ _ hs).mono ?_; rintro e w1 ⟨rfl, hb1⟩; have c0 := box_cell hb1 (i := 0) rfl; have c1 := box_cell hb1 (i := 1) rfl; have c2 := box_cell hb1 (i := 2) rfl; have c3 := box_cell hb1 (i := 3) rfl; have c4 := box_cell hb1 (i := 4) rfl; have c5 := box_cell hb1 (i := 5) rfl; refine Hid.out ?_))
        refine Lib.hid ?_
        go_wp2_with (first
          | (go_at_call 47; refine (name_any _ _ hf).mono ?_; rintro e w2 ⟨rfl, hb2⟩; replace c0 := (hb2.cell (World.block_lt_of_cell? _ _ c0)).trans c0; replace c1 := (hb2.cell (World.block_lt_of_cell? _ _ c1)).trans c1; replace c2 := (hb2.cell (World.block_lt_of_cell? _ _ c2)).trans c2; replace c3 := (hb2.cell (World.block_lt_of_cell? _ _ c3)).trans c3; replace c4 := (hb2.cell (World.block_lt_of_cell? _ _ c4)).trans c4; replace c5 := (hb2.cell (World.block_lt_of_cell? _ _ c5)).trans c5; refine Hid.out ?_))
        refine Lib.hid ?_
        have HB := Lib.hid (Ba.out.trans ((hb1.mono (by simp)).trans (hb2.mono (Nat.le_trans (by simp) hb1.size))))
        clear hb1 hb2
        have H0 := Lib.hid h0
        have HG := Lib.hid (show ¬ (isName (atOf s op ver slot f on).nm = false ∨ (atOf s op ver slot f on).fl ≠ [] ∧ isName (atOf s op ver slot f on).fl = false) by simp [atOf, hn, hn2])
        clear h0
        by_cases o1 : op < 0
        ·
          go_wp2
          go_ret
          exact ⟨ret_int (ck3 (a := atOf s _ _ slot f on) HG.out (by show _ ∨ _; simp only [atOf]; first | omega | exact .inr (.inl ⟨trivial, ‹_›⟩))).symm, HB.out⟩
        have o1' : decide (op < 0) = false := by simpa using o1
        by_cases o2 : 3 < op
        ·
          go_wp2
          go_ret
          exact ⟨ret_int (ck3 (a := atOf s _ _ slot f on) HG.out (by show _ ∨ _; simp only [atOf]; first | omega | exact .inr (.inl ⟨trivial, ‹_›⟩))).symm, HB.out⟩
        have o2' : decide (3 < op) = false := by simpa using o2
        by_cases s1 : slot < 0
        ·
          go_wp2
          go_ret
          exact ⟨ret_int (ck3 (a := atOf s _ _ slot f on) HG.out (by show _ ∨ _; simp only [atOf]; first | omega | exact .inr (.inl ⟨trivial, ‹_›⟩))).symm, HB.out⟩
        have s1' : decide (slot < 0) = false := by simpa using s1
        by_cases s2 : 9 < slot
        ·
          go_wp2
          go_ret
          exact ⟨ret_int (ck3 (a := atOf s _ _ slot f on) HG.out (by show _ ∨ _; simp only [atOf]; first | omega | exact .inr (.inl ⟨trivial, ‹_›⟩))).symm, HB.out⟩
        have s2' : decide (9 < slot) = false := by simpa using s2
        by_cases z : op = 0
        ·
          subst z
          by_cases v : ver = 0
          ·
            subst v
            go_wp2
            go_ret
            exact ⟨ret_int (by rw [ck4 (a := atOf s _ _ slot f on) HG.out (by simp only [atOf]; omega)]; simp [atOf, H0.out]), HB.out⟩
          ·
            have v1 : (ver == 0) = false := by simpa using v
            have v2 : (ver != 0) = true := by simpa using v
            go_wp2
            go_ret
            exact ⟨ret_int (ck3 (a := atOf s _ _ slot f on) HG.out (by show _ ∨ _; simp only [atOf]; first | omega | exact .inr (.inl ⟨trivial, ‹_›⟩))).symm, HB.out⟩
        ·
          have z1 : (op == 0) = false := by simpa using z
          have z2 : (op != 0) = true := by simpa using z
          by_cases v1 : ver < 1
          ·
            go_wp2
            go_ret
            exact ⟨ret_int (ck3 (a := atOf s _ _ slot f on) HG.out (by show _ ∨ _; simp only [atOf]; first | omega | exact .inr (.inl ⟨trivial, ‹_›⟩))).symm, HB.out⟩
          have v1' : decide (ver < 1) = false := by simpa using v1
          by_cases v2 : 99 < ver
          ·
            go_wp2
            go_ret
            exact ⟨ret_int (ck3 (a := atOf s _ _ slot f on) HG.out (by show _ ∨ _; simp only [atOf]; first | omega | exact .inr (.inl ⟨trivial, ‹_›⟩))).symm, HB.out⟩
          have v2' : decide (99 < ver) = false := by simpa using v2
          go_wp2
          go_ret
          exact ⟨ret_int (by rw [ck4 (a := atOf s _ _ slot f on) HG.out (by simp only [atOf]; omega)]; simp [atOf, H0.out]), HB.out⟩
end Go.Proofs.YtnkmonmkhmcgaaaGreatDoor
