/- Parts of the proof: walks and plain laws, side by side. -/
import Derived.Test.YtokibfankmjphaaGreatDoorM1
import Derived.Lib.SlTrimSet
import Derived.Test.YtokibfankmjphaaGreatDoorM5
import Derived.Shelf.Strings.SlTrimAscii
import Derived.Test.YtokibfankmjphaaGreatDoorM17
import Derived.Test.YtokibfankmjphaaGreatDoorM18
set_option linter.unusedVariables false
set_option linter.unusedSimpArgs false
set_option linter.unusedSectionVars false
/- Names, cut and told by membership: plain. -/
namespace Qm
open Go

def letters : List UInt8 := [97, 98, 99, 100, 101, 102, 103, 104, 105, 106, 107, 108, 109, 110, 111, 112, 113, 114, 115, 116, 117, 118, 119, 120, 121, 122]
def alnum : List UInt8 := [97, 98, 99, 100, 101, 102, 103, 104, 105, 106, 107, 108, 109, 110, 111, 112, 113, 114, 115, 116, 117, 118, 119, 120, 121, 122, 48, 49, 50, 51, 52, 53, 54, 55, 56, 57]

theorem byte_all {p : UInt8 → Prop} (h : ∀ n : Fin 256, p (UInt8.ofNat n.val)) (c : UInt8) : p c := by
  have h1 := h ⟨c.toNat, c.toNat_lt⟩
  simpa using h1
theorem letters_low (c : UInt8) : decide (0 ≤ Lib.indexByte letters c) = lowB c :=
  byte_all (p := fun c => decide (0 ≤ Lib.indexByte letters c) = lowB c) (by decide +kernel) c
theorem alnum_mem (c : UInt8) : alnum.contains c = (lowB c || digB c) :=
  byte_all (p := fun c => alnum.contains c = (lowB c || digB c)) (by decide +kernel) c

theorem mem_dropWhile {α : Type} {p : α → Bool} {x : α} (hx : p x = false) : ∀ {l : List α}, x ∈ l → x ∈ l.dropWhile p
  | [], h => by cases h
  | y :: r, h => by
    rw [List.dropWhile_cons]
    by_cases hy : p y = true
    · rw [if_pos hy]
      rcases List.mem_cons.1 h with rfl | h
      · rw [hx] at hy; cases hy
      · exact mem_dropWhile hx h
    · rw [if_neg hy]; exact h
theorem dropWhile_all {α : Type} {p : α → Bool} : ∀ {l : List α}, (∀ x ∈ l, p x = true) → l.dropWhile p = []
  | [], _ => rfl
  | y :: r, h => by
    rw [List.dropWhile_cons, if_pos (h y (List.mem_cons_self ..))]
    exact dropWhile_all fun x hx => h x (List.mem_cons_of_mem _ hx)
theorem trim_all {l cs : List UInt8} (h : ∀ x ∈ l, cs.contains x = true) : Lib.trimS l cs = [] := by
  unfold Lib.trimS Lib.trimRightS
  rw [dropWhile_all fun x hx => h x (List.mem_reverse.1 hx)]
  rfl
theorem trim_some {l cs : List UInt8} {x : UInt8} (hx : x ∈ l) (h : cs.contains x = false) : Lib.trimS l cs ≠ [] := by
  intro e
  have h1 : x ∈ Lib.trimRightS l cs := List.mem_reverse.2 (mem_dropWhile h (List.mem_reverse.2 hx))
  have h2 : x ∈ Lib.trimS l cs := mem_dropWhile h h1
  rw [e] at h2
  cases h2

theorem okFrom_iff : ∀ {i : Nat} {l : List UInt8}, 0 < i → (okFrom i l = true ↔ ∀ x ∈ l, alnum.contains x = true)
  | _, [], _ => by simp [okFrom]
  | i, c :: r, h => by
    have ih := okFrom_iff (i := i + 1) (l := r) (by omega)
    simp only [okFrom, okAt, Bool.and_eq_true, ih, List.forall_mem_cons]
    have : (lowB c || decide (0 < i) && digB c) = alnum.contains c := by
      rw [alnum_mem, decide_eq_true h, Bool.true_and]
    rw [this]

/-- The other telling of a name. -/
theorem isName_told {c : UInt8} {r : List UInt8} (h : (c :: r).length ≤ 8) : isName (c :: r) = (lowB c && (Lib.trimS (c :: r) alnum).isEmpty) := by
  unfold isName
  rw [decide_eq_true (by simp at h ⊢; omega), Bool.true_and]
  have e : okFrom 0 (c :: r) = (lowB c && okFrom 1 r) := by simp [okFrom, okAt]
  rw [e]
  cases hc : lowB c
  · rfl
  · rw [Bool.true_and, Bool.true_and]
    by_cases hr : okFrom 1 r = true
    · rw [hr]
      have h1 := (okFrom_iff (by decide)).1 hr
      rw [trim_all]
      · rfl
      · intro x hx
        rcases List.mem_cons.1 hx with rfl | hx
        · rw [alnum_mem, hc]; rfl
        · exact h1 x hx
    · have h1 : ¬ ∀ x ∈ r, alnum.contains x = true := fun h => hr ((okFrom_iff (by decide)).2 h)
      have h2 : okFrom 1 r = false := by simpa using hr
      rw [h2]
      obtain ⟨x, hx, hn⟩ : ∃ x, x ∈ r ∧ alnum.contains x = false := by
        apply Classical.byContradiction
        intro hno
        exact h1 fun x hx => by
          cases hh : alnum.contains x
          · exact absurd ⟨x, hx, hh⟩ hno
          · rfl
      have := trim_some (List.mem_cons_of_mem c hx) hn
      cases e : Lib.trimS (c :: r) alnum
      · exact absurd e this
      · rfl
end Qm

/- The other telling of a name, walked. -/
namespace Go.Proofs.YtokibfankmjphaaGreatDoor
open Go.RowKit Qm

theorem bs_one {s : ByteArray} {c : UInt8} {r : List UInt8} (h : s.data.toList = c :: r) : s.extract 0 1 = ⟨#[c]⟩ := by
  have e : (s.extract 0 1).data.toList = [c] := by rw [Lib.extract_data, h]; simp
  generalize s.extract 0 1 = t at e
  obtain ⟨⟨l⟩⟩ := t
  simp at e
  subst e
  rfl

set_option maxHeartbeats 1600000 in
theorem rname_any (s : ByteArray) (w : World) (hs : s.size ≤ maxLen) :
    Calls Tryz.prog 18 #[.string s] w fun e w' => e = .returned (.bool (isName s.data.toList)) ∧ Below w.heap.size w w' := by
  unfold maxLen at hs
  have HSZ := Lib.hid (Lib.size_eq s)
  by_cases h0 : s.size = 0
  · have e0 : decide ((0 : Int) < (s.size : Int)) = false := decide_eq_false (by omega)
    go_enter Tryz.func18, Tryz.ntmps18
    go_wp2
    go_ret
    refine ⟨ret_bool ?_, Below.refl _ _⟩
    unfold isName
    rw [decide_eq_false (by have := HSZ.out; omega)]; rfl
  · have e0 : decide ((0 : Int) < (s.size : Int)) = true := by simp; omega
    by_cases h8 : 8 < s.size
    · have e8 : decide ((s.size : Int) ≤ 8) = false := by simp; omega
      go_enter Tryz.func18, Tryz.ntmps18
      go_wp2
      go_ret
      refine ⟨ret_bool ?_, Below.refl _ _⟩
      unfold isName
      rw [decide_eq_false (by have := HSZ.out; omega)]; rfl
    · have e8 : decide ((s.size : Int) ≤ 8) = true := by simp; omega
      obtain ⟨c, r, hcr⟩ : ∃ c r, s.data.toList = c :: r := by
        cases e : s.data.toList with
        | nil => have h := HSZ.out; rw [e, List.length_nil] at h; omega
        | cons c r => exact ⟨c, r, rfl⟩
      have htold := isName_told (c := c) (r := r) (by have := HSZ.out; rw [hcr] at this; omega)
      rw [← hcr] at htold
      have HT := Lib.hid htold; clear htold
      have hcon := fun wx => Tryz.strings_Contains_one ⟨letters.toArray⟩ c wx
      rw [show (⟨letters.toArray⟩ : ByteArray).data.toList = letters from by simp, letters_low, ← bs_one hcr] at hcon
      have h1 : (1 : Int) ≤ (s.size : Int) := by omega
      cases hlow : lowB c
      · rw [hlow] at hcon HT
        have HC := Lib.hid hcon; clear hcon
        go_enter Tryz.func18, Tryz.ntmps18
        go_wp2_with (first | (go_at_call 39; refine (HC.out _).mono ?_; rintro e w1 ⟨rfl, rfl⟩; refine Hid.out ?_))
        refine Lib.hid ?_
        go_wp2
        go_ret
        exact ⟨ret_bool (by rw [HT.out]; rfl), Below.refl _ _⟩
      · rw [hlow, Bool.true_and] at HT
        rw [hlow] at hcon
        have HC := Lib.hid hcon; clear hcon
        have htrim : ∀ wx, Calls Tryz.prog 40 #[.string s, .string ⟨alnum.toArray⟩] wx fun e w' => e = .returned (.string ⟨(Lib.trimS s.data.toList (⟨alnum.toArray⟩ : ByteArray).data.toList).toArray⟩) ∧ ∃ q, w' = ((wx.alloc (.cells (Lib.setCells (⟨alnum.toArray⟩ : ByteArray).data.toList) 96)).alloc (.cells (Lib.setCells (⟨alnum.toArray⟩ : ByteArray).data.toList) 96)).drewN q := fun wx => Any.strings_Trim_set Tryz.lays160 (zero_of_info (P := Tryz.prog) (t := 96) (v := .agg (Array.replicate 256 (.bool false))) (n := 256) (by kernel_rfl)).1 (by kernel_rfl) s ⟨alnum.toArray⟩ wx (by decide) (by omega) (by omega) (by decide) (fun j b h => by
          have hm := List.mem_of_getElem? h
          revert hm
          rw [show (⟨alnum.toArray⟩ : ByteArray).data.toList = alnum from by simp]
          intro hm
          exact (show ∀ b ∈ alnum, b.toNat < 128 by decide) b hm)
        rw [show (⟨alnum.toArray⟩ : ByteArray).data.toList = alnum from by simp] at htrim
        generalize Lib.trimS s.data.toList alnum = T at htrim HT
        have HTr := Lib.hid htrim; clear htrim
        have hT : (⟨T.toArray⟩ : ByteArray).toList.isEmpty = T.isEmpty := by rw [Lib.toList_data]
        go_enter Tryz.func18, Tryz.ntmps18
        go_wp2_with (first
          | (go_at_call 39; refine (HC.out _).mono ?_; rintro e w1 ⟨rfl, rfl⟩; refine Hid.out ?_)
          | (go_at_call 40; refine (HTr.out _).mono ?_; rintro e w1 ⟨rfl, n, rfl⟩; refine Hid.out ?_))
        refine Lib.hid ?_
        go_wp2_with (first
          | (go_at_call 40; refine (HTr.out _).mono ?_; rintro e w1 ⟨rfl, n, rfl⟩; refine Hid.out ?_))
        refine Lib.hid ?_
        go_wp2
        go_ret
        exact ⟨ret_bool (by rw [HT.out]), below_drewN (((Below.refl _ _).alloc (Nat.le_refl _) _).alloc (by simp) _) n⟩
end Go.Proofs.YtokibfankmjphaaGreatDoor

/- The other telling of an atom's check, walked. -/
namespace Go.Proofs.YtokibfankmjphaaGreatDoor
open Go.RowKit Qm

set_option maxHeartbeats 3200000 in
theorem rcheck_any (s f : ByteArray) (op ver slot : Int) (on : Bool) (w : World) (hs : s.size ≤ maxLen) (hf : f.size ≤ maxLen) :
    Calls Tryz.prog 22 #[atv s op ver slot f on] w fun e w' => e = .returned (.int .i64 (ckAtom (atOf s op ver slot f on))) ∧ Below w.heap.size w w' := by
  unfold atv
  have ba : Below w.heap.size w (w.alloc (.cells #[.string s, .int .i64 op, .int .i64 ver, .int .i64 slot, .string f, .bool on] 43)) := (Below.refl _ w).alloc (Nat.le_refl _) _
  have Ba := Lib.hid ba; clear ba
  cases hn : isName s.data.toList
  · skip
    go_enter Tryz.func22, Tryz.ntmps22
    go_wp2_with (first
      | (go_at_call 18; refine (rname_any _ _ hs).mono ?_; rintro e w1 ⟨rfl, hb1⟩; have c0 := box_cell hb1 (i := 0) rfl; have c1 := box_cell hb1 (i := 1) rfl; have c2 := box_cell hb1 (i := 2) rfl; have c3 := box_cell hb1 (i := 3) rfl; have c4 := box_cell hb1 (i := 4) rfl; have c5 := box_cell hb1 (i := 5) rfl; refine Hid.out ?_))
    refine Lib.hid ?_
    have HB := Lib.hid (Ba.out.trans (hb1.mono (by simp)))
    clear hb1
    go_wp2
    go_ret
    exact ⟨ret_int (ck1 (a := atOf s op ver slot f on) (.inl hn)).symm, HB.out⟩
  · by_cases h0 : f.data.toList = []
    · obtain ⟨e1, e2⟩ := empty_spell h0
      go_enter Tryz.func22, Tryz.ntmps22
      go_wp2_with (first
        | (go_at_call 18; refine (rname_any _ _ hs).mono ?_; rintro e w1 ⟨rfl, hb1⟩; have c0 := box_cell hb1 (i := 0) rfl; have c1 := box_cell hb1 (i := 1) rfl; have c2 := box_cell hb1 (i := 2) rfl; have c3 := box_cell hb1 (i := 3) rfl; have c4 := box_cell hb1 (i := 4) rfl; have c5 := box_cell hb1 (i := 5) rfl; refine Hid.out ?_))
      refine Lib.hid ?_
      have HB := Lib.hid (Ba.out.trans (hb1.mono (by simp)))
      clear hb1
      have H0 := Lib.hid h0
      have HG := Lib.hid (show ¬ (isName (atOf s op ver slot f on).nm = false ∨ (atOf s op ver slot f on).fl ≠ [] ∧ isName (atOf s op ver slot f on).fl = false) by simp [atOf, hn, h0])
      clear h0
      by_cases o1 : op < 0
      ·
        go_wp2
        go_ret
        exact ⟨ret_int (ck3 (a := atOf s _ _ slot f on) HG.out (by show _ ∨ _; simp only [atOf]; first | omega | exact .inr (.inl ⟨trivial, ‹_›⟩))).symm, HB.out⟩
      have o1' : decide (op < 0) = false := by simpa using o1
      by_cases o2 : 3 < op
      ·
        go_wp2
        go_ret
        exact ⟨ret_int (ck3 (a := atOf s _ _ slot f on) HG.out (by show _ ∨ _; simp only [atOf]; first | omega | exact .inr (.inl ⟨trivial, ‹_›⟩))).symm, HB.out⟩
      have o2' : decide (3 < op) = false := by simpa using o2
      by_cases s1 : slot < 0
      ·
        go_wp2
        go_ret
        exact ⟨ret_int (ck3 (a := atOf s _ _ slot f on) HG.out (by show _ ∨ _; simp only [atOf]; first | omega | exact .inr (.inl ⟨trivial, ‹_›⟩))).symm, HB.out⟩
      have s1' : decide (slot < 0) = false := by simpa using s1
      by_cases s2 : 9 < slot
      ·
        go_wp2
        go_ret
        exact ⟨ret_int (ck3 (a := atOf s _ _ slot f on) HG.out (by show _ ∨ _; simp only [atOf]; first | omega | exact .inr (.inl ⟨trivial, ‹_›⟩))).symm, HB.out⟩
      have s2' : decide (9 < slot) = false := by simpa using s2
      by_cases z : op = 0
      ·
        subst z
        by_cases v : ver = 0
        ·
          subst v
          cases on
          ·
            go_wp2
            go_ret
            exact ⟨ret_int (by rw [ck4 (a := atOf s _ _ slot f false) HG.out (by simp only [atOf]; omega)]; simp [atOf]), HB.out⟩
          ·
            go_wp2
            go_ret
            exact ⟨ret_int (by rw [ck4 (a := atOf s _ _ slot f true) HG.out (by simp only [atOf]; omega)]; simp [atOf, H0.out]), HB.out⟩
        ·
          have v1 : (ver == 0) = false := by simpa using v
          have v2 : (ver != 0) = true := by simpa using v
          go_wp2
          go_ret
          exact ⟨ret_int (ck3 (a := atOf s _ _ slot f on) HG.out (by show _ ∨ _; simp only [atOf]; first | omega | exact .inr (.inl ⟨trivial, ‹_›⟩))).symm, HB.out⟩
      ·
        have z1 : (op == 0) = false := by simpa using z
        have z2 : (op != 0) = true := by simpa using z
        by_cases v1 : ver < 1
        ·
          go_wp2
          go_ret
          exact ⟨ret_int (ck3 (a := atOf s _ _ slot f on) HG.out (by show _ ∨ _; simp only [atOf]; first | omega | exact .inr (.inl ⟨trivial, ‹_›⟩))).symm, HB.out⟩
        have v1' : decide (ver < 1) = false := by simpa using v1
        by_cases v2 : 99 < ver
        ·
          go_wp2
          go_ret
          exact ⟨ret_int (ck3 (a := atOf s _ _ slot f on) HG.out (by show _ ∨ _; simp only [atOf]; first | omega | exact .inr (.inl ⟨trivial, ‹_›⟩))).symm, HB.out⟩
        have v2' : decide (99 < ver) = false := by simpa using v2
        cases on
        ·
          go_wp2
          go_ret
          exact ⟨ret_int (by rw [ck4 (a := atOf s _ _ slot f false) HG.out (by simp only [atOf]; omega)]; simp [atOf]), HB.out⟩
        ·
          go_wp2
          go_ret
          exact ⟨ret_int (by rw [ck4 (a := atOf s _ _ slot f true) HG.out (by simp only [atOf]; omega)]; simp [atOf, H0.out]), HB.out⟩
    · obtain ⟨e1, e2⟩ := full_spell h0
      cases hn2 : isName f.data.toList
      · skip
        go_enter Tryz.func22, Tryz.ntmps22
        go_wp2_with (first
          | (go_at_call 18; refine (rname_any _ _ hs).mono ?_; rintro e w1 ⟨rfl, hb1⟩; have c0 := box_cell hb1 (i := 0) rfl; have c1 := box_cell hb1 (i := 1) rfl; have c2 := box_cell hb1 (i := 2) rfl; have c3 := box_cell hb1 (i := 3) rfl; have c4 := box_cell hb1 (i := 4) rfl; have c5 := box_cell hb1 (i := 5) rfl; refine Hid.out ?_))
        refine Lib.hid ?_
        go_wp2_with (first
          | (go_at_call 18; refine (rname_any _ _ hf).mono ?_; rintro e w2 ⟨rfl, hb2⟩; replace c0 := (hb2.cell (World.block_lt_of_cell? _ _ c0)).trans c0; replace c1 := (hb2.cell (World.block_lt_of_cell? _ _ c1)).trans c1; replace c2 := (hb2.cell (World.block_lt_of_cell? _ _ c2)).trans c2; replace c3 := (hb2.cell (World.block_lt_of_cell? _ _ c3)).trans c3; replace c4 := (hb2.cell (World.block_lt_of_cell? _ _ c4)).trans c4; replace c5 := (hb2.cell (World.block_lt_of_cell? _ _ c5)).trans c5; refine Hid.out ?_))
        refine Lib.hid ?_
        have HB := Lib.hid (Ba.out.trans ((hb1.mono (by simp)).trans (hb2.mono (Nat.le_trans (by simp) hb1.size))))
        clear hb1 hb2
        go_wp2
        go_ret
        exact ⟨ret_int (ck1 (a := atOf s op ver slot f on) (.inr ⟨h0, hn2⟩)).symm, HB.out⟩
      · skip
        go_enter Tryz.func22, Tryz.ntmps22
        go_wp2_with (first
          | (go_at_call 18; refine (rname_any _ _ hs).mono ?_; rintro e w1 ⟨rfl, hb1⟩; have c0 := box_cell hb1 (i := 0) rfl; have c1 := box_cell hb1 (i := 1) rfl; have c2 := box_cell hb1 (i := 2) rfl; have c3 := box_cell hb1 (i := 3) rfl; have c4 := box_cell hb1 (i := 4) rfl; have c5 := box_cell hb1 (i := 5) rfl; refine Hid.out ?_))
        refine Lib.hid ?_
        go_wp2_with (first
          | (go_at_call 18; refine (rname_any _ _ hf).mono ?_; rintro e w2 ⟨rfl, hb2⟩; replace c0 := (hb2.cell (World.block_lt_of_cell? _ _ c0)).trans c0; replace c1 := (hb2.cell (World.block_lt_of_cell? _ _ c1)).trans c1; replace c2 := (hb2.cell (World.block_lt_of_cell? _ _ c2)).trans c2; replace c3 := (hb2.cell (World.block_lt_of_cell? _ _ c3)).trans c3; replace c4 := (hb2.cell (World.block_lt_of_cell? _ _ c4)).trans c4; replace c5 := (hb2.cell (World.block_lt_of_cell? _ _ c5)).trans c5; refine Hid.out ?_))
        refine Lib.hid ?_
        have HB := Lib.hid (Ba.out.trans ((hb1.mono (by simp)).trans (hb2.mono (Nat.le_trans (by simp) hb1.size))))
        clear hb1 hb2
        have H0 := Lib.hid h0
        have HG := Lib.hid (show ¬ (isName (atOf s op ver slot f on).nm = false ∨ (atOf s op ver slot f on).fl ≠ [] ∧ isName (atOf s op ver slot f on).fl = false) by simp [atOf, hn, hn2])
        clear h0
        by_cases o1 : op < 0
        ·
          go_wp2
          go_ret
          exact ⟨ret_int (ck3 (a := atOf s _ _ slot f on) HG.out (by show _ ∨ _; simp only [atOf]; first | omega | exact .inr (.inl ⟨trivial, ‹_›⟩))).symm, HB.out⟩
        have o1' : decide (op < 0) = false := by simpa using o1
        by_cases o2 : 3 < op
        ·
          go_wp2
          go_ret
          exact ⟨ret_int (ck3 (a := atOf s _ _ slot f on) HG.out (by show _ ∨ _; simp only [atOf]; first | omega | exact .inr (.inl ⟨trivial, ‹_›⟩))).symm, HB.out⟩
        have o2' : decide (3 < op) = false := by simpa using o2
        by_cases s1 : slot < 0
        ·
          go_wp2
          go_ret
          exact ⟨ret_int (ck3 (a := atOf s _ _ slot f on) HG.out (by show _ ∨ _; simp only [atOf]; first | omega | exact .inr (.inl ⟨trivial, ‹_›⟩))).symm, HB.out⟩
        have s1' : decide (slot < 0) = false := by simpa using s1
        by_cases s2 : 9 < slot
        ·
          go_wp2
          go_ret
          exact ⟨ret_int (ck3 (a := atOf s _ _ slot f on) HG.out (by show _ ∨ _; simp only [atOf]; first | omega | exact .inr (.inl ⟨trivial, ‹_›⟩))).symm, HB.out⟩
        have s2' : decide (9 < slot) = false := by simpa using s2
        by_cases z : op = 0
        ·
          subst z
          by_cases v : ver = 0
          ·
            subst v
            cases on
            ·
              go_wp2
              go_ret
              exact ⟨ret_int (by rw [ck4 (a := atOf s _ _ slot f _) HG.out (by simp only [atOf]; omega)]; simp [atOf, H0.out]), HB.out⟩
            ·
              go_wp2
              go_ret
              exact ⟨ret_int (by rw [ck4 (a := atOf s _ _ slot f _) HG.out (by simp only [atOf]; omega)]; simp [atOf, H0.out]), HB.out⟩
          ·
            have v1 : (ver == 0) = false := by simpa using v
            have v2 : (ver != 0) = true := by simpa using v
            go_wp2
            go_ret
            exact ⟨ret_int (ck3 (a := atOf s _ _ slot f on) HG.out (by show _ ∨ _; simp only [atOf]; first | omega | exact .inr (.inl ⟨trivial, ‹_›⟩))).symm, HB.out⟩
        ·
          have z1 : (op == 0) = false := by simpa using z
          have z2 : (op != 0) = true := by simpa using z
          by_cases v1 : ver < 1
          ·
            go_wp2
            go_ret
            exact ⟨ret_int (ck3 (a := atOf s _ _ slot f on) HG.out (by show _ ∨ _; simp only [atOf]; first | omega | exact .inr (.inl ⟨trivial, ‹_›⟩))).symm, HB.out⟩
          have v1' : decide (ver < 1) = false := by simpa using v1
          by_cases v2 : 99 < ver
          ·
            go_wp2
            go_ret
            exact ⟨ret_int (ck3 (a := atOf s _ _ slot f on) HG.out (by show _ ∨ _; simp only [atOf]; first | omega | exact .inr (.inl ⟨trivial, ‹_›⟩))).symm, HB.out⟩
          have v2' : decide (99 < ver) = false := by simpa using v2
          cases on
          ·
            go_wp2
            go_ret
            exact ⟨ret_int (by rw [ck4 (a := atOf s _ _ slot f _) HG.out (by simp only [atOf]; omega)]; simp [atOf, H0.out]), HB.out⟩
          ·
            go_wp2
            go_ret
            exact ⟨ret_int (by rw [ck4 (a := atOf s _ _ slot f _) HG.out (by simp only [atOf]; omega)]; simp [atOf, H0.out]), HB.out⟩
end Go.Proofs.YtokibfankmjphaaGreatDoor

/- quartermasterref.CheckWish, walked. (Printed by wip/bin/mkrwish.py out of XVW6.) -/
namespace Go.Proofs.YtokibfankmjphaaGreatDoor
open Go.RowKit Qm

/-- Flags of a right tree are few: places by one number. -/
theorem badOn_num {q0 q1 y x1 : Int} (h1 : 0 ≤ q1) (h2 : q1 ≤ 9) (h3 : 0 ≤ x1) (h4 : x1 ≤ 9) : badOn (some (q0, q1)) (y, x1) = decide (10 * y + x1 ≤ 10 * q0 + q1) := by
  simp only [badOn]
  by_cases hq : q0 < y
  · rw [decide_eq_true hq, decide_eq_false (show ¬ 10 * y + x1 ≤ 10 * q0 + q1 by omega)]; rfl
  · rw [decide_eq_false hq, Bool.false_or]
    by_cases he : q0 = y
    · rw [decide_eq_true he, Bool.true_and]
      by_cases hx : q1 < x1
      · rw [decide_eq_true hx, decide_eq_false (by omega)]; rfl
      · rw [decide_eq_false hx, decide_eq_true (by omega)]; rfl
    · rw [decide_eq_false he, Bool.false_and, decide_eq_true (by omega)]; rfl
set_option maxRecDepth 100000 in
set_option maxHeartbeats 6400000 in
theorem rcwish_any (ps : List Pk) (v : Ws) (S : Nat → Prop) (A : Option Addr) (n c : Nat) (A1 A2 A3 A4 : Option Addr) (n1 c1 n2 c2 n3 c3 n4 c4 : Nat) (w : World) (hT : RTree w S A n ps) (hck : ckTree ps = 0) (hnc : n ≤ c) (hc : c ≤ maxLen) (hV : WsAt w S A1 n1 c1 A2 n2 c2 A3 n3 c3 A4 n4 c4 v) (hS : ∀ k, S k → k < w.heap.size) :
    Calls Tryz.prog 9 #[.agg #[.slice A n c], .agg #[.slice A1 n1 c1, .slice A2 n2 c2, .slice A3 n3 c3, .slice A4 n4 c4]] w fun e w' => e = .returned (.int .i64 (ckWish ps v)) ∧ Below w.heap.size w w' := by
  have Hpl := Lib.hid hT.len
  have X0 := Lib.hid (Wb.new w A n c [.slice A1 n1 c1, .slice A2 n2 c2, .slice A3 n3 c3, .slice A4 n4 c4])
  have HT := Lib.hid hT; have HS := Lib.hid hS; have HV := Lib.hid hV; clear hT hS hV
  have hl0 := fun q hq => Nat.lt_of_lt_of_le (HS.out q hq) X0.out.bel.size
  have hn8 : n ≤ 8 := by rw [← Hpl.out]; exact ckTree_len hck
  have HOK : Hid (∀ p ∈ ps, p.fs.length ≤ 2) := Lib.hid fun p hp => (pkOk (ckTree_mem hck p hp)).len
  have Hcs := Lib.hid (rcset_any ps v.ins S A A2 n c n2 c2 _ (HT.out.under X0.out.bel HS.out) hn8 hnc hc (HV.out.ins.under X0.out.bel HS.out) (Nat.le_trans HV.out.h2.1 HV.out.h2.2) hl0)
  clear hl0
  have H1 := HV.out.h1; have H2 := HV.out.h2; have H3 := HV.out.h3; have H4 := HV.out.h4
  unfold maxLen at hc H1 H2 H3 H4
  have hts := HV.out.ts.len
  have hms := HV.out.ms.len
  have hon := HV.out.on.len
  have HR : Hid (ckWish ps v = if ckMs ps none v.ins ≠ 0 then ckMs ps none v.ins else ckWishR ps v) := Lib.hid (by unfold ckWish ckSet; rw [if_neg (show ¬ (ckTree ps ≠ 0) by simp [hck])])
  clear hck
  have HR1 : Hid (ckWishR ps v = if 6 < v.ts.length then 2 else if ckAts v.ts ≠ 0 then ckAts v.ts else if ckMask ps none v.ms ≠ 0 then ckMask ps none v.ms else ckOn ps none v.on) := Lib.hid rfl
  generalize ckWish ps v = R at HR ⊢
  generalize hz : ckMs ps none v.ins = z at Hcs HR
  have HZ := Lib.hid hz; clear hz
  have Hts := Lib.hid hts; have Hms := Lib.hid hms; have Hon := Lib.hid hon
  clear hts hms hon
  by_cases z0 : z = 0
  · subst z0
    have HR2 : Hid (R = if 6 < n1 then 2 else if ckAts v.ts ≠ 0 then ckAts v.ts else if ckMask ps none v.ms ≠ 0 then ckMask ps none v.ms else ckOn ps none v.on) := Lib.hid (by rw [HR.out, if_neg (by simp), HR1.out, Hts.out])
    clear HR HR1
    by_cases h6 : (6 : Int) < n1
    ·
      go_enter Tryz.func9, Tryz.ntmps9
      go_wp2_with (first | (go_at_call 11; refine Hcs.out.mono ?_; rintro e w2 ⟨rfl, hb2⟩; refine Hid.out ?_))
      refine Lib.hid ?_
      have X2 := Lib.hid (X0.out.move hb2)
      clear hb2 X0 Hcs
      have v0 := X2.out.v.cell 0
      simp only [List.getElem?_cons_zero] at v0
      go_wp2
      go_ret
      exact ⟨ret_int (by rw [HR2.out, if_pos (by omega)]), X2.out.bel⟩
    have h6' : decide ((6 : Int) < n1) = false := decide_eq_false h6
    have HRA : Hid (R = if ckAts v.ts ≠ 0 then ckAts v.ts else if ckMask ps none v.ms ≠ 0 then ckMask ps none v.ms else ckOn ps none v.on) := Lib.hid (by rw [HR2.out, if_neg (by omega)])
    clear HR2
    go_enter Tryz.func9, Tryz.ntmps9
    go_wp2_with (first | (go_at_call 11; refine Hcs.out.mono ?_; rintro e w2 ⟨rfl, hb2⟩; refine Hid.out ?_))
    refine Lib.hid ?_
    have X2 := Lib.hid (X0.out.move hb2)
    clear hb2 X0 Hcs
    have v0 := X2.out.v.cell 0
    simp only [List.getElem?_cons_zero] at v0
    have vlt := X2.out.v.lt
    go_wp2
    clear v0 vlt
    go_loopg [29] n1 (fun g iv wr => ∃ j : Nat, Hid (j + g = n1) ∧ iv = .int .i64 j ∧ Hid (ckAts v.ts = ckAts (v.ts.drop j)) ∧ Hid (Wb w A n c [.slice A1 n1 c1, .slice A2 n2 c2, .slice A3 n3 c3, .slice A4 n4 c4] wr))
    case atStart => exact ⟨0, Lib.hid (Nat.zero_add _), rfl, Lib.hid rfl, X2⟩
    case round =>
      obtain ⟨j, Hj, rfl, Hcl, XR⟩ := hrel
      clear X2
      by_cases hj : j < n1
      · obtain ⟨b, o, x, a, rfl, hbS, ha, hxa, _, hcell⟩ := (HV.out.ts.keep (w' := wr) (fun p hp => XR.out.bel.cell (HS.out _ hp)) fun _ _ h => h).at_ hj (by decide)
        obtain ⟨rfl, ha1, ha2⟩ := hxa
        have Hst := Lib.hid (ckAts_step ha)
        have hac := fun wx => rcheck_any ⟨a.nm.toArray⟩ ⟨a.fl.toArray⟩ a.op a.ver a.slot a.on wx (by rw [bsz]; exact ha1) (by rw [bsz]; exact ha2)
        rw [atOf_mk] at hac
        unfold atv at hac
        generalize ckAtom a = y at hac Hst
        have Hac := Lib.hid hac; clear hac
        have g0 := hcell 0 (by omega); have g1 := hcell 1 (by omega); have g2 := hcell 2 (by omega); have g3 := hcell 3 (by omega); have g4 := hcell 4 (by omega); have g5 := hcell 5 (by omega)
        unfold atRow at g0 g1 g2 g3 g4 g5
        simp only [List.getElem?_cons_zero, List.getElem?_cons_succ, Nat.add_zero] at g0 g1 g2 g3 g4 g5
        have X3 := Lib.hid (XR.out.alloc (.cells #[.string ⟨a.nm.toArray⟩, .int .i64 a.op, .int .i64 a.ver, .int .i64 a.slot, .string ⟨a.fl.toArray⟩, .bool a.on] 43))
        clear hcell ha ha1 ha2
        go_wp2_with (first | (go_at_call 22; refine (Hac.out _).mono ?_; rintro e w4 ⟨rfl, hb4⟩; refine Hid.out ?_))
        refine Lib.hid ?_
        have X4 := Lib.hid (X3.out.move hb4)
        clear hb4 g0 g1 g2 g3 g4 g5
        by_cases y0 : y = 0
        · subst y0
          have HE : Hid (ckAts (v.ts.drop j) = ckAts (v.ts.drop (j + 1))) := Lib.hid (by rw [Hst.out, if_neg (by simp)])
          go_wp2
          go_roundg (gk - 1)
          case measure => have := Hj.out; omega
          case rel => exact ⟨j + 1, Lib.hid (by have := Hj.out; omega), by go_num, Lib.hid (by rw [Hcl.out, HE.out]), X4⟩
        · have y1 : (y != 0) = true := by simpa using y0
          have HE : Hid (ckAts v.ts = y) := Lib.hid (by rw [Hcl.out, Hst.out, if_pos y0])
          go_wp2
          go_ret
          exact ⟨ret_int (by rw [HRA.out, HE.out, if_pos y0]), X4.out.bel⟩
      · obtain rfl : n1 = j := by have := Hj.out; omega
        have HRB : Hid (R = if ckMask ps none v.ms ≠ 0 then ckMask ps none v.ms else ckOn ps none v.on) := Lib.hid (by
          rw [HRA.out, Hcl.out, List.drop_of_length_le (by have := Hts.out; omega)]; rfl)
        clear HRA Hcl
        have v2 := XR.out.v.cell 2
        simp only [List.getElem?_cons_zero, List.getElem?_cons_succ] at v2
        go_wp2
        clear v2
        obtain ⟨wq, hwq⟩ : ∃ x, x = wr := ⟨_, rfl⟩
        rw [← hwq] at XR ⊢
        clear hwq
        go_loopg [42] n3 (fun g iv wr => ∃ j : Nat, Hid (j + g = n3) ∧ iv = .int .i64 j ∧ Hid (ckMask ps none v.ms = ckMask ps (prevOf v.ms j) (v.ms.drop j)) ∧ Hid (Wb w A n c [.slice A1 n1 c1, .slice A2 n2 c2, .slice A3 n3 c3, .slice A4 n4 c4] wr))
        case atStart => exact ⟨0, Lib.hid (Nat.zero_add _), rfl, Lib.hid rfl, XR⟩
        case round =>
          obtain ⟨j, Hj, rfl, Hcl, XQ⟩ := hrel
          clear XR
          by_cases hj : j < n3
          · obtain ⟨b, o, rfl, hbS, g0⟩ := RInts.at_ (RInts.keep (w' := wr) HV.out.ms fun p hp => XQ.out.bel.cell (HS.out _ hp)) hj
            have Hst := Lib.hid (ckMask_step (ps := ps) (getD_some (l := v.ms) (j := j) (by have := Hms.out; omega)))
            have hbl : b < wr.heap.size := Nat.lt_of_lt_of_le (HS.out _ hbS) XQ.out.bel.size
            have t0 := XQ.out.t.cell 0
            have v2 := XQ.out.v.cell 2
            simp only [List.getElem?_cons_zero, List.getElem?_cons_succ] at t0 v2
            generalize v.ms.getD j 0 = x at g0 Hst
            by_cases hneg : x < 0
            · have HE : Hid (ckMask ps none v.ms = 5) := Lib.hid (by rw [Hcl.out, Hst.out, if_pos (.inl hneg)])
              have hneg' : decide (x < 0) = true := decide_eq_true hneg
              go_wp2
              go_ret
              exact ⟨ret_int (by rw [HRB.out, HE.out, if_pos (by decide)]), XQ.out.bel⟩
            have hneg' : decide (x < 0) = false := decide_eq_false hneg
            by_cases hpn : (n : Int) ≤ x
            · have HE : Hid (ckMask ps none v.ms = 5) := Lib.hid (by rw [Hcl.out, Hst.out, if_pos (.inr (by rw [Hpl.out]; exact hpn))])
              have hpn' : decide ((n : Int) ≤ x) = true := decide_eq_true hpn
              go_wp2
              go_ret
              exact ⟨ret_int (by rw [HRB.out, HE.out, if_pos (by decide)]), XQ.out.bel⟩
            have hpn' : decide ((n : Int) ≤ x) = false := decide_eq_false hpn
            have HSt2 : Hid (ckMask ps none v.ms = if badPl (prevOf v.ms j) x = true then 6 else ckMask ps (prevOf v.ms (j + 1)) (v.ms.drop (j + 1))) := Lib.hid (by rw [Hcl.out, Hst.out, if_neg (by have := Hpl.out; omega)])
            clear Hst Hcl
            rcases j with _ | i
            · have HE : Hid (ckMask ps none v.ms = ckMask ps (prevOf v.ms (0 + 1)) (v.ms.drop (0 + 1))) := Lib.hid (by rw [HSt2.out, if_neg (by rw [prevOf_zero]; simp [badPl])])
              simp only [Nat.add_zero] at g0
              go_wp2
              go_roundg (gk - 1)
              case measure => have := Hj.out; omega
              case rel => exact ⟨0 + 1, Lib.hid (by have := Hj.out; omega), by go_num, HE, XQ⟩
            · obtain ⟨b', o', e, _, k0⟩ := RInts.at_ (RInts.keep (w' := wr) HV.out.ms fun p hp => XQ.out.bel.cell (HS.out _ hp)) (k := i) (by omega)
              injection e with e; injection e with e1 e2; subst e1 e2
              have Hpr : Hid (prevOf v.ms (i + 1) = some (v.ms.getD i 0)) := Lib.hid (prevOf_succ (getD_some (by have := Hms.out; omega)))
              have HSt3 : Hid (ckMask ps none v.ms = if badPl (some (v.ms.getD i 0)) x = true then 6 else ckMask ps (prevOf v.ms (i + 1 + 1)) (v.ms.drop (i + 1 + 1))) := Lib.hid (by rw [HSt2.out, Hpr.out])
              clear HSt2
              generalize v.ms.getD i 0 = pp at k0 HSt3
              have hwr : IntKind.i64.wrap ((i : Int) + 1 - 1) = (i : Int) := by rw [IntKind.wrap_i64]; omega
              have hwr0 : IntKind.i64.wrap (i : Int) = (i : Int) := by rw [IntKind.wrap_i64]; omega
              have hin : i < n3 := by omega
              have hin2 : (i : Int) < n3 := by omega
              have hin3 : (0 : Int) < (i : Int) + 1 := by omega
              by_cases hb : x ≤ pp
              · have HE : Hid (ckMask ps none v.ms = 6) := Lib.hid (by rw [HSt3.out, if_pos (by simpa [badPl] using hb)])
                have hb' : decide (x ≤ pp) = true := decide_eq_true hb
                go_wp2
                go_ret
                exact ⟨ret_int (by rw [HRB.out, HE.out, if_pos (by decide)]), XQ.out.bel⟩
              · have HE : Hid (ckMask ps none v.ms = ckMask ps (prevOf v.ms (i + 1 + 1)) (v.ms.drop (i + 1 + 1))) := Lib.hid (by rw [HSt3.out, if_neg (by simpa [badPl] using hb)])
                have hb' : decide (x ≤ pp) = false := decide_eq_false hb
                go_wp2
                go_roundg (gk - 1)
                case measure => have := Hj.out; omega
                case rel => exact ⟨i + 1 + 1, Lib.hid (by have := Hj.out; omega), by go_num, HE, XQ⟩
          · obtain rfl : n3 = j := by have := Hj.out; omega
            have HRC : Hid (R = ckOn ps none v.on) := Lib.hid (by
              rw [HRB.out, Hcl.out, List.drop_of_length_le (by have := Hms.out; omega)]; rfl)
            clear HRB Hcl
            have v3 := XQ.out.v.cell 3
            simp only [List.getElem?_cons_zero, List.getElem?_cons_succ] at v3
            go_wp2
            clear v3
            obtain ⟨wu, hwu⟩ : ∃ x, x = wr := ⟨_, rfl⟩
            rw [← hwu] at XQ ⊢
            clear hwu
            go_loopg [11, 72] n4 (fun g lv iv wr => ∃ (j : Nat) (la : Int), Hid (j + g = n4) ∧ iv = .int .i64 j ∧ lv = .int .i64 la ∧ -1 ≤ la ∧ la ≤ 1000 ∧ Hid (j = 0 → la = -1) ∧ Hid (∀ q, prevOf v.on j = some q → la = 10 * q.1 + q.2 ∧ 0 ≤ q.2 ∧ q.2 ≤ 9) ∧ Hid (ckOn ps none v.on = ckOn ps (prevOf v.on j) (v.on.drop j)) ∧ Hid (Wb w A n c [.slice A1 n1 c1, .slice A2 n2 c2, .slice A3 n3 c3, .slice A4 n4 c4] wr))
            case atStart => exact ⟨0, -1, Lib.hid (Nat.zero_add _), rfl, rfl, by omega, by omega, Lib.hid (fun _ => rfl), Lib.hid (fun q h => by rw [prevOf_zero] at h; cases h), Lib.hid rfl, XQ⟩
            case round =>
              obtain ⟨j, la, Hj, rfl, rfl, hla1, hla2, Hl0, Hla, Hcl, XT⟩ := hrel
              clear XQ
              by_cases hj : j < n4
              · obtain ⟨b, o, x, y, rfl, hbS, hy, hxy, _, hcell⟩ := (HV.out.on.keep (w' := wr) (fun p hp => XT.out.bel.cell (HS.out _ hp)) fun _ _ h => h).at_ hj (by decide)
                have Hst := Lib.hid (ckOn_step (ps := ps) hy)
                have hyq := Lib.hid hy
                unfold RPair at hxy
                subst hxy
                obtain ⟨x0, x1⟩ := y
                have hbl : b < wr.heap.size := Nat.lt_of_lt_of_le (HS.out _ hbS) XT.out.bel.size
                have g0 := hcell 0 (by omega); have g1 := hcell 1 (by omega)
                simp only [List.getElem?_cons_zero, List.getElem?_cons_succ, Nat.add_zero] at g0 g1
                dsimp only at Hst
                have X3 := Lib.hid (XT.out.alloc (.cells #[.int .i64 x0, .int .i64 x1] 60))
                have t0 := XT.out.t.cell 0
                have v3 := XT.out.v.cell 3
                simp only [List.getElem?_cons_zero, List.getElem?_cons_succ] at t0 v3
                have vlt := XT.out.v.lt
                have tlt := XT.out.t.lt
                clear hcell hy
                have HR3 : Hid (R = ckOn ps none v.on) := HRC
                by_cases hneg : x0 < 0
                · have HE : Hid (ckOn ps (prevOf v.on j) (v.on.drop j) = 5) := Lib.hid (by rw [Hst.out, if_pos (.inl hneg)])
                  have hneg' : decide (x0 < 0) = true := decide_eq_true hneg
                  go_wp2
                  go_quiet (fail)
                  go_wp2
                  go_ret
                  exact ⟨ret_int (by rw [HR3.out, Hcl.out, HE.out]), below_drewN X3.out.bel _⟩
                have hneg' : decide (x0 < 0) = false := decide_eq_false hneg
                by_cases hpn : (n : Int) ≤ x0
                · have HE : Hid (ckOn ps (prevOf v.on j) (v.on.drop j) = 5) := Lib.hid (by rw [Hst.out, if_pos (.inr (.inl (by rw [Hpl.out]; exact hpn)))])
                  have hpn' : decide ((n : Int) ≤ x0) = true := decide_eq_true hpn
                  go_wp2
                  go_quiet (fail)
                  go_wp2
                  go_ret
                  exact ⟨ret_int (by rw [HR3.out, Hcl.out, HE.out]), below_drewN X3.out.bel _⟩
                have hpn' : decide ((n : Int) ≤ x0) = false := decide_eq_false hpn
                by_cases hneg1 : x1 < 0
                · have HE : Hid (ckOn ps (prevOf v.on j) (v.on.drop j) = 5) := Lib.hid (by rw [Hst.out, if_pos (.inr (.inr (.inl hneg1)))])
                  have hneg1' : decide (x1 < 0) = true := decide_eq_true hneg1
                  go_wp2
                  go_quiet (fail)
                  go_wp2
                  go_ret
                  exact ⟨ret_int (by rw [HR3.out, Hcl.out, HE.out]), below_drewN X3.out.bel _⟩
                have hneg1' : decide (x1 < 0) = false := decide_eq_false hneg1
                obtain ⟨y, rfl⟩ : ∃ y : Nat, x0 = y := ⟨x0.toNat, by omega⟩
                have hyn : y < n := by omega
                obtain ⟨b2, o2, p, D, fn, fc, kd, pa, f, no, F, fq, fd, rfl, hbS2, hp, hP, hcell⟩ := (HT.out.under XT.out.bel HS.out).at_ hyn
                have h3 := hcell 3 (by omega)
                unfold pkRow ndRow at h3
                simp only [List.getElem?_cons_zero, List.getElem?_cons_succ] at h3
                have Hfl : Hid ((pkOf ps (y : Int)).fs.length = fn) := Lib.hid (by unfold pkOf; rw [Int.toNat_natCast, List.getD_eq_getElem?_getD, hp]; exact hP.fs.len)
                have hbl2 : b2 < wr.heap.size := Nat.lt_of_lt_of_le (HS.out _ hbS2) XT.out.bel.size
                have hy0 : (0 : Int) ≤ (y : Int) := by omega
                have hy1 : (y : Int) < n := by omega
                have Hf2 : Hid (fn ≤ 2) := Lib.hid (by have := HOK.out p (List.mem_of_getElem? hp); have := hP.fs.len; omega)
                clear hcell hp hP
                by_cases hfn : (fn : Int) ≤ x1
                · have HE : Hid (ckOn ps (prevOf v.on j) (v.on.drop j) = 5) := Lib.hid (by rw [Hst.out, if_pos (.inr (.inr (.inr (by rw [Hfl.out]; exact hfn))))])
                  have hfn' : decide ((fn : Int) ≤ x1) = true := decide_eq_true hfn
                  go_wp2
                  go_quiet (fail)
                  go_wp2
                  go_ret
                  exact ⟨ret_int (by rw [HR3.out, Hcl.out, HE.out]), below_drewN X3.out.bel _⟩
                have hfn' : decide ((fn : Int) ≤ x1) = false := decide_eq_false hfn
                have HSt2 : Hid (ckOn ps none v.on = if badOn (prevOf v.on j) ((y : Int), x1) = true then 6 else ckOn ps (prevOf v.on (j + 1)) (v.on.drop (j + 1))) := Lib.hid (by rw [Hcl.out, Hst.out, if_neg (by have := Hpl.out; have := Hfl.out; omega)])
                have hx9 : x1 ≤ 9 := by have := Hf2.out; omega
                have hx0 : 0 ≤ x1 := by omega
                have hy8 : (y : Int) ≤ 8 := by omega
                have HP := Lib.hid (prevOf_succ hyq.out)
                clear Hst Hcl
                rcases j with _ | i
                · have HE : Hid (ckOn ps none v.on = ckOn ps (prevOf v.on (0 + 1)) (v.on.drop (0 + 1))) := Lib.hid (by rw [HSt2.out, if_neg (by rw [prevOf_zero]; simp [badOn])])
                  simp only [Nat.zero_mul, Nat.add_zero, Nat.zero_add] at g0 g1
                  obtain rfl : la = -1 := Hl0.out rfl
                  have hle : decide (10 * (y : Int) + x1 ≤ -1) = false := decide_eq_false (by omega)
                  go_wp2
                  go_quiet (fail)
                  go_wp2
                  go_roundg (gk - 1)
                  case measure => have := Hj.out; omega
                  case rel => exact ⟨(0 + 1), 10 * (y : Int) + x1, Lib.hid (by have := Hj.out; omega), by go_num, rfl, by omega, by omega, Lib.hid (fun h => by omega), Lib.hid (fun q h => by rw [HP.out] at h; cases Option.some.inj h; exact ⟨rfl, hx0, hx9⟩), HE, Lib.hid (X3.out.drewN _)⟩
                · obtain ⟨⟨q0, q1⟩, hq⟩ : ∃ q, v.on[i]? = some q := ⟨_, List.getElem?_eq_getElem (by have := Hon.out; omega)⟩
                  have Hpr : Hid (prevOf v.on (i + 1) = some (q0, q1)) := Lib.hid (prevOf_succ hq)
                  obtain ⟨hl1, hl2, hl3⟩ := Hla.out _ Hpr.out
                  dsimp only at hl1 hl2 hl3
                  have hbo := badOn_num (q0 := q0) (q1 := q1) (y := (y : Int)) (x1 := x1) hl2 hl3 hx0 hx9
                  rw [← hl1] at hbo
                  have HSt3 : Hid (ckOn ps none v.on = if decide (10 * (y : Int) + x1 ≤ la) = true then 6 else ckOn ps (prevOf v.on (i + 1 + 1)) (v.on.drop (i + 1 + 1))) := Lib.hid (by rw [HSt2.out, Hpr.out, hbo])
                  clear HSt2 hq hbo hl1 hl2 hl3 Hpr Hla Hl0
                  by_cases hle0 : 10 * (y : Int) + x1 ≤ la
                  · have hle : decide (10 * (y : Int) + x1 ≤ la) = true := decide_eq_true hle0
                    have HE : Hid (ckOn ps none v.on = 6) := Lib.hid (by rw [HSt3.out, if_pos hle])
                    go_wp2
                    go_quiet (fail)
                    go_wp2
                    go_ret
                    exact ⟨ret_int (by rw [HR3.out, HE.out]), below_drewN X3.out.bel _⟩
                  · have hle : decide (10 * (y : Int) + x1 ≤ la) = false := decide_eq_false hle0
                    have HE : Hid (ckOn ps none v.on = ckOn ps (prevOf v.on (i + 1 + 1)) (v.on.drop (i + 1 + 1))) := Lib.hid (by rw [HSt3.out, if_neg (by rw [hle]; simp)])
                    go_wp2
                    go_quiet (fail)
                    go_wp2
                    go_roundg (gk - 1)
                    case measure => have := Hj.out; omega
                    case rel => exact ⟨(i + 1 + 1), 10 * (y : Int) + x1, Lib.hid (by have := Hj.out; omega), by go_num, rfl, by omega, by omega, Lib.hid (fun h => by omega), Lib.hid (fun q h => by rw [HP.out] at h; cases Option.some.inj h; exact ⟨rfl, hx0, hx9⟩), HE, Lib.hid (X3.out.drewN _)⟩
              · obtain rfl : n4 = j := by have := Hj.out; omega
                go_wp2
                go_ret
                exact ⟨ret_int (by rw [HRC.out, Hcl.out, List.drop_of_length_le (by have := Hon.out; omega)]; rfl), XT.out.bel⟩
  · have z1 : (z != 0) = true := by simpa using z0
    go_enter Tryz.func9, Tryz.ntmps9
    go_wp2_with (first | (go_at_call 11; refine Hcs.out.mono ?_; rintro e w2 ⟨rfl, hb2⟩; refine Hid.out ?_))
    refine Lib.hid ?_
    have X2 := Lib.hid (X0.out.move hb2)
    clear hb2 X0 Hcs
    go_wp2
    go_ret
    exact ⟨ret_int (by rw [HR.out, if_pos z0]), X2.out.bel⟩
end Go.Proofs.YtokibfankmjphaaGreatDoor
