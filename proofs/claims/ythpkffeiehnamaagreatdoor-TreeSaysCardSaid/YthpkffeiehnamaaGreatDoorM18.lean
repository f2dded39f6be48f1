/- Parts of the proof: walks and plain laws, side by side. -/
import Derived.Test.YthpkffeiehnamaaGreatDoorM2
import Derived.Test.YthpkffeiehnamaaGreatDoorM1
import Derived.Lib.SlTrimSet
import Derived.Test.YthpkffeiehnamaaGreatDoorM6
import Derived.Shelf.Strings.SlTrimAscii
import Derived.Test.YthpkffeiehnamaaGreatDoorM3
set_option linter.unusedVariables false
set_option linter.unusedSimpArgs false
set_option linter.unusedSectionVars false
/- quartermasterref.sized, walked. -/
namespace Qm
open Go
mutual
def szd : Nd → Nat → Int × Int
  | .mk _ _ _ _ ks, l => if l = 0 then (0, 99) else szdL ks (l - 1) 1 0
def szdL : List Nd → Nat → Int → Int → Int × Int
  | [], _, all, dp => (all, dp + 1)
  | k :: r, l, all, dp => if 100 < all + (szd k l).1 ∨ 50 < (szd k l).2 then (101, 99) else szdL r l (all + (szd k l).1) (max dp (szd k l).2)
end
theorem Nd.deep_pos (n : Nd) : 1 ≤ n.deep := by cases n; simp only [Nd.deep]; omega
theorem szdL_spec {ks : List Nd} {l : Nat} (ih : ∀ x ∈ ks, ((x.deep ≤ l ∧ x.nodes ≤ 100) ∧ szd x l = ((x.nodes : Int), (x.deep : Int))) ∨ (¬ (x.deep ≤ l ∧ x.nodes ≤ 100) ∧ (szd x l).2 = 99 ∧ 0 ≤ (szd x l).1 ∧ (szd x l).1 ≤ 101)) (hl : l ≤ 50) :
    ∀ (all dp : Nat), 1 ≤ all → all ≤ 100 → dp ≤ l → ((max dp (deepL ks) ≤ l ∧ all + nodesL ks ≤ 100) ∧ szdL ks l all dp = (((all + nodesL ks : Nat) : Int), ((max dp (deepL ks) + 1 : Nat) : Int))) ∨ (¬ (max dp (deepL ks) ≤ l ∧ all + nodesL ks ≤ 100) ∧ szdL ks l all dp = (101, 99)) := by
  induction ks with
  | nil => intro all dp h1 h2 h3; exact .inl ⟨by simp only [deepL, nodesL]; omega, by simp only [szdL, nodesL, deepL]; congr 1 <;> omega⟩
  | cons k r ihr =>
    intro all dp h1 h2 h3
    have ir := ihr fun x hx => ih x (List.mem_cons_of_mem _ hx)
    simp only [szdL, nodesL, deepL]
    rcases ih k (List.mem_cons_self ..) with ⟨⟨q1, q2⟩, e⟩ | ⟨q, e, _, _⟩
    · rw [e]
      by_cases hc : 100 < all + k.nodes
      · rw [if_pos (by simp only; omega)]
        exact .inr ⟨by omega, rfl⟩
      · rw [if_neg (by simp only; omega)]
        have em : (max (dp : Int) (k.deep : Int)) = ((max dp k.deep : Nat) : Int) := by omega
        have ea : ((all : Int) + (k.nodes : Int)) = ((all + k.nodes : Nat) : Int) := by omega
        simp only [em, ea]
        rcases ir (all + k.nodes) (max dp k.deep) (by omega) (by omega) (by omega) with ⟨a, b⟩ | ⟨a, b⟩
        · refine .inl ⟨by omega, ?_⟩
          rw [b]; congr 2 <;> omega
        · exact .inr ⟨by omega, b⟩
    · rw [if_pos (.inr (by omega))]
      exact .inr ⟨by omega, rfl⟩
theorem szd_spec : ∀ (n : Nd) (l : Nat), l ≤ 50 → ((n.deep ≤ l ∧ n.nodes ≤ 100) ∧ szd n l = ((n.nodes : Int), (n.deep : Int))) ∨ (¬ (n.deep ≤ l ∧ n.nodes ≤ 100) ∧ (szd n l).2 = 99 ∧ 0 ≤ (szd n l).1 ∧ (szd n l).1 ≤ 101) := by
  refine Nd.ind fun k a f no ks ih => ?_
  intro l hl
  simp only [szd, Nd.nodes, Nd.deep]
  by_cases h : l = 0
  · rw [if_pos h]; exact .inr ⟨by omega, rfl, by simp only; omega, by simp only; omega⟩
  · rw [if_neg h]
    have e1 : ((1 : Int)) = ((1 : Nat) : Int) := rfl
    rcases szdL_spec (l := l - 1) (fun x hx => ih x hx (l - 1) (by omega)) (by omega) 1 0 (by omega) (by omega) (by omega) with ⟨a, b⟩ | ⟨a, b⟩
    · refine .inl ⟨by omega, ?_⟩
      have b' : szdL ks (l - 1) 1 0 = _ := b
      rw [b']; congr 2 <;> omega
    · have b' : szdL ks (l - 1) 1 0 = _ := b
      rw [b']
      exact .inr ⟨by omega, rfl, by simp only; omega, by simp only; omega⟩
theorem szd_le (n : Nd) (l : Nat) (hl : l ≤ 50) : 0 ≤ (szd n l).1 ∧ (szd n l).1 ≤ 101 ∧ 0 ≤ (szd n l).2 ∧ (szd n l).2 ≤ 99 := by
  rcases szd_spec n l hl with ⟨⟨a, b⟩, e⟩ | ⟨_, e, h1, h2⟩
  · rw [e]; simp only; omega
  · omega
theorem szd_many (n : Nd) : (20 < (szd n 4).1 ∨ 4 < (szd n 4).2) ↔ tooMany n := by
  unfold tooMany
  rcases szd_spec n 4 (by omega) with ⟨⟨a, b⟩, e⟩ | ⟨h, e, _, _⟩
  · rw [e]; simp only; omega
  · rw [e]; have := n.deep_pos; omega
end Qm
namespace Go.Proofs.YthpkffeiehnamaaGreatDoor
open Go.RowKit Qm

set_option maxHeartbeats 1600000 in
theorem sized_any : ∀ (n : Nd) (S : Nat → Prop) (x : List Value) (l : Nat) (w : World), RNd w S x n → (∀ k, S k → k < w.heap.size) → l ≤ 4 →
    Calls Tryz.prog 88 #[.agg x.toArray, .int .i64 l] w fun e w' => e = .returned (.tuple #[.int .i64 (szd n l).1, .int .i64 (szd n l).2]) ∧ Below w.heap.size w w' := by
  refine Nd.ind fun k a f no ks ih => ?_
  intro S x l w hR hS hl
  have HI := Lib.hid ih; clear ih
  obtain ⟨A, n, c, rfl, hnc, hc, h1, h2, h3, hK⟩ := hR.open_
  clear hR
  have HS := Lib.hid hS; clear hS
  have HK := Lib.hid hK; clear hK
  unfold maxLen at hc
  clear h1 h2 h3
  unfold ndRow
  have HW := Lib.hid (Whole.new w _ 57 [.int .i64 k, .string ⟨a.nm.toArray⟩, .int .i64 a.op, .int .i64 a.ver, .int .i64 a.slot, .string ⟨a.fl.toArray⟩, .bool a.on, .string ⟨f.toArray⟩, .bool no, .slice A n c] rfl)
  have HB := Lib.hid ((Below.refl _ w).alloc (Nat.le_refl _) (.cells #[.int .i64 k, .string ⟨a.nm.toArray⟩, .int .i64 a.op, .int .i64 a.ver, .int .i64 a.slot, .string ⟨a.fl.toArray⟩, .bool a.on, .string ⟨f.toArray⟩, .bool no, .slice A n c] 57))
  by_cases h4 : l = 0
  · subst h4
    have HC : Hid (szd (.mk k a f no ks) 0 = (0, 99)) := Lib.hid (by simp [szd])
    generalize szd (.mk k a f no ks) 0 = R at HC ⊢
    go_enter Tryz.func88, Tryz.ntmps88
    go_wp2
    go_ret2
    exact ⟨by rw [HC.out]; rfl, HB.out⟩
  · have h4' : ((l : Int) == 0) = false := by simp; omega
    have HC : Hid (szd (.mk k a f no ks) l = szdL ks (l - 1) 1 0) := Lib.hid (by simp [szd, h4])
    generalize szd (.mk k a f no ks) l = R at HC ⊢
    go_enter Tryz.func88, Tryz.ntmps88
    go_wp2
    go_loopg [4, 5, 15] n (fun g av dv iv wr => ∃ (j : Nat) (z d : Int), Hid (j + g = n) ∧ iv = .int .i64 j ∧ av = .int .i64 z ∧ dv = .int .i64 d ∧ 1 ≤ z ∧ z ≤ 100 ∧ 0 ≤ d ∧ d ≤ 50 ∧ Hid (szdL ks (l - 1) 1 0 = szdL (ks.drop j) (l - 1) z d) ∧ Below w.heap.size w wr)
    case atStart => exact ⟨0, 1, 0, Lib.hid (Nat.zero_add _), rfl, rfl, rfl, by omega, by omega, by omega, by omega, Lib.hid rfl, HB.out⟩
    case round =>
      obtain ⟨j, z, d, Hj, rfl, rfl, rfl, hz1, hz2, hd1, hd2, Hcl, hb⟩ := hrel
      have HBr := Lib.hid hb; clear hb
      by_cases hj : j < n
      · obtain ⟨b, o, x, y, rfl, hb, hy, hxy, hcell⟩ := (HK.out.under HBr.out HS.out).at_ hj
        have Hdr := Lib.hid (drop_step hy)
        have hmem := List.mem_of_getElem? hy
        obtain ⟨yk, ya, yf, yn, yks⟩ := y
        obtain ⟨A', n', c', rfl, -⟩ := hxy.open_
        have g0 := hcell 0 (by omega); have g1 := hcell 1 (by omega); have g2 := hcell 2 (by omega); have g3 := hcell 3 (by omega); have g4 := hcell 4 (by omega)
        have g5 := hcell 5 (by omega); have g6 := hcell 6 (by omega); have g7 := hcell 7 (by omega); have g8 := hcell 8 (by omega); have g9 := hcell 9 (by omega)
        clear hcell
        unfold ndRow at g0 g1 g2 g3 g4 g5 g6 g7 g8 g9
        simp only [List.getElem?_cons_zero, List.getElem?_cons_succ, Nat.add_zero] at g0 g1 g2 g3 g4 g5 g6 g7 g8 g9
        clear hy
        have hxy2 := (hxy.under (Below.refl _ wr |>.alloc (Nat.le_refl _) (.cells #[.int .i64 yk, .string ⟨ya.nm.toArray⟩, .int .i64 ya.op, .int .i64 ya.ver, .int .i64 ya.slot, .string ⟨ya.fl.toArray⟩, .bool ya.on, .string ⟨yf.toArray⟩, .bool yn, .slice A' n' c'] 57)) fun q hq => Nat.lt_of_lt_of_le (HS.out q hq) HBr.out.size)
        clear hxy
        have hcall := HI.out _ hmem S _ (l - 1) _ hxy2 (fun q hq => by have := HS.out q hq; have := HBr.out.size; simp; omega) (by omega)
        have e : ((l - 1 : Nat) : Int) = (l : Int) - 1 := by omega
        rw [e] at hcall
        unfold ndRow at hcall
        have Hle := szd_le (.mk yk ya yf yn yks) (l - 1) (by omega)
        have HX : Hid (szdL (ks.drop j) (l - 1) z d = if 100 < z + (szd (.mk yk ya yf yn yks) (l - 1)).1 ∨ 50 < (szd (.mk yk ya yf yn yks) (l - 1)).2 then (101, 99) else szdL (ks.drop (j + 1)) (l - 1) (z + (szd (.mk yk ya yf yn yks) (l - 1)).1) (max d (szd (.mk yk ya yf yn yks) (l - 1)).2)) := Lib.hid (by rw [Hdr.out]; simp only [szdL])
        generalize hq : szd (.mk yk ya yf yn yks) (l - 1) = q at hcall Hle HX
        obtain ⟨m, dd⟩ := q
        simp only at hcall Hle HX
        obtain ⟨m1, m2, d1, d2⟩ := Hle
        have HBn := Lib.hid (HBr.out.alloc HBr.out.size (.cells #[.int .i64 yk, .string ⟨ya.nm.toArray⟩, .int .i64 ya.op, .int .i64 ya.ver, .int .i64 ya.slot, .string ⟨ya.fl.toArray⟩, .bool ya.on, .string ⟨yf.toArray⟩, .bool yn, .slice A' n' c'] 57))
        clear hq e hxy2 Hdr hmem
        have Hcall := Lib.hid hcall; clear hcall
        by_cases hm : 100 < z + m
        · have HX2 := Lib.hid (HX.out.trans (if_pos (.inl hm)))
          clear HX
          go_wp2_with (first | (go_at_call 88; refine Hcall.out.mono ?_; rintro e w' ⟨rfl, hb'⟩; refine Hid.out ?_))
          refine Lib.hid ?_
          have HB' := Lib.hid (HBn.out.trans (hb'.mono HBn.out.size)); clear hb'
          go_wp2
          go_ret2
          exact ⟨by rw [HC.out, Hcl.out, HX2.out]; rfl, HB'.out⟩
        · have hm' : decide (100 < z + m) = false := by simpa using hm
          by_cases hd : 50 < dd
          · have HX2 := Lib.hid (HX.out.trans (if_pos (.inr hd)))
            clear HX
            go_wp2_with (first | (go_at_call 88; refine Hcall.out.mono ?_; rintro e w' ⟨rfl, hb'⟩; refine Hid.out ?_))
            refine Lib.hid ?_
            have HB' := Lib.hid (HBn.out.trans (hb'.mono HBn.out.size)); clear hb'
            go_wp2
            go_ret2
            exact ⟨by rw [HC.out, Hcl.out, HX2.out]; rfl, HB'.out⟩
          · have hd' : decide (50 < dd) = false := by simpa using hd
            have HX2 := Lib.hid (HX.out.trans (if_neg (by omega)))
            clear HX
            go_wp2_with (first | (go_at_call 88; refine Hcall.out.mono ?_; rintro e w' ⟨rfl, hb'⟩; refine Hid.out ?_))
            refine Lib.hid ?_
            have HB' := Lib.hid (HBn.out.trans (hb'.mono HBn.out.size)); clear hb'
            go_wp2
            all_goals (
              go_roundg (gk - 1)
              case measure => have := Hj.out; omega
              case rel => exact ⟨j + 1, z + m, max d dd, Lib.hid (by have := Hj.out; omega), by go_num, rfl, (by first | rfl | (congr 1; omega)), by omega, by omega, by omega, by omega, Lib.hid (by rw [Hcl.out, HX2.out]), HB'.out⟩)
      · go_wp2
        go_ret2
        refine ⟨?_, HBr.out⟩
        rw [HC.out, Hcl.out, List.drop_of_length_le (by have := HK.out.len; omega)]; rfl
end Go.Proofs.YthpkffeiehnamaaGreatDoor

/- Names, cut and told by membership: plain. -/
namespace Qm
open Go

def letters : List UInt8 := [97, 98, 99, 100, 101, 102, 103, 104, 105, 106, 107, 108, 109, 110, 111, 112, 113, 114, 115, 116, 117, 118, 119, 120, 121, 122]
def alnum : List UInt8 := [97, 98, 99, 100, 101, 102, 103, 104, 105, 106, 107, 108, 109, 110, 111, 112, 113, 114, 115, 116, 117, 118, 119, 120, 121, 122, 48, 49, 50, 51, 52, 53, 54, 55, 56, 57]

theorem byte_all {p : UInt8 → Prop} (h : ∀ n : Fin 256, p (UInt8.ofNat n.val)) (c : UInt8) : p c := by
  have h1 := h ⟨c.toNat, c.toNat_lt⟩
  simpa using h1
theorem letters_low (c : UInt8) : decide (0 ≤ Lib.indexByte letters c) = lowB c :=
  byte_all (p := fun c => decide (0 ≤ Lib.indexByte letters c) = lowB c) (by decide +kernel) c
theorem alnum_mem (c : UInt8) : alnum.contains c = (lowB c || digB c) :=
  byte_all (p := fun c => alnum.contains c = (lowB c || digB c)) (by decide +kernel) c

theorem mem_dropWhile {α : Type} {p : α → Bool} {x : α} (hx : p x = false) : ∀ {l : List α}, x ∈ l → x ∈ l.dropWhile p
  | [], h => by cases h
  | y :: r, h => by
    rw [List.dropWhile_cons]
    by_cases hy : p y = true
    · rw [if_pos hy]
      rcases List.mem_cons.1 h with rfl | h
      · rw [hx] at hy; cases hy
      · exact mem_dropWhile hx h
    · rw [if_neg hy]; exact h
theorem dropWhile_all {α : Type} {p : α → Bool} : ∀ {l : List α}, (∀ x ∈ l, p x = true) → l.dropWhile p = []
  | [], _ => rfl
  | y :: r, h => by
    rw [List.dropWhile_cons, if_pos (h y (List.mem_cons_self ..))]
    exact dropWhile_all fun x hx => h x (List.mem_cons_of_mem _ hx)
theorem trim_all {l cs : List UInt8} (h : ∀ x ∈ l, cs.contains x = true) : Lib.trimS l cs = [] := by
  unfold Lib.trimS Lib.trimRightS
  rw [dropWhile_all fun x hx => h x (List.mem_reverse.1 hx)]
  rfl
theorem trim_some {l cs : List UInt8} {x : UInt8} (hx : x ∈ l) (h : cs.contains x = false) : Lib.trimS l cs ≠ [] := by
  intro e
  have h1 : x ∈ Lib.trimRightS l cs := List.mem_reverse.2 (mem_dropWhile h (List.mem_reverse.2 hx))
  have h2 : x ∈ Lib.trimS l cs := mem_dropWhile h h1
  rw [e] at h2
  cases h2

theorem okFrom_iff : ∀ {i : Nat} {l : List UInt8}, 0 < i → (okFrom i l = true ↔ ∀ x ∈ l, alnum.contains x = true)
  | _, [], _ => by simp [okFrom]
  | i, c :: r, h => by
    have ih := okFrom_iff (i := i + 1) (l := r) (by omega)
    simp only [okFrom, okAt, Bool.and_eq_true, ih, List.forall_mem_cons]
    have : (lowB c || decide (0 < i) && digB c) = alnum.contains c := by
      rw [alnum_mem, decide_eq_true h, Bool.true_and]
    rw [this]

/-- The other telling of a name. -/
theorem isName_told {c : UInt8} {r : List UInt8} (h : (c :: r).length ≤ 8) : isName (c :: r) = (lowB c && (Lib.trimS (c :: r) alnum).isEmpty) := by
  unfold isName
  rw [decide_eq_true (by simp at h ⊢; omega), Bool.true_and]
  have e : okFrom 0 (c :: r) = (lowB c && okFrom 1 r) := by simp [okFrom, okAt]
  rw [e]
  cases hc : lowB c
  · rfl
  · rw [Bool.true_and, Bool.true_and]
    by_cases hr : okFrom 1 r = true
    · rw [hr]
      have h1 := (okFrom_iff (by decide)).1 hr
      rw [trim_all]
      · rfl
      · intro x hx
        rcases List.mem_cons.1 hx with rfl | hx
        · rw [alnum_mem, hc]; rfl
        · exact h1 x hx
    · have h1 : ¬ ∀ x ∈ r, alnum.contains x = true := fun h => hr ((okFrom_iff (by decide)).2 h)
      have h2 : okFrom 1 r = false := by simpa using hr
      rw [h2]
      obtain ⟨x, hx, hn⟩ : ∃ x, x ∈ r ∧ alnum.contains x = false := by
        apply Classical.byContradiction
        intro hno
        exact h1 fun x hx => by
          cases hh : alnum.contains x
          · exact absurd ⟨x, hx, hh⟩ hno
          · rfl
      have := trim_some (List.mem_cons_of_mem c hx) hn
      cases e : Lib.trimS (c :: r) alnum
      · exact absurd e this
      · rfl
end Qm

/- The other telling of a name, walked. -/
namespace Go.Proofs.YthpkffeiehnamaaGreatDoor
open Go.RowKit Qm

theorem bs_one {s : ByteArray} {c : UInt8} {r : List UInt8} (h : s.data.toList = c :: r) : s.extract 0 1 = ⟨#[c]⟩ := by
  have e : (s.extract 0 1).data.toList = [c] := by rw [Lib.extract_data, h]; simp
  generalize s.extract 0 1 = t at e
  obtain ⟨⟨l⟩⟩ := t
  simp at e
  subst e
  rfl

set_option maxHeartbeats 1600000 in
theorem rname_any (s : ByteArray) (w : World) (hs : s.size ≤ maxLen) :
    Calls Tryz.prog 52 #[.string s] w fun e w' => e = .returned (.bool (isName s.data.toList)) ∧ Below w.heap.size w w' := by
  unfold maxLen at hs
  have HSZ := Lib.hid (Lib.size_eq s)
  by_cases h0 : s.size = 0
  · have e0 : decide ((0 : Int) < (s.size : Int)) = false := decide_eq_false (by omega)
    go_enter Tryz.func52, Tryz.ntmps52
    go_wp2
    go_ret
    refine ⟨ret_bool ?_, Below.refl _ _⟩
    unfold isName
    rw [decide_eq_false (by have := HSZ.out; omega)]; rfl
  · have e0 : decide ((0 : Int) < (s.size : Int)) = true := by simp; omega
    by_cases h8 : 8 < s.size
    · have e8 : decide ((s.size : Int) ≤ 8) = false := by simp; omega
      go_enter Tryz.func52, Tryz.ntmps52
      go_wp2
      go_ret
      refine ⟨ret_bool ?_, Below.refl _ _⟩
      unfold isName
      rw [decide_eq_false (by have := HSZ.out; omega)]; rfl
    · have e8 : decide ((s.size : Int) ≤ 8) = true := by simp; omega
      obtain ⟨c, r, hcr⟩ : ∃ c r, s.data.toList = c :: r := by
        cases e : s.data.toList with
        | nil => have h := HSZ.out; rw [e, List.length_nil] at h; omega
        | cons c r => exact ⟨c, r, rfl⟩
      have htold := isName_told (c := c) (r := r) (by have := HSZ.out; rw [hcr] at this; omega)
      rw [← hcr] at htold
      have HT := Lib.hid htold; clear htold
      have hcon := fun wx => Tryz.strings_Contains_one ⟨letters.toArray⟩ c wx
      rw [show (⟨letters.toArray⟩ : ByteArray).data.toList = letters from by simp, letters_low, ← bs_one hcr] at hcon
      have h1 : (1 : Int) ≤ (s.size : Int) := by omega
      cases hlow : lowB c
      · rw [hlow] at hcon HT
        have HC := Lib.hid hcon; clear hcon
        go_enter Tryz.func52, Tryz.ntmps52
        go_wp2_with (first | (go_at_call 86; refine (HC.out _).mono ?_; rintro e w1 ⟨rfl, rfl⟩; refine Hid.out ?_))
        refine Lib.hid ?_
        go_wp2
        go_ret
        exact ⟨ret_bool (by rw [HT.out]; rfl), Below.refl _ _⟩
      · rw [hlow, Bool.true_and] at HT
        rw [hlow] at hcon
        have HC := Lib.hid hcon; clear hcon
        have htrim : ∀ wx, Calls Tryz.prog 87 #[.string s, .string ⟨alnum.toArray⟩] wx fun e w' => e = .returned (.string ⟨(Lib.trimS s.data.toList (⟨alnum.toArray⟩ : ByteArray).data.toList).toArray⟩) ∧ ∃ q, w' = ((wx.alloc (.cells (Lib.setCells (⟨alnum.toArray⟩ : ByteArray).data.toList) 162)).alloc (.cells (Lib.setCells (⟨alnum.toArray⟩ : ByteArray).data.toList) 162)).drewN q := fun wx => Any.strings_Trim_set Tryz.lays160 (zero_of_info (P := Tryz.prog) (t := 162) (v := .agg (Array.replicate 256 (.bool false))) (n := 256) (by kernel_rfl)).1 (by kernel_rfl) s ⟨alnum.toArray⟩ wx (by decide) (by omega) (by omega) (by decide) (fun j b h => by
          have hm := List.mem_of_getElem? h
          revert hm
          rw [show (⟨alnum.toArray⟩ : ByteArray).data.toList = alnum from by simp]
          intro hm
          exact (show ∀ b ∈ alnum, b.toNat < 128 by decide) b hm)
        rw [show (⟨alnum.toArray⟩ : ByteArray).data.toList = alnum from by simp] at htrim
        generalize Lib.trimS s.data.toList alnum = T at htrim HT
        have HTr := Lib.hid htrim; clear htrim
        have hT : (⟨T.toArray⟩ : ByteArray).toList.isEmpty = T.isEmpty := by rw [Lib.toList_data]
        go_enter Tryz.func52, Tryz.ntmps52
        go_wp2_with (first
          | (go_at_call 86; refine (HC.out _).mono ?_; rintro e w1 ⟨rfl, rfl⟩; refine Hid.out ?_)
          | (go_at_call 87; refine (HTr.out _).mono ?_; rintro e w1 ⟨rfl, n, rfl⟩; refine Hid.out ?_))
        refine Lib.hid ?_
        go_wp2_with (first
          | (go_at_call 87; refine (HTr.out _).mono ?_; rintro e w1 ⟨rfl, n, rfl⟩; refine Hid.out ?_))
        refine Lib.hid ?_
        go_wp2
        go_ret
        exact ⟨ret_bool (by rw [HT.out]), below_drewN (((Below.refl _ _).alloc (Nat.le_refl _) _).alloc (by simp) _) n⟩
end Go.Proofs.YthpkffeiehnamaaGreatDoor

/- The other telling of an atom's check, walked. -/
namespace Go.Proofs.YthpkffeiehnamaaGreatDoor
open Go.RowKit Qm

set_option maxHeartbeats 3200000 in
theorem rcheck_any (s f : ByteArray) (op ver slot : Int) (on : Bool) (w : World) (hs : s.size ≤ maxLen) (hf : f.size ≤ maxLen) :
    Calls Tryz.prog 26 #[atv s op ver slot f on] w fun e w' => e = .returned (.int .i64 (ckAtom (atOf s op ver slot f on))) ∧ Below w.heap.size w w' := by
  unfold atv
  have ba : Below w.heap.size w (w.alloc (.cells #[.string s, .int .i64 op, .int .i64 ver, .int .i64 slot, .string f, .bool on] 26)) := (Below.refl _ w).alloc (Nat.le_refl _) _
  have Ba := Lib.hid ba; clear ba
  cases hn : isName s.data.toList
  · skip
    go_enter Tryz.func26, Tryz.ntmps26
    go_wp2_with (first
      | (go_at_call 52; refine (rname_any _ _ hs).mono ?_; rintro e w1 ⟨rfl, hb1⟩; have c0 := box_cell hb1 (i := 0) rfl; have c1 := box_cell hb1 (i := 1) rfl; have c2 := box_cell hb1 (i := 2) rfl; have c3 := box_cell hb1 (i := 3) rfl; have c4 := box_cell hb1 (i := 4) rfl; have c5 := box_cell hb1 (i := 5) rfl; refine Hid.out ?_))
    refine Lib.hid ?_
    have HB := Lib.hid (Ba.out.trans (hb1.mono (by simp)))
    clear hb1
    go_wp2
    go_ret
    exact ⟨ret_int (ck1 (a := atOf s op ver slot f on) (.inl hn)).symm, HB.out⟩
  · by_cases h0 : f.data.toList = []
    · obtain ⟨e1, e2⟩ := empty_spell h0
      go_enter Tryz.func26, Tryz.ntmps26
      go_wp2_with (first
        | (go_at_call 52; refine (rname_any _ _ hs).mono ?_; rintro e w1 ⟨rfl, hb1⟩; have c0 := box_cell hb1 (i := 0) rfl; have c1 := box_cell hb1 (i := 1) rfl; have c2 := box_cell hb1 (i := 2) rfl; have c3 := box_cell hb1 (i := 3) rfl; have c4 := box_cell hb1 (i := 4) rfl; have c5 := box_cell hb1 (i := 5) rfl; refine Hid.out ?_))
      refine Lib.hid ?_
      have HB := Lib.hid (Ba.out.trans (hb1.mono (by simp)))
      clear hb1
      have H0 := Lib.hid h0
      have HG := Lib.hid (show ¬ (isName (atOf s op ver slot f on).nm = false ∨ (atOf s op ver slot f on).fl ≠ [] ∧ isName (atOf s op ver slot f on).fl = false) by simp [atOf, hn, h0])
      clear h0
      by_cases o1 : op < 0
      ·
        go_wp2
        go_ret
        exact ⟨ret_int (ck3 (a := atOf s _ _ slot f on) HG.out (by show _ ∨ _; simp only [atOf]; first | omega | exact .inr (.inl ⟨trivial, ‹_›⟩))).symm, HB.out⟩
      have o1' : decide (op < 0) = false := by simpa using o1
      by_cases o2 : 3 < op
      ·
        go_wp2
        go_ret
        exact ⟨ret_int (ck3 (a := atOf s _ _ slot f on) HG.out (by show _ ∨ _; simp only [atOf]; first | omega | exact .inr (.inl ⟨trivial, ‹_›⟩))).symm, HB.out⟩
      have o2' : decide (3 < op) = false := by simpa using o2
      by_cases s1 : slot < 0
      ·
        go_wp2
        go_ret
        exact ⟨ret_int (ck3 (a := atOf s _ _ slot f on) HG.out (by show _ ∨ _; simp only [atOf]; first | omega | exact .inr (.inl ⟨trivial, ‹_›⟩))).symm, HB.out⟩
      have s1' : decide (slot < 0) = false := by simpa using s1
      by_cases s2 : 9 < slot
      ·
        go_wp2
        go_ret
        exact ⟨ret_int (ck3 (a := atOf s _ _ slot f on) HG.out (by show _ ∨ _; simp only [atOf]; first | omega | exact .inr (.inl ⟨trivial, ‹_›⟩))).symm, HB.out⟩
      have s2' : decide (9 < slot) = false := by simpa using s2
      by_cases z : op = 0
      ·
        subst z
        by_cases v : ver = 0
        ·
          subst v
          cases on
          ·
            go_wp2
            go_ret
            exact ⟨ret_int (by rw [ck4 (a := atOf s _ _ slot f false) HG.out (by simp only [atOf]; omega)]; simp [atOf]), HB.out⟩
          ·
            go_wp2
            go_ret
            exact ⟨ret_int (by rw [ck4 (a := atOf s _ _ slot f true) HG.out (by simp only [atOf]; omega)]; simp [atOf, H0.out]), HB.out⟩
        ·
          have v1 : (ver == 0) = false := by simpa using v
          have v2 : (ver != 0) = true := by simpa using v
          go_wp2
          go_ret
          exact ⟨ret_int (ck3 (a := atOf s _ _ slot f on) HG.out (by show _ ∨ _; simp only [atOf]; first | omega | exact .inr (.inl ⟨trivial, ‹_›⟩))).symm, HB.out⟩
      ·
        have z1 : (op == 0) = false := by simpa using z
        have z2 : (op != 0) = true := by simpa using z
        by_cases v1 : ver < 1
        ·
          go_wp2
          go_ret
          exact ⟨ret_int (ck3 (a := atOf s _ _ slot f on) HG.out (by show _ ∨ _; simp only [atOf]; first | omega | exact .inr (.inl ⟨trivial, ‹_›⟩))).symm, HB.out⟩
        have v1' : decide (ver < 1) = false := by simpa using v1
        by_cases v2 : 99 < ver
        ·
          go_wp2
          go_ret
          exact ⟨ret_int (ck3 (a := atOf s _ _ slot f on) HG.out (by show _ ∨ _; simp only [atOf]; first | omega | exact .inr (.inl ⟨trivial, ‹_›⟩))).symm, HB.out⟩
        have v2' : decide (99 < ver) = false := by simpa using v2
        cases on
        ·
          go_wp2
          go_ret
          exact ⟨ret_int (by rw [ck4 (a := atOf s _ _ slot f false) HG.out (by simp only [atOf]; omega)]; simp [atOf]), HB.out⟩
        ·
          go_wp2
          go_ret
          exact ⟨ret_int (by rw [ck4 (a := atOf s _ _ slot f true) HG.out (by simp only [atOf]; omega)]; simp [atOf, H0.out]), HB.out⟩
    · obtain ⟨e1, e2⟩ := full_spell h0
      cases hn2 : isName f.data.toList
      · skip
        go_enter Tryz.func26, Tryz.ntmps26
        go_wp2_with (first
          | (go_at_call 52; refine (rname_any _ _ hs).mono ?_; rintro e w1 ⟨rfl, hb1⟩; have c0 := box_cell hb1 (i := 0) rfl; have c1 := box_cell hb1 (i := 1) rfl; have c2 := box_cell hb1 (i := 2) rfl; have c3 := box_cell hb1 (i := 3) rfl; have c4 := box_cell hb1 (i := 4) rfl; have c5 := box_cell hb1 (i := 5) rfl; refine Hid.out ?_))
        refine Lib.hid ?_
        go_wp2_with (first
          | (go_at_call 52; refine (rname_any _ _ hf).mono ?_; rintro e w2 ⟨rfl, hb2⟩; replace c0 := (hb2.cell (World.block_lt_of_cell? _ _ c0)).trans c0; replace c1 := (hb2.cell (World.block_lt_of_cell? _ _ c1)).trans c1; replace c2 := (hb2.cell (World.block_lt_of_cell? _ _ c2)).trans c2; replace c3 := (hb2.cell (World.block_lt_of_cell? _ _ c3)).trans c3; replace c4 := (hb2.cell (World.block_lt_of_cell? _ _ c4)).trans c4; replace c5 := (hb2.cell (World.block_lt_of_cell? _ _ c5)).trans c5; refine Hid.out ?_))
        refine Lib.hid ?_
        have HB := Lib.hid (Ba.out.trans ((hb1.mono (by simp)).trans (hb2.mono (Nat.le_trans (by simp) hb1.size))))
        clear hb1 hb2
        go_wp2
        go_ret
        exact ⟨ret_int (ck1 (a := atOf s op ver slot f on) (.inr ⟨h0, hn2⟩)).symm, HB.out⟩
      · skip
        go_enter Tryz.func26, Tryz.ntmps26
        go_wp2_with (first
          | (go_at_call 52; refine (rname_any _ _ hs).mono ?_; rintro e w1 ⟨rfl, hb1⟩; have c0 := box_cell hb1 (i := 0) rfl; have c1 := box_cell hb1 (i := 1) rfl; have c2 := box_cell hb1 (i := 2) rfl; have c3 := box_cell hb1 (i := 3) rfl; have c4 := box_cell hb1 (i := 4) rfl; have c5 := box_cell hb1 (i := 5) rfl; refine Hid.out ?_))
        refine Lib.hid ?_
        go_wp2_with (first
          | (go_at_call 52; refine (rname_any _ _ hf).mono ?_; rintro e w2 ⟨rfl, hb2⟩; replace c0 := (hb2.cell (World.block_lt_of_cell? _ _ c0)).trans c0; replace c1 := (hb2.cell (World.block_lt_of_cell? _ _ c1)).trans c1; replace c2 := (hb2.cell (World.block_lt_of_cell? _ _ c2)).trans c2; replace c3 := (hb2.cell (World.block_lt_of_cell? _ _ c3)).trans c3; replace c4 := (hb2.cell (World.block_lt_of_cell? _ _ c4)).trans c4; replace c5 := (hb2.cell (World.block_lt_of_cell? _ _ c5)).trans c5; refine Hid.out ?_))
        refine Lib.hid ?_
        have HB := Lib.hid (Ba.out.trans ((hb1.mono (by simp)).trans (hb2.mono (Nat.le_trans (by simp) hb1.size))))
        clear hb1 hb2
        have H0 := Lib.hid h0
        have HG := Lib.hid (show ¬ (isName (atOf s op ver slot f on).nm = false ∨ (atOf s op ver slot f on).fl ≠ [] ∧ isName (atOf s op ver slot f on).fl = false) by simp [atOf, hn, hn2])
        clear h0
        by_cases o1 : op < 0
        ·
          go_wp2
          go_ret
          exact ⟨ret_int (ck3 (a := atOf s _ _ slot f on) HG.out (by show _ ∨ _; simp only [atOf]; first | omega | exact .inr (.inl ⟨trivial, ‹_›⟩))).symm, HB.out⟩
        have o1' : decide (op < 0) = false := by simpa using o1
        by_cases o2 : 3 < op
        ·
          go_wp2
          go_ret
          exact ⟨ret_int (ck3 (a := atOf s _ _ slot f on) HG.out (by show _ ∨ _; simp only [atOf]; first | omega | exact .inr (.inl ⟨trivial, ‹_›⟩))).symm, HB.out⟩
        have o2' : decide (3 < op) = false := by simpa using o2
        by_cases s1 : slot < 0
        ·
          go_wp2
          go_ret
          exact ⟨ret_int (ck3 (a := atOf s _ _ slot f on) HG.out (by show _ ∨ _; simp only [atOf]; first | omega | exact .inr (.inl ⟨trivial, ‹_›⟩))).symm, HB.out⟩
        have s1' : decide (slot < 0) = false := by simpa using s1
        by_cases s2 : 9 < slot
        ·
          go_wp2
          go_ret
          exact ⟨ret_int (ck3 (a := atOf s _ _ slot f on) HG.out (by show _ ∨ _; simp only [atOf]; first | omega | exact .inr (.inl ⟨trivial, ‹_›⟩))).symm, HB.out⟩
        have s2' : decide (9 < slot) = false := by simpa using s2
        by_cases z : op = 0
        ·
          subst z
          by_cases v : ver = 0
          ·
            subst v
            cases on
            ·
              go_wp2
              go_ret
              exact ⟨ret_int (by rw [ck4 (a := atOf s _ _ slot f _) HG.out (by simp only [atOf]; omega)]; simp [atOf, H0.out]), HB.out⟩
            ·
              go_wp2
              go_ret
              exact ⟨ret_int (by rw [ck4 (a := atOf s _ _ slot f _) HG.out (by simp only [atOf]; omega)]; simp [atOf, H0.out]), HB.out⟩
          ·
            have v1 : (ver == 0) = false := by simpa using v
            have v2 : (ver != 0) = true := by simpa using v
            go_wp2
            go_ret
            exact ⟨ret_int (ck3 (a := atOf s _ _ slot f on) HG.out (by show _ ∨ _; simp only [atOf]; first | omega | exact .inr (.inl ⟨trivial, ‹_›⟩))).symm, HB.out⟩
        ·
          have z1 : (op == 0) = false := by simpa using z
          have z2 : (op != 0) = true := by simpa using z
          by_cases v1 : ver < 1
          ·
            go_wp2
            go_ret
            exact ⟨ret_int (ck3 (a := atOf s _ _ slot f on) HG.out (by show _ ∨ _; simp only [atOf]; first | omega | exact .inr (.inl ⟨trivial, ‹_›⟩))).symm, HB.out⟩
          have v1' : decide (ver < 1) = false := by simpa using v1
          by_cases v2 : 99 < ver
          ·
            go_wp2
            go_ret
            exact ⟨ret_int (ck3 (a := atOf s _ _ slot f on) HG.out (by show _ ∨ _; simp only [atOf]; first | omega | exact .inr (.inl ⟨trivial, ‹_›⟩))).symm, HB.out⟩
          have v2' : decide (99 < ver) = false := by simpa using v2
          cases on
          ·
            go_wp2
            go_ret
            exact ⟨ret_int (by rw [ck4 (a := atOf s _ _ slot f _) HG.out (by simp only [atOf]; omega)]; simp [atOf, H0.out]), HB.out⟩
          ·
            go_wp2
            go_ret
            exact ⟨ret_int (by rw [ck4 (a := atOf s _ _ slot f _) HG.out (by simp only [atOf]; omega)]; simp [atOf, H0.out]), HB.out⟩
end Go.Proofs.YthpkffeiehnamaaGreatDoor

/- The closure of quartermasterref.CheckNeed, walked. -/
namespace Go.Proofs.YthpkffeiehnamaaGreatDoor
open Go.RowKit Qm

/-- The box that holds the closure itself. -/
def selfC (bx : Nat) : Value := .func (.func 89) #[] #[.pointer (some ⟨bx, 0, none⟩)]
set_option maxRecDepth 100000 in
set_option maxHeartbeats 3200000 in
theorem rwalk_bad (nm fl f : Qm.W) (op ver slot k : Int) (on no : Bool) (A : Option Addr) (n c : Nat) (ks : List Nd) (w : World) (bx : Nat) (k1 : 3 ≤ k) (k2 : k ≤ 5) (ha : ¬ (nm = [] ∧ op = 0 ∧ ver = 0 ∧ slot = 0 ∧ fl = [] ∧ on = false)) :
    Calls Tryz.prog 89 #[.agg (ndRow k ⟨nm, op, ver, slot, fl, on⟩ f no A n c).toArray, .pointer (some ⟨bx, 0, none⟩)] w fun e w' => e = .returned (.int .i64 (ckNd (.mk k ⟨nm, op, ver, slot, fl, on⟩ f no ks))) ∧ Below w.heap.size w w' := by
  unfold ndRow
  have HC : Hid (ckNd (.mk k ⟨nm, op, ver, slot, fl, on⟩ f no ks) = 4) := Lib.hid (by
    have hl : leafK k = false := by simp [leafK]; omega
    simp only [ckNd]; rw [if_neg (by omega), if_neg (by simp [hl]), if_pos ⟨hl, by simpa [At.zero] using ha⟩])
  have e1 : (k == 1) = false := by simp; omega
  have e2 : (k == 2) = false := by simp; omega
  have e3 : decide (k < 1) = false := by simp; omega
  have e4 : decide (5 < k) = false := by simp; omega
  have HB := Lib.hid ((Below.refl _ w).alloc (Nat.le_refl _) (.cells #[.int .i64 k, .string ⟨nm.toArray⟩, .int .i64 op, .int .i64 ver, .int .i64 slot, .string ⟨fl.toArray⟩, .bool on, .string ⟨f.toArray⟩, .bool no, .slice A n c] 57))
  by_cases c1 : nm = []
  · subst c1
    by_cases c2 : op = 0
    · subst c2
      by_cases c3 : ver = 0
      · subst c3
        by_cases c4 : slot = 0
        · subst c4
          by_cases c5 : fl = []
          · subst c5
            cases on
            · exact absurd ⟨rfl, rfl, rfl, rfl, rfl, rfl⟩ ha
            · clear ha
              go_enter Tryz.func89, Tryz.ntmps89
              go_wp2
              go_ret
              exact ⟨ret_int HC.out.symm, HB.out⟩
          · clear ha
            go_enter Tryz.func89, Tryz.ntmps89
            go_wp2
            go_ret
            exact ⟨ret_int HC.out.symm, HB.out⟩
        · clear ha
          go_enter Tryz.func89, Tryz.ntmps89
          go_wp2
          go_ret
          exact ⟨ret_int HC.out.symm, HB.out⟩
      · clear ha
        go_enter Tryz.func89, Tryz.ntmps89
        go_wp2
        go_ret
        exact ⟨ret_int HC.out.symm, HB.out⟩
    · clear ha
      go_enter Tryz.func89, Tryz.ntmps89
      go_wp2
      go_ret
      exact ⟨ret_int HC.out.symm, HB.out⟩
  · clear ha
    go_enter Tryz.func89, Tryz.ntmps89
    go_wp2
    go_ret
    exact ⟨ret_int HC.out.symm, HB.out⟩

set_option maxRecDepth 100000 in
set_option maxHeartbeats 3200000 in
theorem rwalk_out (nm fl f : Qm.W) (op ver slot k : Int) (on no : Bool) (A : Option Addr) (n c : Nat) (ks : List Nd) (w : World) (bx : Nat) (hk : k < 1 ∨ 5 < k) :
    Calls Tryz.prog 89 #[.agg (ndRow k ⟨nm, op, ver, slot, fl, on⟩ f no A n c).toArray, .pointer (some ⟨bx, 0, none⟩)] w fun e w' => e = .returned (.int .i64 (ckNd (.mk k ⟨nm, op, ver, slot, fl, on⟩ f no ks))) ∧ Below w.heap.size w w' := by
  unfold ndRow
  have HC : Hid (ckNd (.mk k ⟨nm, op, ver, slot, fl, on⟩ f no ks) = 4) := Lib.hid (by simp only [ckNd]; rw [if_pos hk])
  have HB := Lib.hid ((Below.refl _ w).alloc (Nat.le_refl _) (.cells #[.int .i64 k, .string ⟨nm.toArray⟩, .int .i64 op, .int .i64 ver, .int .i64 slot, .string ⟨fl.toArray⟩, .bool on, .string ⟨f.toArray⟩, .bool no, .slice A n c] 57))
  have e1 : (k == 1) = false := by simp; omega
  have e2 : (k == 2) = false := by simp; omega
  rcases hk with hk | hk
  ·
    go_enter Tryz.func89, Tryz.ntmps89
    go_wp2
    go_ret
    exact ⟨ret_int HC.out.symm, HB.out⟩
  · have e3 : decide (k < 1) = false := by simp; omega
    go_enter Tryz.func89, Tryz.ntmps89
    go_wp2
    go_ret
    exact ⟨ret_int HC.out.symm, HB.out⟩
set_option maxRecDepth 100000 in
set_option maxHeartbeats 3200000 in
theorem rwalk_leaf1 (nm fl f : Qm.W) (op ver slot : Int) (on no : Bool) (A : Option Addr) (n c : Nat) (ks : List Nd) (w : World) (bx : Nat) (hc : n ≤ c) (hc2 : c ≤ maxLen) (h1 : nm.length ≤ maxLen) (h2 : fl.length ≤ maxLen) (hlen : ks.length = n) :
    Calls Tryz.prog 89 #[.agg (ndRow 1 ⟨nm, op, ver, slot, fl, on⟩ f no A n c).toArray, .pointer (some ⟨bx, 0, none⟩)] w fun e w' => e = .returned (.int .i64 (ckNd (.mk 1 ⟨nm, op, ver, slot, fl, on⟩ f no ks))) ∧ Below w.heap.size w w' := by
  unfold ndRow
  unfold maxLen at hc2
  have HB := Lib.hid ((Below.refl _ w).alloc (Nat.le_refl _) (.cells #[.int .i64 1, .string ⟨nm.toArray⟩, .int .i64 op, .int .i64 ver, .int .i64 slot, .string ⟨fl.toArray⟩, .bool on, .string ⟨f.toArray⟩, .bool no, .slice A n c] 57))
  by_cases hn : 0 < n
  · have HC : Hid (ckNd (.mk 1 ⟨nm, op, ver, slot, fl, on⟩ f no ks) = 4) := Lib.hid (by
      simp only [ckNd]; rw [if_neg (by omega), if_pos ⟨rfl, by omega⟩])
    have hn' : ((n : Int) != 0) = true := by simp; omega
    go_enter Tryz.func89, Tryz.ntmps89
    go_wp2
    go_ret
    exact ⟨ret_int HC.out.symm, HB.out⟩
  · obtain rfl : n = 0 := by omega
    clear hn
    by_cases hf : f = [] ∧ no = false
    · obtain ⟨rfl, rfl⟩ := hf
      have HC : Hid (ckNd (.mk 1 ⟨nm, op, ver, slot, fl, on⟩ [] false ks) = ckAtom ⟨nm, op, ver, slot, fl, on⟩) := Lib.hid (by
        simp only [ckNd]; rw [if_neg (by omega), if_neg (by simp [hlen]), if_neg (by simp [leafK]), if_neg (by simp), if_neg (by simp), if_pos (by rfl)])
      have hck := fun wx => rcheck_any ⟨nm.toArray⟩ ⟨fl.toArray⟩ op ver slot on wx (by rw [bsz]; exact h1) (by rw [bsz]; exact h2)
      rw [show atOf ⟨nm.toArray⟩ op ver slot ⟨fl.toArray⟩ on = ⟨nm, op, ver, slot, fl, on⟩ from by simp [atOf]] at hck
      unfold atv at hck
      have Hck := Lib.hid hck; clear hck
      generalize ckAtom _ = q at Hck HC
      clear h1 h2
      go_enter Tryz.func89, Tryz.ntmps89
      go_wp2_with (first | (go_at_call 26; refine (Hck.out _).mono ?_; rintro e w1 ⟨rfl, hb1⟩; refine Hid.out ?_))
      refine Lib.hid ?_
      have HB1 := Lib.hid (HB.out.trans (hb1.mono HB.out.size)); clear hb1
      go_wp2
      go_ret
      exact ⟨ret_int HC.out.symm, HB1.out⟩
    · have HC : Hid (ckNd (.mk 1 ⟨nm, op, ver, slot, fl, on⟩ f no ks) = 4) := Lib.hid (by
        simp only [ckNd]; rw [if_neg (by omega), if_neg (by simp [hlen]), if_neg (by simp [leafK]), if_pos ⟨by omega, by cases no <;> simp_all⟩])
      cases no
      · have hf0 : ¬ f = [] := fun e => hf ⟨e, rfl⟩
        have hf1 : (!List.isEmpty f) = true := by cases f with | nil => exact absurd rfl hf0 | cons => rfl
        clear hf
        go_enter Tryz.func89, Tryz.ntmps89
        go_wp2
        go_ret
        exact ⟨ret_int HC.out.symm, HB.out⟩
      · clear hf
        go_enter Tryz.func89, Tryz.ntmps89
        go_wp2
        go_ret
        exact ⟨ret_int HC.out.symm, HB.out⟩
set_option maxRecDepth 100000 in
set_option maxHeartbeats 3200000 in
theorem rwalk_leaf2 (nm fl f : Qm.W) (op ver slot : Int) (on no : Bool) (A : Option Addr) (n c : Nat) (ks : List Nd) (w : World) (bx : Nat) (hc : n ≤ c) (hc2 : c ≤ maxLen) (h1 : nm.length ≤ maxLen) (h2 : fl.length ≤ maxLen) (hlen : ks.length = n) :
    Calls Tryz.prog 89 #[.agg (ndRow 2 ⟨nm, op, ver, slot, fl, on⟩ f no A n c).toArray, .pointer (some ⟨bx, 0, none⟩)] w fun e w' => e = .returned (.int .i64 (ckNd (.mk 2 ⟨nm, op, ver, slot, fl, on⟩ f no ks))) ∧ Below w.heap.size w w' := by
  unfold ndRow
  unfold maxLen at hc2
  have HB := Lib.hid ((Below.refl _ w).alloc (Nat.le_refl _) (.cells #[.int .i64 2, .string ⟨nm.toArray⟩, .int .i64 op, .int .i64 ver, .int .i64 slot, .string ⟨fl.toArray⟩, .bool on, .string ⟨f.toArray⟩, .bool no, .slice A n c] 57))
  by_cases hn : 0 < n
  · have HC : Hid (ckNd (.mk 2 ⟨nm, op, ver, slot, fl, on⟩ f no ks) = 4) := Lib.hid (by
      simp only [ckNd]; rw [if_neg (by omega), if_pos ⟨rfl, by omega⟩])
    have hn' : ((n : Int) != 0) = true := by simp; omega
    go_enter Tryz.func89, Tryz.ntmps89
    go_wp2
    go_ret
    exact ⟨ret_int HC.out.symm, HB.out⟩
  · obtain rfl : n = 0 := by omega
    clear hn
    by_cases hf : f = [] ∧ no = false
    · obtain ⟨rfl, rfl⟩ := hf
      have HC : Hid (ckNd (.mk 2 ⟨nm, op, ver, slot, fl, on⟩ [] false ks) = ckAtom ⟨nm, op, ver, slot, fl, on⟩) := Lib.hid (by
        simp only [ckNd]; rw [if_neg (by omega), if_neg (by simp [hlen]), if_neg (by simp [leafK]), if_neg (by simp), if_neg (by simp), if_pos (by rfl)])
      have hck := fun wx => rcheck_any ⟨nm.toArray⟩ ⟨fl.toArray⟩ op ver slot on wx (by rw [bsz]; exact h1) (by rw [bsz]; exact h2)
      rw [show atOf ⟨nm.toArray⟩ op ver slot ⟨fl.toArray⟩ on = ⟨nm, op, ver, slot, fl, on⟩ from by simp [atOf]] at hck
      unfold atv at hck
      have Hck := Lib.hid hck; clear hck
      generalize ckAtom _ = q at Hck HC
      clear h1 h2
      go_enter Tryz.func89, Tryz.ntmps89
      go_wp2_with (first | (go_at_call 26; refine (Hck.out _).mono ?_; rintro e w1 ⟨rfl, hb1⟩; refine Hid.out ?_))
      refine Lib.hid ?_
      have HB1 := Lib.hid (HB.out.trans (hb1.mono HB.out.size)); clear hb1
      go_wp2
      go_ret
      exact ⟨ret_int HC.out.symm, HB1.out⟩
    · have HC : Hid (ckNd (.mk 2 ⟨nm, op, ver, slot, fl, on⟩ f no ks) = 4) := Lib.hid (by
        simp only [ckNd]; rw [if_neg (by omega), if_neg (by simp [hlen]), if_neg (by simp [leafK]), if_pos ⟨by omega, by cases no <;> simp_all⟩])
      cases no
      · have hf0 : ¬ f = [] := fun e => hf ⟨e, rfl⟩
        have hf1 : (!List.isEmpty f) = true := by cases f with | nil => exact absurd rfl hf0 | cons => rfl
        clear hf
        go_enter Tryz.func89, Tryz.ntmps89
        go_wp2
        go_ret
        exact ⟨ret_int HC.out.symm, HB.out⟩
      · clear hf
        go_enter Tryz.func89, Tryz.ntmps89
        go_wp2
        go_ret
        exact ⟨ret_int HC.out.symm, HB.out⟩
set_option maxRecDepth 100000 in
set_option maxHeartbeats 3200000 in
theorem rwalk_flag3 (f : Qm.W) (no : Bool) (A : Option Addr) (n c : Nat) (ks : List Nd) (w : World) (bx : Nat) (hf : ¬ (f = [] ∧ no = false)) :
    Calls Tryz.prog 89 #[.agg (ndRow 3 ⟨[], 0, 0, 0, [], false⟩ f no A n c).toArray, .pointer (some ⟨bx, 0, none⟩)] w fun e w' => e = .returned (.int .i64 (ckNd (.mk 3 ⟨[], 0, 0, 0, [], false⟩ f no ks))) ∧ Below w.heap.size w w' := by
  unfold ndRow
  have HC : Hid (ckNd (.mk 3 ⟨[], 0, 0, 0, [], false⟩ f no ks) = 4) := Lib.hid (by
    simp only [ckNd]; rw [if_neg (by omega), if_neg (by simp [leafK]), if_neg (by simp [At.zero]), if_pos ⟨by omega, by cases no <;> simp_all⟩])
  have HB := Lib.hid ((Below.refl _ w).alloc (Nat.le_refl _) (.cells #[.int .i64 3, .string ⟨#[]⟩, .int .i64 0, .int .i64 0, .int .i64 0, .string ⟨#[]⟩, .bool false, .string ⟨f.toArray⟩, .bool no, .slice A n c] 57))
  cases no
  · have hf0 : ¬ f = [] := fun e => hf ⟨e, rfl⟩
    have hf1 : (!List.isEmpty f) = true := by cases f with | nil => exact absurd rfl hf0 | cons => rfl
    clear hf
    go_enter Tryz.func89, Tryz.ntmps89
    go_wp2
    go_ret
    exact ⟨ret_int HC.out.symm, HB.out⟩
  · clear hf
    go_enter Tryz.func89, Tryz.ntmps89
    go_wp2
    go_ret
    exact ⟨ret_int HC.out.symm, HB.out⟩
set_option maxRecDepth 100000 in
set_option maxHeartbeats 3200000 in
theorem rwalk_flag4 (f : Qm.W) (no : Bool) (A : Option Addr) (n c : Nat) (ks : List Nd) (w : World) (bx : Nat) (hf : ¬ (f = [] ∧ no = false)) :
    Calls Tryz.prog 89 #[.agg (ndRow 4 ⟨[], 0, 0, 0, [], false⟩ f no A n c).toArray, .pointer (some ⟨bx, 0, none⟩)] w fun e w' => e = .returned (.int .i64 (ckNd (.mk 4 ⟨[], 0, 0, 0, [], false⟩ f no ks))) ∧ Below w.heap.size w w' := by
  unfold ndRow
  have HC : Hid (ckNd (.mk 4 ⟨[], 0, 0, 0, [], false⟩ f no ks) = 4) := Lib.hid (by
    simp only [ckNd]; rw [if_neg (by omega), if_neg (by simp [leafK]), if_neg (by simp [At.zero]), if_pos ⟨by omega, by cases no <;> simp_all⟩])
  have HB := Lib.hid ((Below.refl _ w).alloc (Nat.le_refl _) (.cells #[.int .i64 4, .string ⟨#[]⟩, .int .i64 0, .int .i64 0, .int .i64 0, .string ⟨#[]⟩, .bool false, .string ⟨f.toArray⟩, .bool no, .slice A n c] 57))
  cases no
  · have hf0 : ¬ f = [] := fun e => hf ⟨e, rfl⟩
    have hf1 : (!List.isEmpty f) = true := by cases f with | nil => exact absurd rfl hf0 | cons => rfl
    clear hf
    go_enter Tryz.func89, Tryz.ntmps89
    go_wp2
    go_ret
    exact ⟨ret_int HC.out.symm, HB.out⟩
  · clear hf
    go_enter Tryz.func89, Tryz.ntmps89
    go_wp2
    go_ret
    exact ⟨ret_int HC.out.symm, HB.out⟩
set_option maxRecDepth 100000 in
set_option maxHeartbeats 3200000 in
theorem rwalk_name (f : Qm.W) (no : Bool) (A : Option Addr) (n c : Nat) (ks : List Nd) (w : World) (bx : Nat) (h3 : f.length ≤ maxLen) (hn : isName f = false) :
    Calls Tryz.prog 89 #[.agg (ndRow 5 ⟨[], 0, 0, 0, [], false⟩ f no A n c).toArray, .pointer (some ⟨bx, 0, none⟩)] w fun e w' => e = .returned (.int .i64 (ckNd (.mk 5 ⟨[], 0, 0, 0, [], false⟩ f no ks))) ∧ Below w.heap.size w w' := by
  unfold ndRow
  have hnm := fun wx => rname_any ⟨f.toArray⟩ wx (by rw [bsz]; exact h3)
  rw [show (⟨f.toArray⟩ : ByteArray).data.toList = f from by simp, hn] at hnm
  have Hnm := Lib.hid hnm; clear hnm
  have HC : Hid (ckNd (.mk 5 ⟨[], 0, 0, 0, [], false⟩ f no ks) = 1) := Lib.hid (by
    simp only [ckNd]; rw [if_neg (by omega), if_neg (by simp [leafK]), if_neg (by simp [At.zero]), if_neg (by simp), if_pos ⟨by trivial, hn⟩])
  have HB := Lib.hid ((Below.refl _ w).alloc (Nat.le_refl _) (.cells #[.int .i64 5, .string ⟨#[]⟩, .int .i64 0, .int .i64 0, .int .i64 0, .string ⟨#[]⟩, .bool false, .string ⟨f.toArray⟩, .bool no, .slice A n c] 57))
  clear h3 hn
  go_enter Tryz.func89, Tryz.ntmps89
  go_wp2_with (first | (go_at_call 52; refine (Hnm.out _).mono ?_; rintro e w1 ⟨rfl, hb1⟩; refine Hid.out ?_))
  refine Lib.hid ?_
  have HB1 := Lib.hid (HB.out.trans (hb1.mono HB.out.size)); clear hb1
  go_wp2
  go_ret
  exact ⟨ret_int HC.out.symm, HB1.out⟩
end Go.Proofs.YthpkffeiehnamaaGreatDoor
