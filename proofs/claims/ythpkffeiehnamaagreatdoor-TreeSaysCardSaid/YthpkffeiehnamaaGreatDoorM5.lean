/- Parts of the proof: walks and plain laws, side by side. -/
import Derived.Test.YthpkffeiehnamaaGreatDoorM3
import Derived.Test.YthpkffeiehnamaaGreatDoorM4
import Derived.Deep.DeepCutAuto
import Derived.Deep.CutBlock
import Derived.Test.YthpkffeiehnamaaGreatDoorM2
import Derived.Maps.AppendAt
import Derived.Test.YthpkffeiehnamaaGreatDoorShelf
set_option linter.unusedVariables false
set_option linter.unusedSimpArgs false
set_option linter.unusedSectionVars false
/- need.words, walked. -/
namespace Go.Proofs.YthpkffeiehnamaaGreatDoor
open Go.RowKit Qm

def strs (ws : List Qm.W) : List Value := ws.map fun l => .string ⟨l.toArray⟩
theorem strs_one (ws : List Qm.W) : ∀ u ∈ strs ws, u.oneCell' = true := by
  intro u hu
  obtain ⟨l, _, rfl⟩ := List.mem_map.1 hu
  rfl
theorem strs_append (a b : List Qm.W) : strs (a ++ b) = strs a ++ strs b := by simp [strs]
theorem strs_len (a : List Qm.W) : (strs a).length = a.length := by simp [strs]
theorem string_info : (Tryz.prog.info? 9).map (fun i => (i.zero, i.size, i.bytes)) = some (some (.string ⟨#[]⟩), 1, 16) := by kernel_rfl

/-- The words gathered so far, beside a box. -/
structure Wd (w : World) (box : List Value) (ws : List Qm.W) (A : Option Addr) (c : Nat) (wx : World) : Prop where
  own : wx.ownsRow (w.heap.size + 1) 9 1 (.slice A ws.length c) ws.length (strs ws)
  box : Whole wx w.heap.size 57 box
  bel : Below w.heap.size w wx
theorem Wd.alloc {w wx : World} {box : List Value} {ws : List Qm.W} {A : Option Addr} {c : Nat} (h : Wd w box ws A c wx) (o : Obj) : Wd w box ws A c (wx.alloc o) :=
  ⟨h.own.alloc o, h.box.alloc o, h.bel.alloc h.bel.size o⟩
theorem own_below {w w' : World} {base : Nat} {e : TypeId} {size : Nat} {v : Value} {n : Nat} {xs : List Value} (h : w.ownsRow base e size v n xs) (hb : Below w.heap.size w w') : w'.ownsRow base e size v n xs :=
  h.kept (grown_of_below hb none) (by cases hv : v.ownBlock <;> simp)
theorem Wd.below {w wx wy : World} {box : List Value} {ws : List Qm.W} {A : Option Addr} {c : Nat} (h : Wd w box ws A c wx) (hb : Below wx.heap.size wx wy) : Wd w box ws A c wy :=
  ⟨own_below h.own hb, h.box.below hb h.box.lt, h.bel.trans (hb.mono h.bel.size)⟩
theorem Wd.more {w wx wy : World} {box : List Value} {ws : List Qm.W} {A : Option Addr} {c : Nat} (h : Wd w box ws A c wx) {ws' : List Qm.W} {v' : Value} {news : List Value} {m : Nat} (hm : m = ws'.length) (hn : news = strs ws')
    (hown : wy.ownsRow (w.heap.size + 1) 9 1 v' (ws.length + m) (strs ws ++ news)) (hg : wx.grownBy wy (Value.slice A ws.length c).ownBlock) : ∃ A' c', v' = .slice A' (ws.length + m) c' ∧ Wd w box (ws ++ ws') A' c' wy := by
  subst hm hn
  obtain ⟨A', c', rfl, _, _, _⟩ := own_form hown
  refine ⟨A', c', rfl, ?_, ?_, ?_⟩
  · rw [strs_append, List.length_append]; exact hown
  · have hlt := h.own.lt
    refine h.box.grown hg ?_
    intro e
    have := (hlt _ e.symm).1
    omega
  · exact h.bel.grown hg h.bel.size fun k e => by have := (h.own.lt k e).1; omega

def WordsPost (w : World) (y : Nd) (e : Ending) (w' : World) : Prop :=
  ∃ A c, e = .returned (.slice A (wordsN y).length c) ∧ w'.ownsRow w.heap.size 9 1 (.slice A (wordsN y).length c) (wordsN y).length (strs (wordsN y)) ∧ Below w.heap.size w w'
theorem own_lower {w : World} {base base' : Nat} {e : TypeId} {size : Nat} {v : Value} {n : Nat} {xs : List Value} (h : w.ownsRow base e size v n xs) (hb : base' ≤ base) : w.ownsRow base' e size v n xs :=
  ⟨h.1, h.2.imp id fun ⟨g, cap, cur, h1, h2, h3⟩ => ⟨g, cap, cur, h1, Nat.le_trans hb h2, h3⟩⟩
theorem Wd.post {w wx : World} {box : List Value} {y : Nd} {A : Option Addr} {c : Nat} (h : Wd w box (wordsN y) A c wx) : WordsPost w y (.returned (.slice A (wordsN y).length c)) wx :=
  ⟨A, c, rfl, own_lower h.own (Nat.le_succ _), h.bel⟩

theorem bapp (a b : Qm.W) : (⟨a.toArray⟩ : ByteArray) ++ ⟨b.toArray⟩ = ⟨(a ++ b).toArray⟩ := by
  apply ByteArray.ext
  simp

theorem bflag0 (f : Qm.W) : (⟨#[]⟩ : ByteArray) ++ ⟨f.toArray⟩ ++ ⟨#[63]⟩ = ⟨(f ++ [63]).toArray⟩ := by
  rw [show (⟨#[]⟩ : ByteArray) = ⟨([] : Qm.W).toArray⟩ from rfl, show (⟨#[63]⟩ : ByteArray) = ⟨([63] : Qm.W).toArray⟩ from rfl, bapp, bapp]; rfl
theorem bflag1 (f : Qm.W) : (⟨#[33]⟩ : ByteArray) ++ ⟨f.toArray⟩ ++ ⟨#[63]⟩ = ⟨(33 :: f ++ [63]).toArray⟩ := by
  rw [show (⟨#[33]⟩ : ByteArray) = ⟨([33] : Qm.W).toArray⟩ from rfl, show (⟨#[63]⟩ : ByteArray) = ⟨([63] : Qm.W).toArray⟩ from rfl, bapp, bapp]; rfl
theorem own_row {w : World} {base : Nat} {e : TypeId} {A : Option Addr} {n c : Nat} {vs : List Value} (h : w.ownsRow base e 1 (.slice A n c) n vs) : Row w (fun k => base ≤ k ∧ k < w.heap.size) A n vs := by
  obtain ⟨A', c', he, _, _, hr⟩ := own_form h
  injection he with h1 _ _
  subst h1
  exact hr
theorem Wd.post' {w wx : World} {box : List Value} {y : Nd} {ws : List Qm.W} {A : Option Addr} {c : Nat} (h : Wd w box ws A c wx) (he : wordsN y = ws) : WordsPost w y (.returned (.slice A ws.length c)) wx := by
  subst he; exact h.post
theorem wordsL_snoc : ∀ (ks : List Nd) (y : Nd), wordsL (ks ++ [y]) = wordsL ks ++ wordsN y
  | [], y => by simp [wordsL]
  | k :: r, y => by simp only [List.cons_append, wordsL, wordsL_snoc r y, List.append_assoc]
theorem take_snocN {ks : List Nd} {j : Nat} {y : Nd} (h : ks[j]? = some y) : ks.take (j + 1) = ks.take j ++ [y] := by
  obtain ⟨hj, e⟩ := List.getElem?_eq_some_iff.1 h
  rw [List.take_succ_eq_append_getElem hj, e]
theorem wordsN_count : ∀ (y : Nd), (wordsN y).length ≤ 4 * y.nodes := by
  refine Nd.ind fun k a f no ks ih => ?_
  have hL : ∀ {l : List Nd}, (∀ y ∈ l, (wordsN y).length ≤ 4 * y.nodes) → (wordsL l).length ≤ 4 * nodesL l := by
    intro l
    induction l with
    | nil => intro _; simp [wordsL, nodesL]
    | cons y l ihl =>
      intro hl
      have h1 := hl y (List.mem_cons_self ..)
      have h2 := ihl fun z hz => hl z (List.mem_cons_of_mem _ hz)
      simp only [wordsL, nodesL, List.length_append]; omega
  have := hL ih
  have hh : (headW k f no).length ≤ 1 := by unfold headW; split; · simp
                                            split <;> simp
  simp only [wordsN, Nd.nodes]
  split
  · simp; omega
  · split
    · simp; omega
    · simp; omega
theorem take_words (ks : List Nd) (j : Nat) : (wordsL (ks.take j)).length ≤ 4 * nodesL ks := by
  have h : ∀ (l : List Nd) (j : Nat), (wordsL (l.take j)).length ≤ 4 * nodesL l := by
    intro l
    induction l with
    | nil => intro j; simp [wordsL]
    | cons y l ihl =>
      intro j
      cases j with
      | zero => simp [wordsL]
      | succ j =>
        have := wordsN_count y
        have := ihl j
        simp only [List.take_succ_cons, wordsL, nodesL, List.length_append]; omega
  exact h ks j
theorem nodes_mem : ∀ {ks : List Nd} {y : Nd}, y ∈ ks → y.nodes ≤ nodesL ks
  | [], _, h => by cases h
  | k :: r, y, h => by
    simp only [nodesL]
    rcases List.mem_cons.1 h with rfl | h
    · omega
    · have := nodes_mem h; omega

/- one word behind: of P at wp, the words WS; the word L -/
set_option maxRecDepth 100000 in
set_option maxHeartbeats 6400000 in
theorem words_any : ∀ (y : Nd) (S : Nat → Prop) (x : List Value) (w : World), RNd w S x y → (∀ k, S k → k < w.heap.size) → ckNd y = 0 → y.nodes ≤ 100 →
    Calls Tryz.prog 78 #[.agg x.toArray] w (WordsPost w y) := by
  refine Nd.ind fun k a f no ks ih => ?_
  intro S x w hR hS h0 hnod
  have HI := Lib.hid ih; clear ih
  obtain ⟨A, n, c, rfl, hnc, hc, h1, h2, h3, hK⟩ := hR.open_
  clear hR
  obtain ⟨i0, hi, hz0, hz1, hz2⟩ := info_parts string_info
  have Hi := Lib.hid hi; have Hz0 := Lib.hid hz0; have Hz1 := Lib.hid hz1; have Hz2 := Lib.hid hz2
  clear hi hz0 hz1 hz2
  have HS := Lib.hid hS; clear hS
  have HK := Lib.hid hK; clear hK
  unfold maxLen at hc
  obtain ⟨nm, op, ver, slot, fl, on⟩ := a
  simp only [] at h1 h2
  have hpr := fun wx => print_any ⟨nm.toArray⟩ ⟨fl.toArray⟩ op ver slot on wx (by rw [bsz]; exact h1) (by rw [bsz]; exact h2)
  rw [show atOf ⟨nm.toArray⟩ op ver slot ⟨fl.toArray⟩ on = ⟨nm, op, ver, slot, fl, on⟩ from by simp [atOf]] at hpr
  rw [show printS ⟨nm, op, ver, slot, fl, on⟩ = prAtom ⟨nm, op, ver, slot, fl, on⟩ from rfl] at hpr
  have HP : Hid (wordsN (.mk k ⟨nm, op, ver, slot, fl, on⟩ f no ks) = if k = 1 then [prAtom ⟨nm, op, ver, slot, fl, on⟩] else if k = 2 then [33 :: prAtom ⟨nm, op, ver, slot, fl, on⟩] else headW k f no ++ [40] :: (wordsL ks ++ [[41]])) := Lib.hid rfl
  have hpa : ckAtom ⟨nm, op, ver, slot, fl, on⟩ = 0 → (prAtom ⟨nm, op, ver, slot, fl, on⟩).length ≤ 100 := fun h => by unfold prAtom; rw [if_pos h]; exact textOf_len (atOk h)
  unfold atv at hpr
  have hkid : (k = 1 ∨ k = 2) ∧ ckAtom ⟨nm, op, ver, slot, fl, on⟩ = 0 ∨ (k = 3 ∨ k = 4 ∨ k = 5) ∧ (∀ x ∈ ks, ckNd x = 0) ∧ (k = 5 → f.length ≤ 8) := by
    unfold ckNd at h0
    split at h0
    · cases h0
    split at h0
    · cases h0
    split at h0
    · cases h0
    split at h0
    · cases h0
    split at h0
    · cases h0
    rename_i q1 q2 q3 q4 q5
    by_cases hl : leafK k = true
    · rw [if_pos hl] at h0
      exact .inl ⟨by simpa [leafK] using hl, h0⟩
    · rw [if_neg hl] at h0
      refine .inr ⟨by simp [leafK] at hl; omega, ckKids_zero.1 h0, fun h5 => ?_⟩
      cases e : isName f
      · exact absurd ⟨h5, e⟩ q5
      · exact (isName_len e).2
  generalize prAtom ⟨nm, op, ver, slot, fl, on⟩ = s at hpr HP hpa
  generalize printE ⟨nm, op, ver, slot, fl, on⟩ = z at hpr
  have Hpr := Lib.hid hpr; clear hpr h0
  have Hnod : Hid (4 * nodesL ks ≤ 400) := Lib.hid (by simp only [Nd.nodes] at hnod; omega)
  have Hkn : Hid (∀ x ∈ ks, x.nodes ≤ 100) := Lib.hid (fun x hx => by have := nodes_mem hx; simp only [Nd.nodes] at hnod; omega)
  clear hnod
  unfold ndRow
  have HW := Lib.hid (Whole.new w _ 57 [.int .i64 k, .string ⟨nm.toArray⟩, .int .i64 op, .int .i64 ver, .int .i64 slot, .string ⟨fl.toArray⟩, .bool on, .string ⟨f.toArray⟩, .bool no, .slice A n c] rfl)
  have HB := Lib.hid ((Below.refl _ w).alloc (Nat.le_refl _) (.cells #[.int .i64 k, .string ⟨nm.toArray⟩, .int .i64 op, .int .i64 ver, .int .i64 slot, .string ⟨fl.toArray⟩, .bool on, .string ⟨f.toArray⟩, .bool no, .slice A n c] 57))
  rcases hkid with ⟨hk, ha⟩ | ⟨hk, hks, hf⟩
  · have hsl := hpa ha
    clear ha hpa
    rcases hk with rfl | rfl
    · have HE : Hid (wordsN (.mk 1 ⟨nm, op, ver, slot, fl, on⟩ f no ks) = [s]) := Lib.hid (by rw [HP.out, if_pos rfl])
      go_enter Tryz.func78, Tryz.ntmps78
      go_wp2_with (first | (go_at_call 109; refine (Hpr.out _).mono ?_; rintro e w1 ⟨rfl, hb1⟩; refine Hid.out ?_))
      refine Lib.hid ?_
      have HB1 := Lib.hid (HB.out.trans (hb1.mono HB.out.size))
      have HW1 := Lib.hid (HW.out.below hb1 HW.out.lt); clear hb1
      have g0 := HW1.out.cell 0
      simp only [List.getElem?_cons_zero, List.getElem?_cons_succ] at g0
      go_wp2
      go_ret
      refine ⟨some ⟨w1.heap.size, 0, none⟩, 1, by rw [HE.out]; rfl, ?_, HB1.out.alloc HB1.out.size _⟩
      rw [HE.out]
      exact ⟨rfl, .inr ⟨w1.heap.size, 1, #[.string ⟨s.toArray⟩], rfl, HB1.out.size, heap_alloc_new w1 _, Nat.le_refl _, by unfold maxLen; omega, rfl, rfl⟩⟩
    · have HE : Hid (wordsN (.mk 2 ⟨nm, op, ver, slot, fl, on⟩ f no ks) = [33 :: s]) := Lib.hid (by rw [HP.out, if_neg (by decide), if_pos rfl])
      go_enter Tryz.func78, Tryz.ntmps78
      go_wp2_with (first | (go_at_call 109; refine (Hpr.out _).mono ?_; rintro e w1 ⟨rfl, hb1⟩; refine Hid.out ?_))
      refine Lib.hid ?_
      have HB1 := Lib.hid (HB.out.trans (hb1.mono HB.out.size))
      have HW1 := Lib.hid (HW.out.below hb1 HW.out.lt); clear hb1
      have g0 := HW1.out.cell 0
      simp only [List.getElem?_cons_zero, List.getElem?_cons_succ] at g0
      go_wp2
      go_ret
      refine ⟨some ⟨w1.heap.size, 0, none⟩, 1, by rw [HE.out]; rfl, ?_, HB1.out.alloc HB1.out.size _⟩
      rw [HE.out]
      refine ⟨rfl, .inr ⟨w1.heap.size, 1, _, rfl, HB1.out.size, heap_alloc_new w1 _, Nat.le_refl _, by unfold maxLen; omega, rfl, ?_⟩⟩
      have := bapp [33] s
      simp only [strs, List.map_cons, List.map_nil, List.take_succ_cons, List.take_zero]
      rw [show (⟨#[33]⟩ : ByteArray) = ⟨[33].toArray⟩ from rfl, this]; rfl
  · have HE : Hid (wordsN (.mk k ⟨nm, op, ver, slot, fl, on⟩ f no ks) = headW k f no ++ [40] :: (wordsL ks ++ [[41]])) := Lib.hid (by rw [HP.out, if_neg (by omega), if_neg (by omega)])
    have e1 : (k == 1) = false := by simp; omega
    have e2 : (k == 2) = false := by simp; omega
    have Hks := Lib.hid hks
    clear hpa hks HP
    go_enter Tryz.func78, Tryz.ntmps78
    go_wp2_with (first | (go_at_call 109; refine (Hpr.out _).mono ?_; rintro e w1 ⟨rfl, hb1⟩; refine Hid.out ?_))
    refine Lib.hid ?_
    have W1 : Hid (Wd w [.int .i64 k, .string ⟨nm.toArray⟩, .int .i64 op, .int .i64 ver, .int .i64 slot, .string ⟨fl.toArray⟩, .bool on, .string ⟨f.toArray⟩, .bool no, .slice A n c] [] none 0 w1) := Lib.hid ⟨World.ownsRow_nil _ _ _ _, HW.out.below hb1 HW.out.lt, HB.out.trans (hb1.mono HB.out.size)⟩
    clear hb1 HB HW Hpr
    have g0 := W1.out.box.cell 0; have g1 := W1.out.box.cell 1; have g2 := W1.out.box.cell 2; have g3 := W1.out.box.cell 3; have g4 := W1.out.box.cell 4
    have g5 := W1.out.box.cell 5; have g6 := W1.out.box.cell 6; have g7 := W1.out.box.cell 7; have g8 := W1.out.box.cell 8; have g9 := W1.out.box.cell 9
    simp only [List.getElem?_cons_zero, List.getElem?_cons_succ] at g0 g1 g2 g3 g4 g5 g6 g7 g8 g9
    go_upto_block 0 with fail
    go_cut [5] (fun v wx => ∃ A5 c5, v = .slice A5 (headW k f no).length c5 ∧ Wd w [.int .i64 k, .string ⟨nm.toArray⟩, .int .i64 op, .int .i64 ver, .int .i64 slot, .string ⟨fl.toArray⟩, .bool on, .string ⟨f.toArray⟩, .bool no, .slice A n c] (headW k f no) A5 c5 wx)
    case first =>
      rcases hk with rfl | rfl | rfl
      · go_wp2_with fail
        go_meet
        case rel => exact ⟨none, 0, rfl, W1.out⟩
      ·
        go_wp2_with (at_builtin; refine wpList_append_own _ rfl _ _ 54 rfl (w.heap.size + 1) 9 i0 (.string ⟨#[]⟩) 1 16 Tryz.underlying54 Hi.out Hz0.out Hz1.out Hz2.out rfl (by decide) _ _ _ rfl (W1.out.own.alloc _) ⟨w1.heap.size, 0, none⟩ 1 1 [.string _] rfl rfl (cell_one_new _ _ _) (by simp [Value.oneCell']) (by unfold maxLen; first | omega | (simp; done) | (simp; omega)) (by first | omega | (simp; done) | (simp; omega)) (by have := W1.out.box.lt; first | omega | (simp; omega)) ?_)
        intro v' wn hown hg _
        (try simp only [List.nil_append, List.length_nil, Nat.zero_add] at hown)
        obtain ⟨A', c', rfl, P'⟩ := (W1.out.alloc _).more (ws' := [[124,124]]) rfl (by first | rfl | (rfl)) hown hg
        clear hown hg
        have W2 := Lib.hid P'; clear P'
        go_wp2_with fail
        go_meet
        case rel => exact ⟨_, _, rfl, W2.out⟩
      · have hfl := hf rfl
        cases no
        ·
          go_wp2_with (at_builtin; refine wpList_append_own _ rfl _ _ 54 rfl (w.heap.size + 1) 9 i0 (.string ⟨#[]⟩) 1 16 Tryz.underlying54 Hi.out Hz0.out Hz1.out Hz2.out rfl (by decide) _ _ _ rfl (W1.out.own.alloc _) ⟨w1.heap.size, 0, none⟩ 1 1 [.string _] rfl rfl (cell_one_new _ _ _) (by simp [Value.oneCell']) (by unfold maxLen; first | omega | (simp; done) | (simp; omega)) (by first | omega | (simp; done) | (simp; omega)) (by have := W1.out.box.lt; first | omega | (simp; omega)) ?_)
          intro v' wn hown hg _
          (try simp only [List.nil_append, List.length_nil, Nat.zero_add] at hown)
          obtain ⟨A', c', rfl, P'⟩ := (W1.out.alloc _).more (ws' := [(f ++ [63])]) rfl (by first | rfl | (simp [strs, bflag0])) hown hg
          clear hown hg
          have W2 := Lib.hid P'; clear P'
          go_wp2_with fail
          go_meet
          case rel => exact ⟨_, _, rfl, W2.out⟩
        ·
          go_wp2_with (at_builtin; refine wpList_append_own _ rfl _ _ 54 rfl (w.heap.size + 1) 9 i0 (.string ⟨#[]⟩) 1 16 Tryz.underlying54 Hi.out Hz0.out Hz1.out Hz2.out rfl (by decide) _ _ _ rfl (W1.out.own.alloc _) ⟨w1.heap.size, 0, none⟩ 1 1 [.string _] rfl rfl (cell_one_new _ _ _) (by simp [Value.oneCell']) (by unfold maxLen; first | omega | (simp; done) | (simp; omega)) (by first | omega | (simp; done) | (simp; omega)) (by have := W1.out.box.lt; first | omega | (simp; omega)) ?_)
          intro v' wn hown hg _
          (try simp only [List.nil_append, List.length_nil, Nat.zero_add] at hown)
          obtain ⟨A', c', rfl, P'⟩ := (W1.out.alloc _).more (ws' := [(33 :: f ++ [63])]) rfl (by first | rfl | (simp [strs, bflag1])) hown hg
          clear hown hg
          have W2 := Lib.hid P'; clear P'
          go_wp2_with fail
          go_meet
          case rel => exact ⟨_, _, rfl, W2.out⟩
    case rest =>
      obtain ⟨A5, c5, rfl, hW⟩ := hcut
      have W2 := Lib.hid hW; clear hW W1
      clear g0 g1 g2 g3 g4 g5 g6 g7 g8 g9
      have hh : (headW k f no).length ≤ 1 := by unfold headW; split; · simp
                                                split <;> simp
      generalize headW k f no = hd at hh HE W2
      go_wp2_with (at_builtin; refine wpList_append_own _ rfl _ _ 54 rfl (w.heap.size + 1) 9 i0 (.string ⟨#[]⟩) 1 16 Tryz.underlying54 Hi.out Hz0.out Hz1.out Hz2.out rfl (by decide) _ _ _ rfl (W2.out.own.alloc _) ⟨wc.heap.size, 0, none⟩ 1 1 [.string _] rfl rfl (cell_one_new _ _ _) (by simp [Value.oneCell']) (by unfold maxLen; first | omega | (simp; done) | (simp; omega)) (by first | omega | (simp; done) | (simp; omega)) (by have := W2.out.box.lt; first | omega | (simp; omega)) ?_)
      intro v' wn hown hg _
      (try simp only [List.nil_append, List.length_nil, Nat.zero_add] at hown)
      obtain ⟨A', c', rfl, P'⟩ := (W2.out.alloc _).more (ws' := [[40]]) rfl (by first | rfl | (rfl)) hown hg
      clear hown hg
      have W3 := Lib.hid P'; clear P'
      clear W2
      have g0 := W3.out.box.cell 0; have g1 := W3.out.box.cell 1; have g2 := W3.out.box.cell 2; have g3 := W3.out.box.cell 3; have g4 := W3.out.box.cell 4
      have g5 := W3.out.box.cell 5; have g6 := W3.out.box.cell 6; have g7 := W3.out.box.cell 7; have g8 := W3.out.box.cell 8; have g9 := W3.out.box.cell 9
      simp only [List.getElem?_cons_zero, List.getElem?_cons_succ] at g0 g1 g2 g3 g4 g5 g6 g7 g8 g9
      go_wp2_with fail
      go_loopg [5, 49] n (fun g v iv wr => ∃ (j : Nat) (A7 : Option Addr) (c7 : Nat), Hid (j + g = n) ∧ iv = .int .i64 j ∧ v = .slice A7 (hd ++ [40] :: wordsL (ks.take j)).length c7 ∧ Hid (Wd w [.int .i64 k, .string ⟨nm.toArray⟩, .int .i64 op, .int .i64 ver, .int .i64 slot, .string ⟨fl.toArray⟩, .bool on, .string ⟨f.toArray⟩, .bool no, .slice A n c] (hd ++ [40] :: wordsL (ks.take j)) A7 c7 wr))
      case atStart => exact ⟨0, A', c', Lib.hid (Nat.zero_add _), rfl, by simp [wordsL], Lib.hid (by simpa [wordsL] using W3.out)⟩
      case round =>
        clear g0 g1 g2 g3 g4 g5 g6 g7 g8 g9
        clear W3
        obtain ⟨j, A7, c7, Hj, rfl, rfl, W4⟩ := hrel
        have htk := take_words ks j
        have hnod := Hnod.out
        have hlen : (hd ++ [40] :: wordsL (ks.take j)).length ≤ 402 := by simp; omega
        obtain ⟨ws, hws⟩ : ∃ ws, hd ++ [40] :: wordsL (ks.take j) = ws := ⟨_, rfl⟩
        rw [hws] at hlen W4
        rw [hws]
        have Hws := Lib.hid hws; clear hws
        by_cases hj : j < n
        · obtain ⟨b, o, x, y, rfl, hb, hy, hxy, hcell⟩ := (HK.out.under W4.out.bel HS.out).at_ hj
          have Hdr := Lib.hid (take_snocN hy)
          have hmem := List.mem_of_getElem? hy
          have h0 := Hks.out y hmem
          have hyn := Hkn.out y hmem
          have hyc : (wordsN y).length ≤ 400 := by have := wordsN_count y; omega
          have hcall := fun wx => HI.out y hmem S x wx
          obtain ⟨yk, ya, yf, yn, yks⟩ := y
          obtain ⟨A', n', c', rfl, -⟩ := hxy.open_
          have k0 := hcell 0 (by omega); have k1 := hcell 1 (by omega); have k2 := hcell 2 (by omega); have k3 := hcell 3 (by omega); have k4 := hcell 4 (by omega)
          have k5 := hcell 5 (by omega); have k6 := hcell 6 (by omega); have k7 := hcell 7 (by omega); have k8 := hcell 8 (by omega); have k9 := hcell 9 (by omega)
          clear hcell
          have hbl : Below wr.heap.size wr (wr.alloc (.cells (ndRow yk ya yf yn A' n' c').toArray 57)) := (Below.refl _ wr).alloc (Nat.le_refl _) _
          have hcall2 := hcall (wr.alloc (.cells (ndRow yk ya yf yn A' n' c').toArray 57)) (hxy.under hbl fun q hq => Nat.lt_of_lt_of_le (HS.out q hq) W4.out.bel.size) (fun q hq => Nat.lt_of_lt_of_le (HS.out q hq) (Nat.le_trans W4.out.bel.size hbl.size)) h0 hyn
          have W5 := Lib.hid (W4.out.alloc (.cells (ndRow yk ya yf yn A' n' c').toArray 57))
          clear hbl hcall hxy h0 hyn hy
          unfold ndRow at k0 k1 k2 k3 k4 k5 k6 k7 k8 k9 hcall2 W5
          simp only [List.getElem?_cons_zero, List.getElem?_cons_succ, Nat.add_zero] at k0 k1 k2 k3 k4 k5 k6 k7 k8 k9
          have Hcall := Lib.hid hcall2; clear hcall2
          generalize hq : wordsN (.mk yk ya yf yn yks) = q at hyc
          have HQ := Lib.hid hq; clear hq
          go_wp2_with fail
          refine Hcall.out.mono ?_
          rintro e w6 ⟨A6, c6, rfl, hown6, hb6⟩
          rw [HQ.out] at hown6 ⊢
          have W6 := Lib.hid (W5.out.below hb6)
          have Hrow6 := Lib.hid (own_row hown6)
          have hsz : w.heap.size + 1 ≤ w6.heap.size := W6.out.box.lt
          clear W5 hown6 hb6 Hcall k0 k1 k2 k3 k4 k5 k6 k7 k8 k9
          go_wp2_with (at_builtin; refine wpList_append_row rfl _ _ 54 rfl (w.heap.size + 1) 9 i0 (.string ⟨#[]⟩) 16 Tryz.underlying54 Hi.out Hz0.out Hz1.out Hz2.out rfl _ _ _ rfl W6.out.own A6 q.length c6 (strs q) rfl _ Hrow6.out (strs_one _) (by unfold maxLen; omega) (by omega) hsz ?_)
          intro A8 c8 w8 hn8 hc8 hown8 hg8
          obtain ⟨A9, c9, he9, P9⟩ := W6.out.more (ws' := q) rfl rfl hown8 hg8
          injection he9 with he1 _ he2
          subst he1 he2
          have W9 := Lib.hid P9
          clear P9 hn8 hc8 hown8 hg8 W6
          go_wp2_with fail
          go_roundg (gk - 1)
          case measure => have := Hj.out; omega
          case rel =>
            have hws : hd ++ [40] :: wordsL (ks.take (j + 1)) = ws ++ q := by
              rw [← Hws.out, Hdr.out, wordsL_snoc, HQ.out]; simp
            refine ⟨j + 1, A8, c8, Lib.hid (by have := Hj.out; omega), by go_num, ?_, Lib.hid ?_⟩
            · rw [hws, List.length_append]
            · rw [hws]; exact W9.out
        · obtain rfl : j = n := by have := Hj.out; omega
          have hE2 : wordsN (.mk k ⟨nm, op, ver, slot, fl, on⟩ f no ks) = ws ++ [[41]] := by
            rw [← Hws.out, HE.out, List.take_of_length_le (by have := HK.out.len; omega)]; simp
          have HE2 := Lib.hid hE2; clear hE2
          go_wp2_with (at_builtin; refine wpList_append_own _ rfl _ _ 54 rfl (w.heap.size + 1) 9 i0 (.string ⟨#[]⟩) 1 16 Tryz.underlying54 Hi.out Hz0.out Hz1.out Hz2.out rfl (by decide) _ _ _ rfl (W4.out.own.alloc _) ⟨wr.heap.size, 0, none⟩ 1 1 [.string _] rfl rfl (cell_one_new _ _ _) (by simp [Value.oneCell']) (by unfold maxLen; first | omega | (simp; done) | (simp; omega)) (by first | omega | (simp; done) | (simp; omega)) (by have := W4.out.box.lt; first | omega | (simp; omega)) ?_)
          intro v' wn hown hg _
          (try simp only [List.nil_append, List.length_nil, Nat.zero_add] at hown)
          obtain ⟨A', c', rfl, P'⟩ := (W4.out.alloc _).more (ws' := [[41]]) rfl (by first | rfl | (rfl)) hown hg
          clear hown hg
          have W10 := Lib.hid P'; clear P'
          go_wp2_with fail
          go_ret
          have hp := W10.out.post' HE2.out
          simpa using hp
end Go.Proofs.YthpkffeiehnamaaGreatDoor

/- What a call may change: some blocks alone. -/
namespace Go.Proofs.YthpkffeiehnamaaGreatDoor
open Go.RowKit
/-- only blocks of D, and new ones, may have changed -/
structure Far (D : Nat → Prop) (w w' : World) : Prop where
  base : Below 0 w w'
  block : ∀ i, i < w.heap.size → ¬ D i → w'.heap[i]? = w.heap[i]?
section
variable {w w' w'' : World} {D D' : Nat → Prop} {S : Nat → Prop} {A : Option Addr} {n b : Nat}
theorem Far.size (h : Far D w w') : w.heap.size ≤ w'.heap.size := h.base.size
theorem Far.refl (D : Nat → Prop) (w : World) : Far D w w := ⟨Below.refl _ _, fun _ _ _ => rfl⟩
theorem Far.trans (h : Far D w w') (k : Far D' w' w'') (hD : ∀ i, i < w.heap.size → D' i → D i) : Far D w w'' :=
  ⟨h.base.trans k.base, fun i hi hn => (k.block i (Nat.lt_of_lt_of_le hi h.size) (fun hd => hn (hD i hi hd))).trans (h.block i hi hn)⟩
theorem Far.of_below (D : Nat → Prop) (h : Below w.heap.size w w') : Far D w w' := ⟨h.mono (Nat.zero_le _), fun i hi _ => h.block i hi⟩
theorem Far.of_grown {row : Option Nat} (h : w.grownBy w' row) (hD : ∀ i, some i = row → D i) : Far D w w' :=
  ⟨below_of_grown h (Nat.zero_le _) (fun _ _ => Nat.zero_le _), fun i hi hn => h.block i hi (fun e => hn (hD i e))⟩
theorem Far.set_ (hb : D b) (i : Nat) (u : Value) : Far D w (w.setCell ⟨b, i, none⟩ u) :=
  ⟨(Below.refl 0 w).setCell (Nat.zero_le _) _, fun k _ hn => heap_setCell_other w _ k u (fun e => hn (by rw [show k = b from e.symm ▸ rfl]; exact hb))⟩
theorem Far.drew (h : Far D w w') : Far D w w'.drew := ⟨below_drewN h.base 1, h.block⟩
theorem Far.drewN (h : Far D w w') (k : Nat) : Far D w (w'.drewN k) := ⟨below_drewN h.base k, h.block⟩
theorem Far.mono (h : Far D w w') (hD : ∀ i, D i → D' i) : Far D' w w' := ⟨h.base, fun i hi hn => h.block i hi (fun hd => hn (hD i hd))⟩
theorem Far.below (h : Far D w w') {B : Nat} (hB : B ≤ w.heap.size) (hD : ∀ i, D i → B ≤ i) : Below B w w' :=
  ⟨h.base.os, h.base.tape, h.base.output, h.size, fun i hi => h.block i (Nat.lt_of_lt_of_le hi hB) (fun hd => absurd (hD i hd) (by omega))⟩
theorem Far.whole {t : TypeId} {vs : List Value} (h : Far D w w') (hw : Whole w b t vs) (hb : ¬ D b) : Whole w' b t vs := (h.block b hw.lt hb).trans hw
theorem Far.cell (h : Far D w w') {p : Addr} (hp : p.block < w.heap.size) (hn : ¬ D p.block) : w'.cell? p = w.cell? p := World.cell?_of_block (h.block _ hp hn)
theorem Far.ints {xs : List Int} (h : Far D w w') (hr : RInts w S A n xs) (hS : ∀ k, S k → k < w.heap.size ∧ ¬ D k) : RInts w' S A n xs := hr.keep fun _ hp => h.cell (hS _ hp).1 (hS _ hp).2
theorem Far.bools {xs : List Bool} (h : Far D w w') (hr : RBools w S A n xs) (hS : ∀ k, S k → k < w.heap.size ∧ ¬ D k) : RBools w' S A n xs := Row.keep hr fun _ hp => h.cell (hS _ hp).1 (hS _ hp).2
theorem Far.own {base : Nat} {e : TypeId} {size : Nat} {v : Value} {vs : List Value} (h : Far D w w') (ho : w.ownsRow base e size v n vs) (hv : ∀ g, v.ownBlock = some g → ¬ D g) : w'.ownsRow base e size v n vs := by
  rcases ho.2 with h0 | ⟨g, cap, cur, rfl, hb, hh, hc, hm, hs, ht⟩
  · exact ⟨ho.1, .inl h0⟩
  · exact ⟨ho.1, .inr ⟨g, cap, cur, rfl, hb, (h.block g (lt_of_block hh) (hv g rfl)).trans hh, hc, hm, hs, ht⟩⟩
/-- a row that is owned lies in no block of another type -/
theorem own_ne {base : Nat} {e t : TypeId} {size : Nat} {v : Value} {vs us : List Value} (ho : w.ownsRow base e size v n vs) (hw : Whole w b t us) (ht : t ≠ e) : v.ownBlock ≠ some b := by
  rcases ho.2 with ⟨rfl, _⟩ | ⟨g, cap, cur, rfl, _, hh, _⟩
  · intro h; cases h
  · intro h
    simp only [Value.ownBlock] at h
    injection h with h
    subst h
    unfold Whole at hw
    rw [hh] at hw
    injection hw with hw; injection hw with _ hw
    exact ht hw.symm
end
end Go.Proofs.YthpkffeiehnamaaGreatDoor

/- need.Print, the reader's next, walked. (Of the shelf: Tryz.strings_HasSuffix Tryz.strings_Split Tryz.slices_Sort_string Tryz.slices_Sort_string_none Tryz.slices_Compact_string Tryz.slices_Compact_string_empty Tryz.slices_Equal_string Tryz.slices_Equal_string_lens Tryz.slices_Equal_string_empty) -/
namespace Go.Proofs.YthpkffeiehnamaaGreatDoor
open Go.RowKit Qm

theorem RNd.far {w w' : World} {S D : Nat → Prop} {x : List Value} {y : Nd} (h : RNd w S x y) (hf : Far D w w') (hS : ∀ k, S k → k < w.heap.size ∧ ¬ D k) : RNd w' S x y := h.keep fun _ hp => hf.cell (hS _ hp).1 (hS _ hp).2
theorem strs_get (ws : List Qm.W) (j : Nat) (x : ByteArray) (h : (ws.map fun l => (⟨l.toArray⟩ : ByteArray))[j]? = some x) : (strs ws)[j]? = some (.string x) := by
  unfold strs
  rw [List.getElem?_map] at h ⊢
  cases e : ws[j]? with
  | none => rw [e] at h; cases h
  | some l => rw [e] at h; simp at h; simp [h]
theorem data_map (ws : List Qm.W) : (ws.map fun l => (⟨l.toArray⟩ : ByteArray)).map (·.data.toList) = ws := by
  induction ws with
  | nil => rfl
  | cons a r ih => simp only [List.map_cons, ih]

set_option maxHeartbeats 1600000 in
theorem join_any (b o c : Nat) (ws : List Qm.W) (w : World) (S : Nat → Prop) (hr : Row w S (some ⟨b, o, none⟩) ws.length (strs ws)) (hS : ∀ k, S k → k < w.heap.size) (hpos : 0 < ws.length) (hc : ws.length ≤ c) (d : UInt8) (hlen : fullLen ws ≤ 1000000) :
    Calls Tryz.prog 41 #[.slice (some ⟨b, o, none⟩) ws.length c, .string ⟨#[d]⟩] w fun e w' => e = .returned (.string ⟨(joinB d ws).toArray⟩) ∧ Below w.heap.size w w' := by
  obtain ⟨b', o', e, hb, hcell⟩ := hr.2 hpos
  injection e with e; injection e with e1 e2
  subst e1 e2
  have hj := join_eq d ws
  have hl : ws.length ≤ fullLen ws := by
    clear hr hpos hc hlen hcell hj
    induction ws with
    | nil => simp
    | cons a r ih => simp [fullLen] at ih ⊢; omega
  have h := Tryz.strings_Join b o c (ws.map fun l => ⟨l.toArray⟩) ⟨#[d]⟩ w (fun j x hx => by
      have hjl : j < ws.length := by have := (List.getElem?_eq_some_iff.1 hx).1; simpa using this
      rw [hcell j hjl]; exact strs_get ws j x hx) (hS _ hb) (by simp; omega) (by simpa using hc) (by
      rw [data_map, show (⟨#[d]⟩ : ByteArray).data.toList = [d] from rfl, hj]
      have := join_len d ws; omega)
  rw [data_map, show (⟨#[d]⟩ : ByteArray).data.toList = [d] from rfl, hj] at h
  simpa using h

/-- As the words come, in literal form. -/
def WordsLit (w : World) (y : Nd) (e : Ending) (w' : World) : Prop :=
  ∃ b o c, e = .returned (.slice (some ⟨b, o, none⟩) (wordsN y).length c) ∧ (wordsN y).length ≤ c ∧ Row w' (fun k => w.heap.size ≤ k ∧ k < w'.heap.size) (some ⟨b, o, none⟩) (wordsN y).length (strs (wordsN y)) ∧ Below w.heap.size w w'
theorem WordsPost.lit {w w' : World} {y : Nd} {e : Ending} (h : WordsPost w y e w') : WordsLit w y e w' := by
  obtain ⟨A, c, rfl, hown, hb⟩ := h
  have hp : 0 < (wordsN y).length := by
    cases e : wordsN y
    · exact absurd e (words_ne y)
    · simp
  have hrow := own_row hown
  obtain ⟨A', c', he, hc1, hc2, _⟩ := own_form hown
  injection he with _ _ he
  subst he
  obtain ⟨b, o, rfl, _⟩ := hrow.some_lit hp
  exact ⟨b, o, c, rfl, hc1, hrow, hb⟩

set_option maxRecDepth 100000 in
set_option maxHeartbeats 1600000 in
theorem nprint_any (y : Nd) (S : Nat → Prop) (x : List Value) (w : World) (hR : RNd w S x y) (hS : ∀ k, S k → k < w.heap.size) :
    Calls Tryz.prog 38 #[.agg x.toArray] w fun e w' => e = .returned (.tuple #[.string ⟨(printNd y).toArray⟩, .int .i64 (ckNeed y)]) ∧ Below w.heap.size w w' := by
  have HY := Lib.hid (show ckNeed y = 0 → printNd y = ndText y by intro h; unfold printNd; rw [if_pos h])
  have HN := Lib.hid (show ckNeed y ≠ 0 → printNd y = [] by intro h; unfold printNd; rw [if_neg h])
  have HZ := Lib.hid (fun h => ckNeed_zero (n := y) h)
  have hck := fun wx h1 h2 => nCheck_any y S x wx h1 h2
  have hwd := fun wx h1 h2 h3 h4 => (words_any y S x wx h1 h2 h3 h4).mono (R' := WordsLit wx y) fun _ _ h => h.lit
  have HJ := Lib.hid (show fullLen (wordsN y) ≤ 200 * y.nodes ∨ ckNd y ≠ 0 from (Classical.em _).elim (fun h => .inl (words_len h)) .inr)
  have HP := Lib.hid (show 0 < (wordsN y).length by
    cases e : wordsN y
    · exact absurd e (words_ne y)
    · simp)
  have HT : Hid (ndText y = joinB 32 (wordsN y)) := Lib.hid rfl
  generalize printNd y = p at HY HN ⊢
  generalize ckNeed y = q at HY HN HZ hck ⊢
  obtain ⟨k, a, f, no, ks⟩ := y
  obtain ⟨A, n, c, rfl, -⟩ := hR.open_
  have HB := Lib.hid ((Below.refl _ w).alloc (Nat.le_refl _) (.cells (ndRow k a f no A n c).toArray 57))
  have HW := Lib.hid (Whole.new w _ 57 (ndRow k a f no A n c) rfl)
  have HR := Lib.hid (hR.under HB.out hS)
  have HS := Lib.hid hS
  clear hR hS
  unfold ndRow at HB HW HR hck hwd ⊢
  have Hck := Lib.hid hck; have Hwd := Lib.hid hwd; clear hck hwd
  by_cases h0 : q = 0
  · subst h0
    obtain ⟨_, hnod, hnd⟩ := HZ.out rfl
    have HPE : Hid (p = ndText (.mk k a f no ks)) := Lib.hid (HY.out rfl)
    have Hnod := Lib.hid hnod; have Hnd := Lib.hid hnd; clear hnod hnd HY HN HZ
    go_enter Tryz.func38, Tryz.ntmps38
    go_wp2_with (first | (go_at_call 77; refine (Hck.out _ HR.out (fun k hk => Nat.lt_of_lt_of_le (HS.out k hk) HB.out.size)).mono ?_; rintro e w1 ⟨rfl, hb1⟩; refine Hid.out ?_))
    refine Lib.hid ?_
    have HB1 := Lib.hid (HB.out.trans (hb1.mono HB.out.size))
    have HR1 := Lib.hid (HR.out.under hb1 fun k hk => Nat.lt_of_lt_of_le (HS.out k hk) HB.out.size)
    have HW1 := Lib.hid (HW.out.below hb1 HW.out.lt); clear hb1
    have g0 := HW1.out.cell 0; have g1 := HW1.out.cell 1; have g2 := HW1.out.cell 2; have g3 := HW1.out.cell 3; have g4 := HW1.out.cell 4
    have g5 := HW1.out.cell 5; have g6 := HW1.out.cell 6; have g7 := HW1.out.cell 7; have g8 := HW1.out.cell 8; have g9 := HW1.out.cell 9
    simp only [List.getElem?_cons_zero, List.getElem?_cons_succ] at g0 g1 g2 g3 g4 g5 g6 g7 g8 g9
    go_wp2_with (first | (go_at_call 78; refine (Hwd.out _ HR1.out (fun k hk => Nat.lt_of_lt_of_le (HS.out k hk) HB1.out.size) Hnd.out (by have := Hnod.out; omega)).mono ?_; rintro e w2 ⟨b, o, c2, rfl, hc1, hrow, hb2⟩; refine Hid.out ?_))
    refine Lib.hid ?_
    have HB2 := Lib.hid (HB1.out.trans (hb2.mono HB1.out.size)); clear hb2
    have hjn := join_any b o c2 (wordsN (.mk k a f no ks)) w2 _ hrow (fun k hk => hk.2) HP.out hc1 32 (by
      rcases HJ.out with h | h
      · have := Hnod.out; omega
      · exact absurd Hnd.out h)
    have Hjn := Lib.hid hjn
    clear hrow hc1 hjn
    go_wp2_with (first | (go_at_call 41; refine Hjn.out.mono ?_; rintro e w3 ⟨rfl, hb3⟩; refine Hid.out ?_))
    refine Lib.hid ?_
    have HB3 := Lib.hid (HB2.out.trans (hb3.mono HB2.out.size)); clear hb3
    go_wp2
    go_ret2
    obtain rfl : p = joinB 32 (wordsN (.mk k a f no ks)) := by rw [HPE.out, HT.out]
    exact ⟨rfl, HB3.out⟩
  · have h1 : (q != 0) = true := by simpa using h0
    have HPE : Hid (p = []) := Lib.hid (HN.out h0)
    clear HY HN HZ h0
    go_enter Tryz.func38, Tryz.ntmps38
    go_wp2_with (first | (go_at_call 77; refine (Hck.out _ HR.out (fun k hk => Nat.lt_of_lt_of_le (HS.out k hk) HB.out.size)).mono ?_; rintro e w1 ⟨rfl, hb1⟩; refine Hid.out ?_))
    refine Lib.hid ?_
    have HB1 := Lib.hid (HB.out.trans (hb1.mono HB.out.size)); clear hb1
    go_wp2
    go_ret2
    obtain rfl : p = [] := HPE.out
    exact ⟨rfl, HB1.out⟩

/-! the reader of words -/
/-- The reader's block R: what is left of the words, which lie in blocks of S. -/
def RdSt (w : World) (R : Nat) (S : Nat → Prop) (ws : List Qm.W) : Prop :=
  ∃ A c, Whole w R 124 [.slice A ws.length c] ∧ ws.length ≤ c ∧ c ≤ maxLen ∧ Row w S A ws.length (strs ws) ∧ ¬ S R
theorem RdSt.far {w w' : World} {R : Nat} {S D : Nat → Prop} {ws : List Qm.W} (h : RdSt w R S ws) (hf : Far D w w') (hR : ¬ D R) (hS : ∀ k, S k → k < w.heap.size ∧ ¬ D k) : RdSt w' R S ws := by
  obtain ⟨A, c, h1, h2, h3, h4, h5⟩ := h
  exact ⟨A, c, hf.whole h1 hR, h2, h3, h4.keep fun _ hp => hf.cell (hS _ hp).1 (hS _ hp).2, h5⟩
theorem RdSt.lt {w : World} {R : Nat} {S : Nat → Prop} {ws : List Qm.W} (h : RdSt w R S ws) : R < w.heap.size := by
  obtain ⟨A, c, h1, _⟩ := h; exact h1.lt

def NextPost (w : World) (R : Nat) (S : Nat → Prop) (ws : List Qm.W) (e : Ending) (w' : World) : Prop :=
  e = .returned (.string ⟨(ws.headD []).toArray⟩) ∧ RdSt w' R S ws.tail ∧ Far (fun i => i = R) w w' ∧ w'.heap.size = w.heap.size
set_option maxHeartbeats 1600000 in
theorem next_any (R : Nat) (S : Nat → Prop) (ws : List Qm.W) (w : World) (h : RdSt w R S ws) :
    Calls Tryz.prog 119 #[.pointer (some ⟨R, 0, none⟩)] w (NextPost w R S ws) := by
  obtain ⟨A, c, hw, hc1, hc2, hr, hS⟩ := h
  have HW := Lib.hid hw; have HR := Lib.hid hr; have HS := Lib.hid hS
  have g0 := hw.cell 0
  have f0 := hw.free 0
  simp only [List.getElem?_cons_zero] at g0
  unfold maxLen at hc2
  cases ws with
  | nil =>
    clear hw hr hS
    simp only [List.length_nil] at g0
    go_enter Tryz.func119, Tryz.ntmps119
    go_wp2
    go_ret
    exact ⟨rfl, ⟨A, c, HW.out, hc1, by unfold maxLen; omega, HR.out, HS.out⟩, Far.refl _ _, rfl⟩
  | cons a r =>
    obtain ⟨b, o, rfl, hb⟩ := hr.some_lit (by simp)
    have hcell := (hr.2 (by simp))
    obtain ⟨b', o', e, _, hcell⟩ := hcell
    injection e with e; injection e with e1 e2
    subst e1 e2
    have k0 := hcell 0 (by simp)
    simp only [Nat.add_zero, strs, List.map_cons, List.getElem?_cons_zero] at k0
    clear hcell
    have hl : (a :: r).length = r.length + 1 := rfl
    rw [hl] at g0 hc1
    have hdrop := hr.drop (k := 1) (cap := c) (by simp) hc1
    have Hdrop := Lib.hid hdrop
    clear hw hr hS hdrop hl
    by_cases c1 : c = 1
    · subst c1
      go_enter Tryz.func119, Tryz.ntmps119
      go_wp2
      go_ret
      obtain rfl : r = [] := List.eq_nil_of_length_eq_zero (by omega)
      refine ⟨rfl, ⟨some ⟨b, o, none⟩, 0, HW.out.set_ 0 _, Nat.le_refl _, by unfold maxLen; omega, ?_, HS.out⟩, Far.set_ (D := fun i => i = R) rfl 0 _, by simp [World.setCell]⟩
      have hd := Hdrop.out
      simp only [if_true] at hd
      exact hd.keep fun p hp => World.cell?_setCell_other _ _ _ _ (fun e => HS.out (by rw [← e] at hp; exact hp))
    · have h2 : 2 ≤ c := by omega
      go_enter Tryz.func119, Tryz.ntmps119
      go_wp2
      go_ret
      refine ⟨rfl, ⟨some ⟨b, o + 1, none⟩, c - 1, HW.out.set_ 0 _, by simp only [List.tail_cons]; omega, by unfold maxLen; omega, ?_, HS.out⟩, Far.set_ (D := fun i => i = R) rfl 0 _, by simp [World.setCell]⟩
      have hd := Hdrop.out
      rw [if_neg (by omega)] at hd
      exact hd.keep fun p hp => World.cell?_setCell_other _ _ _ _ (fun e => HS.out (by rw [← e] at hp; exact hp))
end Go.Proofs.YthpkffeiehnamaaGreatDoor

/- Words in memory, as strings. -/
namespace Go.Proofs.YthpkffeiehnamaaGreatDoor
open Go.RowKit Qm

def bas (ws : List Qm.W) : List ByteArray := ws.map fun l => ⟨l.toArray⟩
theorem bas_inj {a b : List Qm.W} : bas a = bas b ↔ a = b := by
  constructor
  · intro h
    have := congrArg (List.map (·.data.toList)) h
    simp only [bas] at this
    rwa [data_map, data_map] at this
  · rintro rfl; rfl
theorem strs_cell {w : World} {S : Nat → Prop} {b o : Nat} {ws : List Qm.W} (h : Row w S (some ⟨b, o, none⟩) ws.length (strs ws)) : ∀ j, j < (bas ws).length → w.cell? ⟨b, o + j, none⟩ = some (.string ((bas ws).getD j ByteArray.empty)) := by
  intro j hj
  have hj' : j < ws.length := by simpa [bas] using hj
  obtain ⟨b', o', e, _, hc⟩ := h.at_ hj'
  injection e with e; injection e with e1 e2
  subst e1 e2
  rw [hc]
  simp only [strs, bas, List.getElem?_map, List.getD_eq_getElem?_getD, List.getElem?_eq_getElem hj', Option.map_some, Option.getD_some]
end Go.Proofs.YthpkffeiehnamaaGreatDoor
