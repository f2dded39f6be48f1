/- need.words, walked. -/
import Derived.Test.YtnkmonmkhmcgaaaGreatDoorNW3
import Derived.Test.YtnkmonmkhmcgaaaGreatDoorApp
import Derived.Test.YtnkmonmkhmcgaaaGreatDoorAW3
import Derived.Deep.DeepCutAuto
import Derived.Deep.CutBlock
namespace Go.Proofs.YtnkmonmkhmcgaaaGreatDoor
open Go.RowKit Qm

def strs (ws : List Qm.W) : List Value := ws.map fun l => .string ⟨l.toArray⟩
theorem strs_one (ws : List Qm.W) : ∀ u ∈ strs ws, u.oneCell' = true := by
  intro u hu
  obtain ⟨l, _, rfl⟩ := List.mem_map.1 hu
  rfl
theorem strs_append (a b : List Qm.W) : strs (a ++ b) = strs a ++ strs b := by simp [strs]
theorem strs_len (a : List Qm.W) : (strs a).length = a.length := by simp [strs]
theorem string_info : (Tryz.prog.info? 9).map (fun i => (i.zero, i.size, i.bytes)) = some (some (.string ⟨#[]⟩), 1, 16) := by kernel_rfl

/-- The words gathered so far, beside a box. -/
structure Wd (w : World) (box : List Value) (ws : List Qm.W) (A : Option Addr) (c : Nat) (wx : World) : Prop where
  own : wx.ownsRow (w.heap.size + 1) 9 1 (.slice A ws.length c) ws.length (strs ws)
  box : Whole wx w.heap.size 26 box
  bel : Below w.heap.size w wx
theorem Wd.alloc {w wx : World} {box : List Value} {ws : List Qm.W} {A : Option Addr} {c : Nat} (h : Wd w box ws A c wx) (o : Obj) : Wd w box ws A c (wx.alloc o) :=
  ⟨h.own.alloc o, h.box.alloc o, h.bel.alloc h.bel.size o⟩
theorem own_below {w w' : World} {base : Nat} {e : TypeId} {size : Nat} {v : Value} {n : Nat} {xs : List Value} (h : w.ownsRow base e size v n xs) (hb : Below w.heap.size w w') : w'.ownsRow base e size v n xs :=
  h.kept (grown_of_below hb none) (by cases hv : v.ownBlock <;> simp)
theorem Wd.below {w wx wy : World} {box : List Value} {ws : List Qm.W} {A : Option Addr} {c : Nat} (h : Wd w box ws A c wx) (hb : Below wx.heap.size wx wy) : Wd w box ws A c wy :=
  ⟨own_below h.own hb, h.box.below hb h.box.lt, h.bel.trans (hb.mono h.bel.size)⟩
theorem Wd.more {w wx wy : World} {box : List Value} {ws : List Qm.W} {A : Option Addr} {c : Nat} (h : Wd w box ws A c wx) {ws' : List Qm.W} {v' : Value} {news : List Value} {m : Nat} (hm : m = ws'.length) (hn : news = strs ws')
    (hown : wy.ownsRow (w.heap.size + 1) 9 1 v' (ws.length + m) (strs ws ++ news)) (hg : wx.grownBy wy (Value.slice A ws.length c).ownBlock) : ∃ A' c', v' = .slice A' (ws.length + m) c' ∧ Wd w box (ws ++ ws') A' c' wy := by
  subst hm hn
  obtain ⟨A', c', rfl, _, _, _⟩ := own_form hown
  refine ⟨A', c', rfl, ?_, ?_, ?_⟩
  · rw [strs_append, List.length_append]; exact hown
  · have hlt := h.own.lt
    refine h.box.grown hg ?_
    intro e
    have := (hlt _ e.symm).1
    omega
  · exact h.bel.grown hg h.bel.size fun k e => by have := (h.own.lt k e).1; omega

def WordsPost (w : World) (y : Nd) (e : Ending) (w' : World) : Prop :=
  ∃ A c, e = .returned (.slice A (wordsN y).length c) ∧ w'.ownsRow w.heap.size 9 1 (.slice A (wordsN y).length c) (wordsN y).length (strs (wordsN y)) ∧ Below w.heap.size w w'
theorem own_lower {w : World} {base base' : Nat} {e : TypeId} {size : Nat} {v : Value} {n : Nat} {xs : List Value} (h : w.ownsRow base e size v n xs) (hb : base' ≤ base) : w.ownsRow base' e size v n xs :=
  ⟨h.1, h.2.imp id fun ⟨g, cap, cur, h1, h2, h3⟩ => ⟨g, cap, cur, h1, Nat.le_trans hb h2, h3⟩⟩
theorem Wd.post {w wx : World} {box : List Value} {y : Nd} {A : Option Addr} {c : Nat} (h : Wd w box (wordsN y) A c wx) : WordsPost w y (.returned (.slice A (wordsN y).length c)) wx :=
  ⟨A, c, rfl, own_lower h.own (Nat.le_succ _), h.bel⟩

theorem bapp (a b : Qm.W) : (⟨a.toArray⟩ : ByteArray) ++ ⟨b.toArray⟩ = ⟨(a ++ b).toArray⟩ := by
  apply ByteArray.ext
  simp

theorem bflag0 (f : Qm.W) : (⟨#[]⟩ : ByteArray) ++ ⟨f.toArray⟩ ++ ⟨#[63]⟩ = ⟨(f ++ [63]).toArray⟩ := by
  rw [show (⟨#[]⟩ : ByteArray) = ⟨([] : Qm.W).toArray⟩ from rfl, show (⟨#[63]⟩ : ByteArray) = ⟨([63] : Qm.W).toArray⟩ from rfl, bapp, bapp]; rfl
theorem bflag1 (f : Qm.W) : (⟨#[33]⟩ : ByteArray) ++ ⟨f.toArray⟩ ++ ⟨#[63]⟩ = ⟨(33 :: f ++ [63]).toArray⟩ := by
  rw [show (⟨#[33]⟩ : ByteArray) = ⟨([33] : Qm.W).toArray⟩ from rfl, show (⟨#[63]⟩ : ByteArray) = ⟨([63] : Qm.W).toArray⟩ from rfl, bapp, bapp]; rfl
theorem own_row {w : World} {base : Nat} {e : TypeId} {A : Option Addr} {n c : Nat} {vs : List Value} (h : w.ownsRow base e 1 (.slice A n c) n vs) : Row w (fun k => base ≤ k ∧ k < w.heap.size) A n vs := by
  obtain ⟨A', c', he, _, _, hr⟩ := own_form h
  injection he with h1 _ _
  subst h1
  exact hr
theorem Wd.post' {w wx : World} {box : List Value} {y : Nd} {ws : List Qm.W} {A : Option Addr} {c : Nat} (h : Wd w box ws A c wx) (he : wordsN y = ws) : WordsPost w y (.returned (.slice A ws.length c)) wx := by
  subst he; exact h.post
theorem wordsL_snoc : ∀ (ks : List Nd) (y : Nd), wordsL (ks ++ [y]) = wordsL ks ++ wordsN y
  | [], y => by simp [wordsL]
  | k :: r, y => by simp only [List.cons_append, wordsL, wordsL_snoc r y, List.append_assoc]
theorem take_snocN {ks : List Nd} {j : Nat} {y : Nd} (h : ks[j]? = some y) : ks.take (j + 1) = ks.take j ++ [y] := by
  obtain ⟨hj, e⟩ := List.getElem?_eq_some_iff.1 h
  rw [List.take_succ_eq_append_getElem hj, e]
theorem wordsN_count : ∀ (y : Nd), (wordsN y).length ≤ 4 * y.nodes := by
  refine Nd.ind fun k a f no ks ih => ?_
  have hL : ∀ {l : List Nd}, (∀ y ∈ l, (wordsN y).length ≤ 4 * y.nodes) → (wordsL l).length ≤ 4 * nodesL l := by
    intro l
    induction l with
    | nil => intro _; simp [wordsL, nodesL]
    | cons y l ihl =>
      intro hl
      have h1 := hl y (List.mem_cons_self ..)
      have h2 := ihl fun z hz => hl z (List.mem_cons_of_mem _ hz)
      simp only [wordsL, nodesL, List.length_append]; omega
  have := hL ih
  have hh : (headW k f no).length ≤ 1 := by unfold headW; split; · simp
                                            split <;> simp
  simp only [wordsN, Nd.nodes]
  split
  · simp; omega
  · split
    · simp; omega
    · simp; omega
theorem take_words (ks : List Nd) (j : Nat) : (wordsL (ks.take j)).length ≤ 4 * nodesL ks := by
  have h : ∀ (l : List Nd) (j : Nat), (wordsL (l.take j)).length ≤ 4 * nodesL l := by
    intro l
    induction l with
    | nil => intro j; simp [wordsL]
    | cons y l ihl =>
      intro j
      cases j with
      | zero => simp [wordsL]
      | succ j =>
        have := wordsN_count y
        have := ihl j
        simp only [List.take_succ_cons, wordsL, nodesL, List.length_append]; omega
  exact h ks j
theorem nodes_mem : ∀ {ks : List Nd} {y : Nd}, y ∈ ks → y.nodes ≤ nodesL ks
  | [], _, h => by cases h
  | k :: r, y, h => by
    simp only [nodesL]
    rcases List.mem_cons.1 h with rfl | h
    · omega
    · have := nodes_mem h; omega

/- one word behind: of P at wp, the words WS; the word L -/
set_option maxRecDepth 100000 in
set_option maxHeartbeats 6400000 in
theorem words_any : ∀ (y : Nd) (S : Nat → Prop) (x : List Value) (w : World), RNd w S x y → (∀ k, S k → k < w.heap.size) → ckNd y = 0 → y.nodes ≤ 100 →
    Calls Tryz.prog 18 #[.agg x.toArray] w (WordsPost w y) := by
  refine Nd.ind fun k a f no ks ih => ?_
  intro S x w hR hS h0 hnod
  have HI := Lib.hid ih; clear ih
  obtain ⟨A, n, c, rfl, hnc, hc, h1, h2, h3, hK⟩ := hR.open_
  clear hR
  obtain ⟨i0, hi, hz0, hz1, hz2⟩ := info_parts string_info
  have Hi := Lib.hid hi; have Hz0 := Lib.hid hz0; have Hz1 := Lib.hid hz1; have Hz2 := Lib.hid hz2
  clear hi hz0 hz1 hz2
  have HS := Lib.hid hS; clear hS
  have HK := Lib.hid hK; clear hK
  unfold maxLen at hc
  obtain ⟨nm, op, ver, slot, fl, on⟩ := a
  simp only [] at h1 h2
  have hpr := fun wx => print_any ⟨nm.toArray⟩ ⟨fl.toArray⟩ op ver slot on wx (by rw [bsz]; exact h1) (by rw [bsz]; exact h2)
  rw [show atOf ⟨nm.toArray⟩ op ver slot ⟨fl.toArray⟩ on = ⟨nm, op, ver, slot, fl, on⟩ from by simp [atOf]] at hpr
  rw [show printS ⟨nm, op, ver, slot, fl, on⟩ = prAtom ⟨nm, op, ver, slot, fl, on⟩ from rfl] at hpr
  have HP : Hid (wordsN (.mk k ⟨nm, op, ver, slot, fl, on⟩ f no ks) = if k = 1 then [prAtom ⟨nm, op, ver, slot, fl, on⟩] else if k = 2 then [33 :: prAtom ⟨nm, op, ver, slot, fl, on⟩] else headW k f no ++ [40] :: (wordsL ks ++ [[41]])) := Lib.hid rfl
  have hpa : ckAtom ⟨nm, op, ver, slot, fl, on⟩ = 0 → (prAtom ⟨nm, op, ver, slot, fl, on⟩).length ≤ 100 := fun h => by unfold prAtom; rw [if_pos h]; exact textOf_len (atOk h)
  unfold atv at hpr
  have hkid : (k = 1 ∨ k = 2) ∧ ckAtom ⟨nm, op, ver, slot, fl, on⟩ = 0 ∨ (k = 3 ∨ k = 4 ∨ k = 5) ∧ (∀ x ∈ ks, ckNd x = 0) ∧ (k = 5 → f.length ≤ 8) := by
    unfold ckNd at h0
    split at h0
    · cases h0
    split at h0
    · cases h0
    split at h0
    · cases h0
    split at h0
    · cases h0
    split at h0
    · cases h0
    rename_i q1 q2 q3 q4 q5
    by_cases hl : leafK k = true
    · rw [if_pos hl] at h0
      exact .inl ⟨by simpa [leafK] using hl, h0⟩
    · rw [if_neg hl] at h0
      refine .inr ⟨by simp [leafK] at hl; omega, ckKids_zero.1 h0, fun h5 => ?_⟩
      cases e : isName f
      · exact absurd ⟨h5, e⟩ q5
      · exact (isName_len e).2
  generalize prAtom ⟨nm, op, ver, slot, fl, on⟩ = s at hpr HP hpa
  generalize printE ⟨nm, op, ver, slot, fl, on⟩ = z at hpr
  have Hpr := Lib.hid hpr; clear hpr h0
  have Hnod : Hid (4 * nodesL ks ≤ 400) := Lib.hid (by simp only [Nd.nodes] at hnod; omega)
  have Hkn : Hid (∀ x ∈ ks, x.nodes ≤ 100) := Lib.hid (fun x hx => by have := nodes_mem hx; simp only [Nd.nodes] at hnod; omega)
  clear hnod
  unfold ndRow
  have HW := Lib.hid (Whole.new w _ 26 [.int .i64 k, .string ⟨nm.toArray⟩, .int .i64 op, .int .i64 ver, .int .i64 slot, .string ⟨fl.toArray⟩, .bool on, .string ⟨f.toArray⟩, .bool no, .slice A n c] rfl)
  have HB := Lib.hid ((Below.refl _ w).alloc (Nat.le_refl _) (.cells #[.int .i64 k, .string ⟨nm.toArray⟩, .int .i64 op, .int .i64 ver, .int .i64 slot, .string ⟨fl.toArray⟩, .bool on, .string ⟨f.toArray⟩, .bool no, .slice A n c] 26))
  rcases hkid with ⟨hk, ha⟩ | ⟨hk, hks, hf⟩
  · have hsl := hpa ha
    clear ha hpa
    rcases hk with rfl | rfl
    · have HE : Hid (wordsN (.mk 1 ⟨nm, op, ver, slot, fl, on⟩ f no ks) = [s]) := Lib.hid (by rw [HP.out, if_pos rfl])
      go_enter Tryz.func18, Tryz.ntmps18
      go_wp2_with (first | (go_at_call 43; refine (Hpr.out _).mono ?_; rintro e w1 ⟨rfl, hb1⟩; refine Hid.out ?_))
      refine Lib.hid ?_
      have HB1 := Lib.hid (HB.out.trans (hb1.mono HB.out.size))
      have HW1 := Lib.hid (HW.out.below hb1 HW.out.lt); clear hb1
      have g0 := HW1.out.cell 0
      simp only [List.getElem?_cons_zero, List.getElem?_cons_succ] at g0
      go_wp2
      go_ret
      refine ⟨some ⟨w1.heap.size, 0, none⟩, 1, by rw [HE.out]; rfl, ?_, HB1.out.alloc HB1.out.size _⟩
      rw [HE.out]
      exact ⟨rfl, .inr ⟨w1.heap.size, 1, #[.string ⟨s.toArray⟩], rfl, HB1.out.size, heap_alloc_new w1 _, Nat.le_refl _, by unfold maxLen; omega, rfl, rfl⟩⟩
    · have HE : Hid (wordsN (.mk 2 ⟨nm, op, ver, slot, fl, on⟩ f no ks) = [33 :: s]) := Lib.hid (by rw [HP.out, if_neg (by decide), if_pos rfl])
      go_enter Tryz.func18, Tryz.ntmps18
      go_wp2_with (first | (go_at_call 43; refine (Hpr.out _).mono ?_; rintro e w1 ⟨rfl, hb1⟩; refine Hid.out ?_))
      refine Lib.hid ?_
      have HB1 := Lib.hid (HB.out.trans (hb1.mono HB.out.size))
      have HW1 := Lib.hid (HW.out.below hb1 HW.out.lt); clear hb1
      have g0 := HW1.out.cell 0
      simp only [List.getElem?_cons_zero, List.getElem?_cons_succ] at g0
      go_wp2
      go_ret
      refine ⟨some ⟨w1.heap.size, 0, none⟩, 1, by rw [HE.out]; rfl, ?_, HB1.out.alloc HB1.out.size _⟩
      rw [HE.out]
      refine ⟨rfl, .inr ⟨w1.heap.size, 1, _, rfl, HB1.out.size, heap_alloc_new w1 _, Nat.le_refl _, by unfold maxLen; omega, rfl, ?_⟩⟩
      have := bapp [33] s
      simp only [strs, List.map_cons, List.map_nil, List.take_succ_cons, List.take_zero]
      rw [show (⟨#[33]⟩ : ByteArray) = ⟨[33].toArray⟩ from rfl, this]; rfl
  · have HE : Hid (wordsN (.mk k ⟨nm, op, ver, slot, fl, on⟩ f no ks) = headW k f no ++ [40] :: (wordsL ks ++ [[41]])) := Lib.hid (by rw [HP.out, if_neg (by omega), if_neg (by omega)])
    have e1 : (k == 1) = false := by simp; omega
    have e2 : (k == 2) = false := by simp; omega
    have Hks := Lib.hid hks
    clear hpa hks HP
    go_enter Tryz.func18, Tryz.ntmps18
    go_wp2_with (first | (go_at_call 43; refine (Hpr.out _).mono ?_; rintro e w1 ⟨rfl, hb1⟩; refine Hid.out ?_))
    refine Lib.hid ?_
    have W1 : Hid (Wd w [.int .i64 k, .string ⟨nm.toArray⟩, .int .i64 op, .int .i64 ver, .int .i64 slot, .string ⟨fl.toArray⟩, .bool on, .string ⟨f.toArray⟩, .bool no, .slice A n c] [] none 0 w1) := Lib.hid ⟨World.ownsRow_nil _ _ _ _, HW.out.below hb1 HW.out.lt, HB.out.trans (hb1.mono HB.out.size)⟩
    clear hb1 HB HW Hpr
    have g0 := W1.out.box.cell 0; have g1 := W1.out.box.cell 1; have g2 := W1.out.box.cell 2; have g3 := W1.out.box.cell 3; have g4 := W1.out.box.cell 4
    have g5 := W1.out.box.cell 5; have g6 := W1.out.box.cell 6; have g7 := W1.out.box.cell 7; have g8 := W1.out.box.cell 8; have g9 := W1.out.box.cell 9
    simp only [List.getElem?_cons_zero, List.getElem?_cons_succ] at g0 g1 g2 g3 g4 g5 g6 g7 g8 g9
    go_upto_block 0 with fail
    go_cut [5] (fun v wx => ∃ A5 c5, v = .slice A5 (headW k f no).length c5 ∧ Wd w [.int .i64 k, .string ⟨nm.toArray⟩, .int .i64 op, .int .i64 ver, .int .i64 slot, .string ⟨fl.toArray⟩, .bool on, .string ⟨f.toArray⟩, .bool no, .slice A n c] (headW k f no) A5 c5 wx)
    case first =>
      rcases hk with rfl | rfl | rfl
      · go_wp2_with fail
        go_meet
        case rel => exact ⟨none, 0, rfl, W1.out⟩
      ·
        go_wp2_with (at_builtin; refine wpList_append_own _ rfl _ _ 35 rfl (w.heap.size + 1) 9 i0 (.string ⟨#[]⟩) 1 16 Tryz.underlying35 Hi.out Hz0.out Hz1.out Hz2.out rfl (by decide) _ _ _ rfl (W1.out.own.alloc _) ⟨w1.heap.size, 0, none⟩ 1 1 [.string _] rfl rfl (cell_one_new _ _ _) (by simp [Value.oneCell']) (by unfold maxLen; first | omega | (simp; done) | (simp; omega)) (by first | omega | (simp; done) | (simp; omega)) (by have := W1.out.box.lt; first | omega | (simp; omega)) ?_)
        intro v' wn hown hg _
        (try simp only [List.nil_append, List.length_nil, Nat.zero_add] at hown)
        obtain ⟨A', c', rfl, P'⟩ := (W1.out.alloc _).more (ws' := [[124,124]]) rfl (by first | rfl | (rfl)) hown hg
        clear hown hg
        have W2 := Lib.hid P'; clear P'
        go_wp2_with fail
        go_meet
        case rel => exact ⟨_, _, rfl, W2.out⟩
      · have hfl := hf rfl
        cases no
        ·
          go_wp2_with (at_builtin; refine wpList_append_own _ rfl _ _ 35 rfl (w.heap.size + 1) 9 i0 (.string ⟨#[]⟩) 1 16 Tryz.underlying35 Hi.out Hz0.out Hz1.out Hz2.out rfl (by decide) _ _ _ rfl (W1.out.own.alloc _) ⟨w1.heap.size, 0, none⟩ 1 1 [.string _] rfl rfl (cell_one_new _ _ _) (by simp [Value.oneCell']) (by unfold maxLen; first | omega | (simp; done) | (simp; omega)) (by first | omega | (simp; done) | (simp; omega)) (by have := W1.out.box.lt; first | omega | (simp; omega)) ?_)
          intro v' wn hown hg _
          (try simp only [List.nil_append, List.length_nil, Nat.zero_add] at hown)
          obtain ⟨A', c', rfl, P'⟩ := (W1.out.alloc _).more (ws' := [(f ++ [63])]) rfl (by first | rfl | (simp [strs, bflag0])) hown hg
          clear hown hg
          have W2 := Lib.hid P'; clear P'
          go_wp2_with fail
          go_meet
          case rel => exact ⟨_, _, rfl, W2.out⟩
        ·
          go_wp2_with (at_builtin; refine wpList_append_own _ rfl _ _ 35 rfl (w.heap.size + 1) 9 i0 (.string ⟨#[]⟩) 1 16 Tryz.underlying35 Hi.out Hz0.out Hz1.out Hz2.out rfl (by decide) _ _ _ rfl (W1.out.own.alloc _) ⟨w1.heap.size, 0, none⟩ 1 1 [.string _] rfl rfl (cell_one_new _ _ _) (by simp [Value.oneCell']) (by unfold maxLen; first | omega | (simp; done) | (simp; omega)) (by first | omega | (simp; done) | (simp; omega)) (by have := W1.out.box.lt; first | omega | (simp; omega)) ?_)
          intro v' wn hown hg _
          (try simp only [List.nil_append, List.length_nil, Nat.zero_add] at hown)
          obtain ⟨A', c', rfl, P'⟩ := (W1.out.alloc _).more (ws' := [(33 :: f ++ [63])]) rfl (by first | rfl | (simp [strs, bflag1])) hown hg
          clear hown hg
          have W2 := Lib.hid P'; clear P'
          go_wp2_with fail
          go_meet
          case rel => exact ⟨_, _, rfl, W2.out⟩
    case rest =>
      obtain ⟨A5, c5, rfl, hW⟩ := hcut
      have W2 := Lib.hid hW; clear hW W1
      clear g0 g1 g2 g3 g4 g5 g6 g7 g8 g9
      have hh : (headW k f no).length ≤ 1 := by unfold headW; split; · simp
                                                split <;> simp
      generalize headW k f no = hd at hh HE W2
      go_wp2_with (at_builtin; refine wpList_append_own _ rfl _ _ 35 rfl (w.heap.size + 1) 9 i0 (.string ⟨#[]⟩) 1 16 Tryz.underlying35 Hi.out Hz0.out Hz1.out Hz2.out rfl (by decide) _ _ _ rfl (W2.out.own.alloc _) ⟨wc.heap.size, 0, none⟩ 1 1 [.string _] rfl rfl (cell_one_new _ _ _) (by simp [Value.oneCell']) (by unfold maxLen; first | omega | (simp; done) | (simp; omega)) (by first | omega | (simp; done) | (simp; omega)) (by have := W2.out.box.lt; first | omega | (simp; omega)) ?_)
      intro v' wn hown hg _
      (try simp only [List.nil_append, List.length_nil, Nat.zero_add] at hown)
      obtain ⟨A', c', rfl, P'⟩ := (W2.out.alloc _).more (ws' := [[40]]) rfl (by first | rfl | (rfl)) hown hg
      clear hown hg
      have W3 := Lib.hid P'; clear P'
      clear W2
      have g0 := W3.out.box.cell 0; have g1 := W3.out.box.cell 1; have g2 := W3.out.box.cell 2; have g3 := W3.out.box.cell 3; have g4 := W3.out.box.cell 4
      have g5 := W3.out.box.cell 5; have g6 := W3.out.box.cell 6; have g7 := W3.out.box.cell 7; have g8 := W3.out.box.cell 8; have g9 := W3.out.box.cell 9
      simp only [List.getElem?_cons_zero, List.getElem?_cons_succ] at g0 g1 g2 g3 g4 g5 g6 g7 g8 g9
      go_wp2_with fail
      go_loopg [5, 49] n (fun g v iv wr => ∃ (j : Nat) (A7 : Option Addr) (c7 : Nat), Hid (j + g = n) ∧ iv = .int .i64 j ∧ v = .slice A7 (hd ++ [40] :: wordsL (ks.take j)).length c7 ∧ Hid (Wd w [.int .i64 k, .string ⟨nm.toArray⟩, .int .i64 op, .int .i64 ver, .int .i64 slot, .string ⟨fl.toArray⟩, .bool on, .string ⟨f.toArray⟩, .bool no, .slice A n c] (hd ++ [40] :: wordsL (ks.take j)) A7 c7 wr))
      case atStart => exact ⟨0, A', c', Lib.hid (Nat.zero_add _), rfl, by simp [wordsL], Lib.hid (by simpa [wordsL] using W3.out)⟩
      case round =>
        clear g0 g1 g2 g3 g4 g5 g6 g7 g8 g9
        clear W3
        obtain ⟨j, A7, c7, Hj, rfl, rfl, W4⟩ := hrel
        have htk := take_words ks j
        have hnod := Hnod.out
        have hlen : (hd ++ [40] :: wordsL (ks.take j)).length ≤ 402 := by simp; omega
        obtain ⟨ws, hws⟩ : ∃ ws, hd ++ [40] :: wordsL (ks.take j) = ws := ⟨_, rfl⟩
        rw [hws] at hlen W4
        rw [hws]
        have Hws := Lib.hid hws; clear hws
        by_cases hj : j < n
        · obtain ⟨b, o, x, y, rfl, hb, hy, hxy, hcell⟩ := (HK.out.under W4.out.bel HS.out).at_ hj
          have Hdr := Lib.hid (take_snocN hy)
          have hmem := List.mem_of_getElem? hy
          have h0 := Hks.out y hmem
          have hyn := Hkn.out y hmem
          have hyc : (wordsN y).length ≤ 400 := by have := wordsN_count y; omega
          have hcall := fun wx => HI.out y hmem S x wx
          obtain ⟨yk, ya, yf, yn, yks⟩ := y
          obtain ⟨A', n', c', rfl, -⟩ := hxy.open_
          have k0 := hcell 0 (by omega); have k1 := hcell 1 (by omega); have k2 := hcell 2 (by omega); have k3 := hcell 3 (by omega); have k4 := hcell 4 (by omega)
          have k5 := hcell 5 (by omega); have k6 := hcell 6 (by omega); have k7 := hcell 7 (by omega); have k8 := hcell 8 (by omega); have k9 := hcell 9 (by omega)
          clear hcell
          have hbl : Below wr.heap.size wr (wr.alloc (.cells (ndRow yk ya yf yn A' n' c').toArray 26)) := (Below.refl _ wr).alloc (Nat.le_refl _) _
          have hcall2 := hcall (wr.alloc (.cells (ndRow yk ya yf yn A' n' c').toArray 26)) (hxy.under hbl fun q hq => Nat.lt_of_lt_of_le (HS.out q hq) W4.out.bel.size) (fun q hq => Nat.lt_of_lt_of_le (HS.out q hq) (Nat.le_trans W4.out.bel.size hbl.size)) h0 hyn
          have W5 := Lib.hid (W4.out.alloc (.cells (ndRow yk ya yf yn A' n' c').toArray 26))
          clear hbl hcall hxy h0 hyn hy
          unfold ndRow at k0 k1 k2 k3 k4 k5 k6 k7 k8 k9 hcall2 W5
          simp only [List.getElem?_cons_zero, List.getElem?_cons_succ, Nat.add_zero] at k0 k1 k2 k3 k4 k5 k6 k7 k8 k9
          have Hcall := Lib.hid hcall2; clear hcall2
          generalize hq : wordsN (.mk yk ya yf yn yks) = q at hyc
          have HQ := Lib.hid hq; clear hq
          go_wp2_with fail
          refine Hcall.out.mono ?_
          rintro e w6 ⟨A6, c6, rfl, hown6, hb6⟩
          rw [HQ.out] at hown6 ⊢
          have W6 := Lib.hid (W5.out.below hb6)
          have Hrow6 := Lib.hid (own_row hown6)
          have hsz : w.heap.size + 1 ≤ w6.heap.size := W6.out.box.lt
          clear W5 hown6 hb6 Hcall k0 k1 k2 k3 k4 k5 k6 k7 k8 k9
          go_wp2_with (at_builtin; refine wpList_append_row rfl _ _ 35 rfl (w.heap.size + 1) 9 i0 (.string ⟨#[]⟩) 16 Tryz.underlying35 Hi.out Hz0.out Hz1.out Hz2.out rfl _ _ _ rfl W6.out.own A6 q.length c6 (strs q) rfl _ Hrow6.out (strs_one _) (by unfold maxLen; omega) (by omega) hsz ?_)
          intro A8 c8 w8 hn8 hc8 hown8 hg8
          obtain ⟨A9, c9, he9, P9⟩ := W6.out.more (ws' := q) rfl rfl hown8 hg8
          injection he9 with he1 _ he2
          subst he1 he2
          have W9 := Lib.hid P9
          clear P9 hn8 hc8 hown8 hg8 W6
          go_wp2_with fail
          go_roundg (gk - 1)
          case measure => have := Hj.out; omega
          case rel =>
            have hws : hd ++ [40] :: wordsL (ks.take (j + 1)) = ws ++ q := by
              rw [← Hws.out, Hdr.out, wordsL_snoc, HQ.out]; simp
            refine ⟨j + 1, A8, c8, Lib.hid (by have := Hj.out; omega), by go_num, ?_, Lib.hid ?_⟩
            · rw [hws, List.length_append]
            · rw [hws]; exact W9.out
        · obtain rfl : j = n := by have := Hj.out; omega
          have hE2 : wordsN (.mk k ⟨nm, op, ver, slot, fl, on⟩ f no ks) = ws ++ [[41]] := by
            rw [← Hws.out, HE.out, List.take_of_length_le (by have := HK.out.len; omega)]; simp
          have HE2 := Lib.hid hE2; clear hE2
          go_wp2_with (at_builtin; refine wpList_append_own _ rfl _ _ 35 rfl (w.heap.size + 1) 9 i0 (.string ⟨#[]⟩) 1 16 Tryz.underlying35 Hi.out Hz0.out Hz1.out Hz2.out rfl (by decide) _ _ _ rfl (W4.out.own.alloc _) ⟨wr.heap.size, 0, none⟩ 1 1 [.string _] rfl rfl (cell_one_new _ _ _) (by simp [Value.oneCell']) (by unfold maxLen; first | omega | (simp; done) | (simp; omega)) (by first | omega | (simp; done) | (simp; omega)) (by have := W4.out.box.lt; first | omega | (simp; omega)) ?_)
          intro v' wn hown hg _
          (try simp only [List.nil_append, List.length_nil, Nat.zero_add] at hown)
          obtain ⟨A', c', rfl, P'⟩ := (W4.out.alloc _).more (ws' := [[41]]) rfl (by first | rfl | (rfl)) hown hg
          clear hown hg
          have W10 := Lib.hid P'; clear P'
          go_wp2_with fail
          go_ret
          have hp := W10.out.post' HE2.out
          simpa using hp
end Go.Proofs.YtnkmonmkhmcgaaaGreatDoor
