/- Parts of the proof: walks and plain laws, side by side. -/
import Derived.Test.YtnkmonmkhmcgaaaGreatDoorM1
import Derived.Lib.Split
import Derived.Lib.Join
import Derived.Lib.IndexBytes
import Derived.Test.YtnkmonmkhmcgaaaGreatDoorProg
import Derived.Deep.LoopGhost
import Derived.IntWalk
import Derived.Outline
import Derived.Lib.ConvBytes
import Derived.Lib.AtoiErrMem
import Derived.Lib.Strings
set_option linter.unusedVariables false
set_option linter.unusedSimpArgs false
set_option linter.unusedSectionVars false
namespace Qm
open Go

/-! Needs: what is printed is read, and what is read is printed as it was. -/

/-! ### joining and splitting -/
theorem splitGo_none {c : UInt8} : ∀ {l acc : W}, (∀ x ∈ l, x ≠ c) → splitGo c acc l = [acc ++ l]
  | [], acc, _ => by simp [splitGo]
  | x :: r, acc, h => by
    rw [splitGo, if_neg (h x (List.mem_cons_self ..)), splitGo_none fun y hy => h y (List.mem_cons_of_mem _ hy)]
    simp
theorem splitGo_some {c : UInt8} {r : W} : ∀ {l acc : W}, (∀ x ∈ l, x ≠ c) → splitGo c acc (l ++ c :: r) = (acc ++ l) :: splitGo c [] r
  | [], acc, _ => by simp [splitGo]
  | x :: l, acc, h => by
    rw [List.cons_append, splitGo, if_neg (h x (List.mem_cons_self ..)), splitGo_some fun y hy => h y (List.mem_cons_of_mem _ hy)]
    simp
theorem split_join {c : UInt8} : ∀ {ws : List W}, ws ≠ [] → (∀ w ∈ ws, ∀ x ∈ w, x ≠ c) → splitB c (joinB c ws) = ws
  | [], h, _ => absurd rfl h
  | [w], _, h => by
    show splitGo c [] w = [w]
    rw [splitGo_none (h w (List.mem_cons_self ..))]; rfl
  | w :: v :: r, _, h => by
    have ih := split_join (c := c) (ws := v :: r) (by simp) fun y hy => h y (List.mem_cons_of_mem _ hy)
    show splitGo c [] (w ++ c :: joinB c (v :: r)) = _
    rw [splitGo_some (h w (List.mem_cons_self ..))]
    unfold splitB at ih
    rw [ih]; rfl
theorem join_cons {c : UInt8} {w : W} {ws : List W} (h : ws ≠ []) : joinB c (w :: ws) = w ++ c :: joinB c ws := by
  cases ws with
  | nil => exact absurd rfl h
  | cons v r => rfl
theorem splitGo_ne {c : UInt8} : ∀ {l acc : W}, splitGo c acc l ≠ []
  | [], acc => by simp [splitGo]
  | x :: r, acc => by
    rw [splitGo]; split
    · simp
    · exact splitGo_ne
theorem join_split {c : UInt8} : ∀ (l acc : W), joinB c (splitGo c acc l) = acc ++ l
  | [], acc => by simp [splitGo, joinB]
  | x :: r, acc => by
    rw [splitGo]
    by_cases h : x = c
    · rw [if_pos h, join_cons splitGo_ne, join_split r []]; simp [h]
    · rw [if_neg h, join_split r (acc ++ [x])]; simp
theorem split_words {c : UInt8} : ∀ {l acc : W}, (∀ x ∈ acc, x ≠ c) → ∀ w ∈ splitGo c acc l, ∀ x ∈ w, x ≠ c
  | [], acc, h, w, hw => by simp [splitGo] at hw; subst hw; exact h
  | x :: r, acc, h, w, hw => by
    rw [splitGo] at hw
    by_cases hx : x = c
    · rw [if_pos hx] at hw
      rcases List.mem_cons.1 hw with rfl | hw
      · exact h
      · exact split_words (acc := []) (by simp) w hw
    · rw [if_neg hx] at hw
      refine split_words (acc := acc ++ [x]) ?_ w hw
      intro y hy
      rcases List.mem_append.1 hy with hy | hy
      · exact h y hy
      · simp at hy; subst hy; exact hx

/-! ### what stands in an atom's text -/
def plainB (c : UInt8) : Bool := c != 32 && c != 33 && c != 40 && c != 41 && c != 63 && c != 124 && c != 10 && c != 44
theorem low_plain {c : UInt8} (h : lowB c = true ∨ digB c = true) : plainB c = true := by
  have h' : (97 ≤ c.toNat ∧ c.toNat ≤ 122) ∨ (48 ≤ c.toNat ∧ c.toNat ≤ 57) := by simpa [lowB, digB] using h
  have k : ∀ d : UInt8, d.toNat < 48 ∨ (57 < d.toNat ∧ d.toNat < 97) ∨ 122 < d.toNat → (c != d) = true := by
    intro d hd
    rw [bne_iff_ne]
    rintro rfl
    omega
  unfold plainB
  rw [k 32 (by decide), k 33 (by decide), k 40 (by decide), k 41 (by decide), k 63 (by decide), k 124 (by decide), k 10 (by decide), k 44 (by decide)]; rfl
theorem name_plain {l : W} (h : isName l = true) : ∀ c ∈ l, plainB c = true := fun c hc => low_plain (isName_mem h c hc)
theorem text_plain {a : At} (h : ckAtom a = 0) : ∀ c ∈ textOf a, plainB c = true := by
  have hk := atOk h
  intro c hc
  unfold textOf at hc
  rcases List.mem_append.1 hc with hc | hc
  · rcases List.mem_append.1 hc with hc | hc
    · rcases List.mem_append.1 hc with hc | hc
      · exact name_plain hk.nm c hc
      · split at hc
        · rename_i h0
          rcases List.mem_append.1 hc with hc | hc
          · have : c = 61 ∨ c = 62 ∨ c = 60 := by
              unfold opText at hc
              split at hc
              · simp at hc; exact .inl hc
              · split at hc
                · simp at hc; rcases hc with hc | hc
                  · exact .inr (.inl hc)
                  · exact .inl hc
                · split at hc
                  · simp at hc; exact .inr (.inr hc)
                  · cases hc
            rcases this with rfl | rfl | rfl <;> decide
          · exact low_plain (.inr (itoa_mem (by have := hk.some h0; omega) c hc))
        · cases hc
    · split at hc
      · rcases List.mem_cons.1 hc with rfl | hc
        · decide
        · exact low_plain (.inr (itoa_mem (by omega) c hc))
      · cases hc
  · split at hc
    · rename_i h0
      rcases List.mem_cons.1 hc with rfl | hc
      · split <;> decide
      · exact name_plain (hk.fl h0) c hc
    · cases hc
theorem text_ne {a : At} (h : ckAtom a = 0) : ∃ c r, textOf a = c :: r ∧ plainB c = true := by
  have hl := (isName_len (atOk h).nm).1
  have hp := text_plain h
  have : textOf a ≠ [] := by
    intro e
    unfold textOf at e
    simp only [List.append_assoc, List.append_eq_nil_iff] at e
    rw [e.1] at hl; simp at hl
  cases e : textOf a with
  | nil => exact absurd e this
  | cons c r => rw [e] at hp; exact ⟨c, r, rfl, hp c (List.mem_cons_self ..)⟩
theorem plain_ne {c d : UInt8} (h : plainB c = true) (hd : plainB d = false) : c ≠ d := by
  rintro rfl; rw [h] at hd; cases hd

/-! ### what is printed is read -/
theorem last_of {l : W} {c : UInt8} (h : l.getLast? = some c) : c ∈ l := List.mem_of_getLast? h
theorem readN_leaf {d : Nat} {a : At} {rest : List W} (h : ckAtom a = 0) : readN (d + 1) (textOf a :: rest) = some (.mk 1 a [] false [], rest) := by
  obtain ⟨c, r, e, hc⟩ := text_ne h
  have hp := text_plain h
  have h1 : textOf a ≠ [40] := by intro e'; exact plain_ne (hp 40 (by rw [e']; simp)) rfl rfl
  have h2 : textOf a ≠ [124, 124] := by intro e'; exact plain_ne (hp 124 (by rw [e']; simp)) rfl rfl
  have h3 : (textOf a).getLast? ≠ some 63 := fun e' => plain_ne (hp 63 (last_of e')) rfl rfl
  have h4 : cutBang (textOf a) = (textOf a, false) := by rw [e, cutBang, if_neg (plain_ne hc rfl)]
  rw [readN_cons, readS, if_neg h1, if_neg h2, if_neg h3, h4]
  simp [leafB, parse_text h]
theorem readN_block {d : Nat} {a : At} {rest : List W} (h : ckAtom a = 0) : readN (d + 1) ((33 :: textOf a) :: rest) = some (.mk 2 a [] false [], rest) := by
  obtain ⟨c, r, e, hc⟩ := text_ne h
  have hp := text_plain h
  have h3 : (33 :: textOf a).getLast? ≠ some 63 := by
    rw [e]
    intro e'
    rw [List.getLast?_cons_cons, ← e] at e'
    exact plain_ne (hp 63 (last_of e')) rfl rfl
  have h4 : cutBang (33 :: textOf a) = (textOf a, true) := by rw [cutBang, if_pos rfl]
  rw [readN_cons, readS, if_neg (by simp), if_neg (by simp), if_neg h3, h4]
  simp [leafB, parse_text h]

theorem words_ne : ∀ (n : Nd), wordsN n ≠ []
  | .mk k a f no ks => by
    unfold wordsN
    split
    · simp
    · split <;> simp
/-- A right need's first word is none that shuts. -/
theorem words_head {n : Nd} (h : ckNd n = 0) : ∃ w r, wordsN n = w :: r ∧ w ≠ [41] := by
  obtain ⟨k, a, f, no, ks⟩ := n
  unfold ckNd at h
  unfold wordsN
  split at h
  · cases h
  split at h
  · cases h
  split at h
  · cases h
  split at h
  · cases h
  split at h
  · cases h
  rename_i h1 h2 h3 h4 h5
  by_cases k1 : k = 1
  · rw [if_pos k1]
    rw [if_pos (by simp [leafK, k1])] at h
    refine ⟨_, _, rfl, ?_⟩
    unfold prAtom; rw [if_pos h]
    intro e'; exact plain_ne (text_plain h 41 (by rw [e']; simp)) rfl rfl
  · rw [if_neg k1]
    by_cases k2 : k = 2
    · rw [if_pos k2]; exact ⟨_, _, rfl, by simp⟩
    · rw [if_neg k2]
      unfold headW
      by_cases k4 : k = 4
      · rw [if_pos k4]; exact ⟨_, _, rfl, by simp⟩
      · rw [if_neg k4]
        by_cases k5 : k = 5
        · rw [if_pos k5]; refine ⟨_, _, rfl, ?_⟩
          intro e'
          have := congrArg List.getLast? e'
          simp at this
        · rw [if_neg k5]; exact ⟨_, _, rfl, by simp⟩

theorem readKids_words {rd : List W → Option (Nd × List W)} : ∀ {ks : List Nd} {f : Nat} {rest : List W}, (∀ x ∈ ks, ckNd x = 0 ∧ ∀ r, rd (wordsN x ++ r) = some (x, r)) →
    (wordsL ks ++ [41] :: rest).length < f → readKids rd f (wordsL ks ++ [41] :: rest) = some (ks, [41] :: rest)
  | [], f + 1, rest, _, _ => by simp [readKids, wordsL]
  | [], 0, rest, _, h => by simp at h
  | k :: r, 0, rest, _, h => by simp at h
  | k :: r, f + 1, rest, h, hf => by
    obtain ⟨hk, hr⟩ := h k (List.mem_cons_self ..)
    obtain ⟨w, r', e, hw⟩ := words_head hk
    have hlen : (wordsN k).length = r'.length + 1 := by rw [e]; rfl
    have hrk := hr (wordsL r ++ [41] :: rest)
    rw [e] at hrk
    simp only [List.cons_append] at hrk
    simp only [wordsL, readKids, e, List.cons_append, List.append_assoc]
    rw [if_neg hw, hrk]
    simp only []
    rw [readKids_words (fun x hx => h x (List.mem_cons_of_mem _ hx)) (by simp [wordsL, hlen] at hf ⊢; omega)]

theorem kids_deep : ∀ {ks : List Nd} {x : Nd}, x ∈ ks → x.deep ≤ deepL ks
  | [], _, h => by cases h
  | k :: r, x, h => by
    simp only [deepL]
    rcases List.mem_cons.1 h with rfl | h
    · exact Nat.le_max_left ..
    · exact Nat.le_trans (kids_deep h) (Nat.le_max_right ..)

theorem readN_words : ∀ (n : Nd) (d : Nat), ckNd n = 0 → n.deep ≤ d → ∀ rest, readN d (wordsN n ++ rest) = some (n, rest) := by
  refine Nd.ind fun k a f no ks ih => ?_
  intro d h hd rest
  obtain ⟨d, rfl⟩ : ∃ e, d = e + 1 := ⟨d - 1, by simp only [Nd.deep] at hd; omega⟩
  simp only [Nd.deep] at hd
  unfold ckNd at h
  split at h
  · cases h
  split at h
  · cases h
  split at h
  · cases h
  split at h
  · cases h
  split at h
  · cases h
  rename_i h1 h2 h3 h4 h5
  by_cases hl : leafK k = true
  · rw [if_pos hl] at h
    have hks : ks = [] := by
      cases ks with
      | nil => rfl
      | cons x r => exact absurd ⟨hl, by simp⟩ h2
    have hk : k = 1 ∨ k = 2 := by simpa [leafK] using hl
    have hf : f = [] ∧ no = false := by
      have : ¬ (f ≠ [] ∨ no = true) := fun e => h4 ⟨by omega, e⟩
      simp at this; exact this
    obtain ⟨rfl, rfl⟩ := hf
    subst hks
    unfold wordsN
    rcases hk with rfl | rfl
    · simp only [if_true, List.cons_append, List.nil_append, prAtom, if_pos h]
      exact readN_leaf h
    · simp only [show ((2 : Int) = 1) = False by simp, if_false, if_true, List.cons_append, List.nil_append, prAtom, if_pos h]
      exact readN_block h
  · have hl' : leafK k = false := by simpa using hl
    rw [if_neg hl] at h
    have ha : a = At.zero := by
      apply Classical.byContradiction
      intro e; exact h3 ⟨hl', e⟩
    subst ha
    have hk : k = 3 ∨ k = 4 ∨ k = 5 := by simp [leafK] at hl'; omega
    have hkid : ∀ x ∈ ks, ckNd x = 0 ∧ ∀ r, readN d (wordsN x ++ r) = some (x, r) := fun x hx =>
      ⟨ckKids_zero.1 h x hx, fun r => ih x hx d (ckKids_zero.1 h x hx) (by have := kids_deep hx; omega) r⟩
    have hbody : readBody (readN d) k f no (wordsL ks ++ [41] :: rest) = some (.mk k At.zero f no ks, rest) := by
      unfold readBody
      rw [readKids_words hkid (by omega)]
      simp [closeB]
    unfold wordsN
    rw [if_neg (by omega), if_neg (by omega)]
    rcases hk with rfl | rfl | rfl
    · have hf : f = [] ∧ no = false := by
        have : ¬ (f ≠ [] ∨ no = true) := fun e => h4 ⟨by omega, e⟩
        simp at this; exact this
      obtain ⟨rfl, rfl⟩ := hf
      simp only [headW, show ((3 : Int) = 4) = False by simp, show ((3 : Int) = 5) = False by simp, if_false, List.nil_append, List.cons_append, List.append_assoc]
      rw [readN_cons, readS, if_pos rfl]
      exact hbody
    · have hf : f = [] ∧ no = false := by
        have : ¬ (f ≠ [] ∨ no = true) := fun e => h4 ⟨by omega, e⟩
        simp at this; exact this
      obtain ⟨rfl, rfl⟩ := hf
      simp only [headW, if_true, List.nil_append, List.cons_append, List.append_assoc]
      rw [readN_cons, readS, if_neg (by simp), if_pos rfl]
      simp only [openB, if_true]
      exact hbody
    · have hn : isName f = true := by
        cases e : isName f
        · exact absurd ⟨rfl, e⟩ h5
        · rfl
      have hp := name_plain hn
      have hcut : cutBang ((if no then [33] else []) ++ f) = (f, no) := by
        cases no
        · cases f with
          | nil => rfl
          | cons c r => simp only [Bool.false_eq_true, if_false, List.nil_append, cutBang, if_neg (plain_ne (hp c (List.mem_cons_self ..)) (d := 33) rfl)]
        · simp [cutBang]
      have hs : (if no then [33] else []) ++ (f ++ [63]) = ((if no then [33] else []) ++ f) ++ [(63 : UInt8)] := by simp
      simp only [headW, show ((5 : Int) = 4) = False by simp, if_false, if_true, List.nil_append, List.cons_append, List.append_assoc]
      have g1 : (if no then [33] else []) ++ (f ++ [63]) ≠ [(40 : UInt8)] := by
        intro e'
        have := congrArg List.getLast? e'
        simp at this
      have g2 : (if no then [33] else []) ++ (f ++ [63]) ≠ [(124 : UInt8), 124] := by
        intro e'
        have := congrArg List.getLast? e'
        simp at this
      rw [readN_cons, readS, if_neg g1, if_neg g2, hs]
      simp only [List.getLast?_concat, if_true, List.dropLast_concat, hcut, hn, openB]
      exact hbody

/-! ### and back -/
theorem leaf_of_parse {t : W} {x : At} (h : (parseAt t).2 = 0) (hx : (parseAt t).1 = x) : ckAtom x = 0 ∧ textOf x = t := parse_back (by rw [← hx, ← h])
theorem cut_bang {s t : W} {b : Bool} (h : cutBang s = (t, b)) : s = if b then 33 :: t else t := by
  cases s with
  | nil => simp [cutBang] at h; obtain ⟨rfl, rfl⟩ := h; rfl
  | cons c r =>
    by_cases hc : c = 33
    · rw [cutBang, if_pos hc, Prod.mk.injEq] at h
      obtain ⟨rfl, rfl⟩ := h; simp [hc]
    · rw [cutBang, if_neg hc, Prod.mk.injEq] at h
      obtain ⟨rfl, rfl⟩ := h; simp

theorem of_readKids {rd : List W → Option (Nd × List W)} {d : Nat} (hrd : ∀ ws n r, rd ws = some (n, r) → ws = wordsN n ++ r ∧ ckNd n = 0 ∧ n.deep ≤ d) :
    ∀ {f : Nat} {ws : List W} {ks : List Nd} {r : List W}, readKids rd f ws = some (ks, r) → ws = wordsL ks ++ r ∧ ckKids ks = 0 ∧ deepL ks ≤ d
  | 0, _, _, _, h => by simp [readKids] at h
  | f + 1, [], ks, r, h => by
    simp only [readKids, Option.some.injEq, Prod.mk.injEq] at h
    obtain ⟨rfl, rfl⟩ := h
    simp [wordsL, ckKids, deepL]
  | f + 1, w :: ws, ks, r, h => by
    unfold readKids at h
    simp only [] at h
    split at h
    · simp only [Option.some.injEq, Prod.mk.injEq] at h
      obtain ⟨rfl, rfl⟩ := h
      simp [wordsL, ckKids, deepL]
    · split at h
      · cases h
      · rename_i k ws' hk
        split at h
        · cases h
        · rename_i ks' ws'' hks
          simp only [Option.some.injEq, Prod.mk.injEq] at h
          obtain ⟨rfl, rfl⟩ := h
          obtain ⟨e1, c1, d1⟩ := hrd _ _ _ hk
          obtain ⟨e2, c2, d2⟩ := of_readKids hrd hks
          refine ⟨?_, ?_, ?_⟩
          · rw [e1, e2]; simp [wordsL]
          · simp only [ckKids]; rw [if_pos c1]; exact c2
          · simp only [deepL]; exact Nat.max_le.2 ⟨d1, d2⟩

theorem of_readBody {rd : List W → Option (Nd × List W)} {d : Nat} (hrd : ∀ ws n r, rd ws = some (n, r) → ws = wordsN n ++ r ∧ ckNd n = 0 ∧ n.deep ≤ d) {k : Int} {fl : W} {no : Bool} {ws : List W} {n : Nd} {r : List W}
    (h : readBody rd k fl no ws = some (n, r)) : ∃ ks, n = .mk k At.zero fl no ks ∧ ws = wordsL ks ++ [41] :: r ∧ ckKids ks = 0 ∧ deepL ks ≤ d := by
  unfold readBody at h
  cases hk : readKids rd (ws.length + 1) ws with
  | none => rw [hk] at h; cases h
  | some q =>
    obtain ⟨ks, ws'⟩ := q
    rw [hk] at h
    obtain ⟨e1, c1, d1⟩ := of_readKids hrd hk
    unfold closeB at h
    cases ws' with
    | nil => cases h
    | cons w ws'' =>
      simp only [] at h
      split at h
      · rename_i hw
        simp only [Option.some.injEq, Prod.mk.injEq] at h
        obtain ⟨rfl, rfl⟩ := h
        subst hw
        exact ⟨ks, rfl, e1, c1, d1⟩
      · cases h
theorem of_openB {rd : List W → Option (Nd × List W)} {d : Nat} (hrd : ∀ ws n r, rd ws = some (n, r) → ws = wordsN n ++ r ∧ ckNd n = 0 ∧ n.deep ≤ d) {k : Int} {fl : W} {no : Bool} {ws : List W} {n : Nd} {r : List W}
    (h : openB rd k fl no ws = some (n, r)) : ∃ ks, n = .mk k At.zero fl no ks ∧ ws = [40] :: (wordsL ks ++ [41] :: r) ∧ ckKids ks = 0 ∧ deepL ks ≤ d := by
  cases ws with
  | nil => cases h
  | cons w ws' =>
    have h' : (if w = [40] then readBody rd k fl no ws' else none) = some (n, r) := h
    by_cases hw : w = [40]
    · rw [if_pos hw] at h'
      obtain ⟨ks, e0, e1, e2⟩ := of_readBody hrd h'
      exact ⟨ks, e0, by rw [hw, e1], e2⟩
    · rw [if_neg hw] at h'; cases h'

theorem of_readN : ∀ (d : Nat) (ws : List W) (n : Nd) (r : List W), readN d ws = some (n, r) → ws = wordsN n ++ r ∧ ckNd n = 0 ∧ n.deep ≤ d
  | 0, _, _, _, h => by cases h
  | d + 1, ws, n, r, h => by
    have hrd := of_readN d
    have hne : ws ≠ [] := by
      rintro rfl
      have h' : readS (readN d) [] [] = some (n, r) := h
      clear h
      have h := h'
      rw [readS, if_neg (by simp), if_neg (by simp), if_neg (by simp)] at h
      unfold leafB at h
      by_cases h0 : (parseAt []).2 = 0
      · obtain ⟨h1, h2⟩ := leaf_of_parse h0 rfl
        obtain ⟨c, r, e, _⟩ := text_ne h1
        rw [h2] at e; cases e
      · have h' : (if (parseAt []).2 = 0 then _ else none) = some (n, r) := h
        rw [if_neg h0] at h'; cases h'
    cases ws with
    | nil => exact absurd rfl hne
    | cons s t =>
      rw [readN_cons] at h
      unfold readS at h
      split at h
      · rename_i hs
        obtain ⟨ks, rfl, e1, e2, e3⟩ := of_readBody hrd h
        refine ⟨?_, ?_, by simp only [Nd.deep]; omega⟩
        · rw [hs, e1]; simp [wordsN, headW]
        · simp [ckNd, leafK, e2]
      · split at h
        · rename_i hs
          obtain ⟨ks, rfl, e1, e2, e3⟩ := of_openB hrd h
          refine ⟨?_, ?_, by simp only [Nd.deep]; omega⟩
          · rw [hs, e1]; simp [wordsN, headW]
          · simp [ckNd, leafK, e2]
        · split at h
          · rename_i hs
            split at h
            · rename_i hn
              obtain ⟨ks, rfl, e1, e2, e3⟩ := of_openB hrd h
              have hc := cut_bang (s := s.dropLast) (t := (cutBang s.dropLast).1) (b := (cutBang s.dropLast).2) rfl
              have hsd : s = s.dropLast ++ [63] := by
                cases s with
                | nil => simp at hs
                | cons x y =>
                  have h1 := List.dropLast_concat_getLast (l := x :: y) (by simp)
                  rw [List.getLast?_eq_some_getLast (by simp)] at hs
                  simp only [Option.some.injEq] at hs
                  rw [hs] at h1
                  exact h1.symm
              refine ⟨?_, ?_, by simp only [Nd.deep]; omega⟩
              · simp only [wordsN, headW, show ((5 : Int) = 1) = False by simp, show ((5 : Int) = 2) = False by simp, show ((5 : Int) = 4) = False by simp, if_false, if_true]
                rw [e1]
                simp only [List.cons_append, List.nil_append, List.append_assoc]
                congr 1
                generalize (cutBang s.dropLast).1 = q1 at *
                generalize (cutBang s.dropLast).2 = q2 at *
                rw [hsd, hc]
                cases q2 <;> simp
              · simp [ckNd, leafK, e2, hn]
            · cases h
          · unfold leafB at h
            split at h
            · rename_i h0
              simp only [Option.some.injEq, Prod.mk.injEq] at h
              obtain ⟨rfl, rfl⟩ := h
              obtain ⟨h1, h2⟩ := leaf_of_parse h0 rfl
              have hc := cut_bang (s := s) (t := (cutBang s).1) (b := (cutBang s).2) rfl
              generalize (cutBang s).1 = q1 at *
              generalize (cutBang s).2 = q2 at *
              refine ⟨?_, ?_, by simp [Nd.deep, deepL]⟩
              · cases q2
                · simp [wordsN, prAtom, h1, h2, hc]
                · simp [wordsN, prAtom, h1, h2, hc]
              · cases q2 <;> simp [ckNd, leafK, h1]
            · cases h

theorem wordsN_plain : ∀ {n : Nd}, ckNd n = 0 → ∀ w ∈ wordsN n, ∀ x ∈ w, x ≠ 32 ∧ x ≠ 10 := by
  refine fun {n} => Nd.ind (P := fun n => ckNd n = 0 → ∀ w ∈ wordsN n, ∀ x ∈ w, x ≠ 32 ∧ x ≠ 10) (fun k a f no ks ih => ?_) n
  intro h w hw x hx
  have hL : ∀ {l : List Nd}, (∀ y ∈ l, ∀ w ∈ wordsN y, ∀ x ∈ w, x ≠ 32 ∧ x ≠ 10) → ∀ w ∈ wordsL l, ∀ x ∈ w, x ≠ 32 ∧ x ≠ 10 := by
    intro l
    induction l with
    | nil => intro _ w hw; cases hw
    | cons y l ihl =>
      intro hl w hw
      simp only [wordsL] at hw
      rcases List.mem_append.1 hw with hw | hw
      · exact hl y (List.mem_cons_self ..) w hw
      · exact ihl (fun z hz => hl z (List.mem_cons_of_mem _ hz)) w hw
  have hp : ∀ {c : UInt8}, plainB c = true → c ≠ 32 ∧ c ≠ 10 := fun hc => ⟨plain_ne hc rfl, plain_ne hc rfl⟩
  unfold ckNd at h
  split at h
  · cases h
  split at h
  · cases h
  split at h
  · cases h
  split at h
  · cases h
  split at h
  · cases h
  rename_i h1 h2 h3 h4 h5
  by_cases hl : leafK k = true
  · rw [if_pos hl] at h
    have hk : k = 1 ∨ k = 2 := by simpa [leafK] using hl
    unfold wordsN at hw
    rcases hk with rfl | rfl
    · simp [prAtom, h] at hw; subst hw
      exact hp (text_plain h x hx)
    · simp [prAtom, h] at hw; subst hw
      rcases List.mem_cons.1 hx with rfl | hx
      · decide
      · exact hp (text_plain h x hx)
  · rw [if_neg hl] at h
    have hk : k = 3 ∨ k = 4 ∨ k = 5 := by simp [leafK] at hl; omega
    unfold wordsN at hw
    rw [if_neg (by omega), if_neg (by omega)] at hw
    rcases List.mem_append.1 hw with hw | hw
    · unfold headW at hw
      rcases hk with rfl | rfl | rfl
      · simp at hw
      · simp at hw; subst hw; simp at hx; subst hx; decide
      · simp at hw; subst hw
        have hn : isName f = true := by
          cases e : isName f
          · exact absurd ⟨rfl, e⟩ h5
          · rfl
        rcases List.mem_append.1 hx with hx | hx
        · cases no <;> simp at hx; subst hx; decide
        · rcases List.mem_append.1 hx with hx | hx
          · exact hp (name_plain hn x hx)
          · simp at hx; subst hx; decide
    · rcases List.mem_cons.1 hw with rfl | hw
      · simp at hx; subst hx; decide
      · rcases List.mem_append.1 hw with hw | hw
        · exact hL (fun y hy => ih y hy (ckKids_zero.1 h y hy)) w hw x hx
        · simp at hw; subst hw; simp at hx; subst hx; decide

/-! ### how long it is -/
def fullLen (ws : List W) : Nat := (ws.map fun w => w.length + 1).sum
theorem join_len (c : UInt8) : ∀ (ws : List W), (joinB c ws).length ≤ fullLen ws
  | [] => Nat.zero_le _
  | [w] => by simp [joinB, fullLen]
  | w :: v :: r => by
    have ih := join_len c (v :: r)
    rw [join_cons (by simp)]
    have : fullLen (w :: v :: r) = w.length + 1 + fullLen (v :: r) := by simp [fullLen]
    rw [this]; simp; omega
theorem full_append (a b : List W) : fullLen (a ++ b) = fullLen a + fullLen b := by simp [fullLen]
theorem words_len : ∀ {n : Nd}, ckNd n = 0 → fullLen (wordsN n) ≤ 200 * n.nodes := by
  refine fun {n} => Nd.ind (P := fun n => ckNd n = 0 → fullLen (wordsN n) ≤ 200 * n.nodes) (fun k a f no ks ih => ?_) n
  intro h
  have hL : ∀ {l : List Nd}, (∀ y ∈ l, fullLen (wordsN y) ≤ 200 * y.nodes) → fullLen (wordsL l) ≤ 200 * nodesL l := by
    intro l
    induction l with
    | nil => intro _; simp [wordsL, fullLen, nodesL]
    | cons y l ihl =>
      intro hl
      have h1 := hl y (List.mem_cons_self ..)
      have h2 := ihl fun z hz => hl z (List.mem_cons_of_mem _ hz)
      simp only [wordsL, nodesL, full_append]; omega
  unfold ckNd at h
  split at h
  · cases h
  split at h
  · cases h
  split at h
  · cases h
  split at h
  · cases h
  split at h
  · cases h
  rename_i h1 h2 h3 h4 h5
  by_cases hl : leafK k = true
  · rw [if_pos hl] at h
    have ht := textOf_len (atOk h)
    have hk : k = 1 ∨ k = 2 := by simpa [leafK] using hl
    unfold wordsN
    rcases hk with rfl | rfl <;> simp [prAtom, h, fullLen, Nd.nodes] <;> omega
  · rw [if_neg hl] at h
    have hk : k = 3 ∨ k = 4 ∨ k = 5 := by simp [leafK] at hl; omega
    have hd : fullLen (headW k f no) ≤ 20 := by
      unfold headW
      rcases hk with rfl | rfl | rfl
      · simp [fullLen]
      · simp [fullLen]
      · have hn : isName f = true := by
          cases e : isName f
          · exact absurd ⟨rfl, e⟩ h5
          · rfl
        have := isName_len hn
        cases no <;> simp [fullLen] <;> omega
    have hr := hL fun y hy => ih y hy (ckKids_zero.1 h y hy)
    unfold wordsN
    rw [if_neg (by omega), if_neg (by omega)]
    have : headW k f no ++ [40] :: (wordsL ks ++ [[41]]) = headW k f no ++ ([[40]] ++ (wordsL ks ++ [[41]])) := rfl
    rw [this, full_append, full_append, full_append]
    have e1 : fullLen [[40]] = 2 := rfl
    have e2 : fullLen [[41]] = 2 := rfl
    simp only [Nd.nodes]; omega

theorem ckNeed_zero {n : Nd} (h : ckNeed n = 0) : n.deep ≤ 4 ∧ n.nodes ≤ 20 ∧ ckNd n = 0 := by
  unfold ckNeed at h
  split at h
  · cases h
  · rename_i h1
    unfold tooMany at h1
    exact ⟨by omega, by omega, h⟩
theorem ndText_len {n : Nd} (h : ckNeed n = 0) : (ndText n).length ≤ 4000 := by
  obtain ⟨_, h2, h3⟩ := ckNeed_zero h
  have := join_len 32 (wordsN n)
  have := words_len h3
  unfold ndText; omega

theorem parseNd_text {n : Nd} (h : ckNeed n = 0) : parseNd (ndText n) = (n, 0) := by
  obtain ⟨h1, h2, h3⟩ := ckNeed_zero h
  have hl := ndText_len h
  unfold parseNd
  rw [if_neg (by omega)]
  unfold ndText
  rw [split_join (words_ne n) fun w hw x hx => (wordsN_plain h3 w hw x hx).1]
  have := readN_words n 4 h3 h1 []
  rw [List.append_nil] at this
  rw [this]
  simp [toldNd, finNd, h]
theorem parseNd_back {l : W} {n : Nd} (h : parseNd l = (n, 0)) : ckNeed n = 0 ∧ ndText n = l := by
  unfold parseNd at h
  split at h
  · simp at h
  · unfold toldNd at h
    split at h
    · rename_i m hm
      unfold finNd at h
      split at h
      · rename_i hk
        simp only [Prod.mk.injEq, and_true] at h
        subst h
        refine ⟨hk, ?_⟩
        obtain ⟨e, _, _⟩ := of_readN _ _ _ _ hm
        rw [List.append_nil] at e
        unfold ndText
        rw [← e]
        exact join_split l []
      · rename_i hk
        simp only [Prod.mk.injEq] at h
        exact absurd h.2 hk
    · simp at h
theorem ndText_inj {a b : Nd} (ha : ckNeed a = 0) (hb : ckNeed b = 0) (h : ndText a = ndText b) : a = b := by
  have h1 := parseNd_text ha
  have h2 := parseNd_text hb
  rw [h] at h1
  rw [h1] at h2
  exact (Prod.mk.inj h2).1
end Qm

namespace Qm
open Go

/-! The library's words for splitting and joining, and ours. -/

theorem index_cut (c : UInt8) : ∀ (l : List UInt8), Lib.index l [c] = match cutAt (· == c) l with | none => -1 | some (a, _, _) => (a.length : Int) := by
  intro l
  rw [Lib.index_one]
  induction l with
  | nil => rfl
  | cons b l ih =>
    unfold Lib.indexByte cutAt
    by_cases h : (b == c) = true
    · simp [h]
    · simp only [h, Bool.false_eq_true, if_false, ih]
      cases hr : cutAt (· == c) l with
      | none => simp
      | some t =>
        obtain ⟨a, d, e⟩ := t
        simp only [List.length_cons]
        have : ((a.length : Int) == -1) = false := by simp
        rw [this]; simp
theorem splitB_cut {c : UInt8} {l : W} : splitB c l = match cutAt (· == c) l with | none => [l] | some (a, _, d) => a :: splitB c d := by
  cases h : cutAt (· == c) l with
  | none =>
    have := of_cutAt_none h
    unfold splitB
    rw [splitGo_none fun x hx => by have := this x hx; simpa using this]; rfl
  | some t =>
    obtain ⟨a, b, d⟩ := t
    obtain ⟨e, hb, ha⟩ := of_cutAt_some h
    have hb' : b = c := by simpa using hb
    subst hb'
    unfold splitB
    rw [e, splitGo_some fun x hx => by have := ha x hx; simpa using this]; rfl
theorem splitK_eq (c : UInt8) : ∀ (k : Nat) (l : W), Lib.count l [c] ≤ k → Lib.splitK [c] 0 k l = splitB c l
  | k, l, hk => by
    rw [splitB_cut]
    have hi := index_cut c l
    cases h : cutAt (· == c) l with
    | none =>
      rw [h] at hi
      cases k with
      | zero => rfl
      | succ k => unfold Lib.splitK; rw [hi]; rfl
    | some t =>
      obtain ⟨a, b, d⟩ := t
      obtain ⟨e, hb, ha⟩ := of_cutAt_some h
      rw [h] at hi
      simp only [] at hi
      have hc := Lib.count_hit (by simp) hi
      have hd : l.drop (a.length + [c].length) = d := by rw [e]; simp [List.drop_append]
      rw [hd] at hc
      obtain ⟨k, rfl⟩ : ∃ j, k = j + 1 := ⟨k - 1, by omega⟩
      unfold Lib.splitK
      rw [hi]
      have h1 : ((a.length : Int) == -1) = false := by simp
      rw [h1]
      simp only [Bool.false_eq_true, if_false, Int.toNat_natCast, Nat.add_zero]
      rw [hd, splitK_eq c k d (by omega)]
      rw [e]; simp
theorem split_eq (c : UInt8) (l : W) : Lib.split l [c] = splitB c l := splitK_eq c _ l (Nat.le_refl _)
theorem splitB_bytes (c : UInt8) (s s' : ByteArray) : (Lib.splitB s' 0 (Lib.countB s s') s).map (·.data.toList) = splitB c s.data.toList ∨ s'.data.toList ≠ [c] := by
  by_cases h : s'.data.toList = [c]
  · left
    rw [Lib.splitB_data, h]
    have : Lib.countB s s' = Lib.count s.data.toList [c] := by unfold Lib.countB; rw [h]
    rw [this]; exact split_eq c _
  · exact .inr h
theorem join_eq (c : UInt8) : ∀ (ws : List W), Lib.join ws [c] = joinB c ws
  | [] => rfl
  | [w] => Lib.join_one w [c]
  | w :: v :: r => by
    have ih := join_eq c (v :: r)
    rw [Lib.join_cons] at ih ⊢
    rw [join_cons (by simp), ← ih]
    simp [Lib.joinTail]

/-! ### alike -/
mutual
def sameNd : Nd → Nd → Bool
  | .mk k a f no ks, m => decide (k = m.kind) && (decide (a = m.a) && (decide (f = m.fl) && (decide (no = m.no) && sameL ks m.kids)))
def sameL : List Nd → List Nd → Bool
  | [], ms => ms.isEmpty
  | n :: r, ms => match ms with
    | [] => false
    | m :: s => sameNd n m && sameL r s
end
theorem sameL_len : ∀ {ks ls : List Nd}, ks.length ≠ ls.length → sameL ks ls = false
  | [], [], h => absurd rfl h
  | [], _ :: _, _ => rfl
  | _ :: _, [], _ => rfl
  | _ :: r, _ :: s, h => by
    simp only [sameL]
    rw [sameL_len (ks := r) (ls := s) (by simpa using h), Bool.and_false]
theorem same_iff : ∀ n m, sameNd n m = true ↔ n = m := by
  refine Nd.ind fun k a f no ks ih => ?_
  intro m
  obtain ⟨k', a', f', no', ks'⟩ := m
  have hL : ∀ {l l' : List Nd}, (∀ x ∈ l, ∀ m, sameNd x m = true ↔ x = m) → (sameL l l' = true ↔ l = l') := by
    intro l
    induction l with
    | nil => intro l' _; cases l' <;> simp [sameL]
    | cons x r ihr =>
      intro l' h
      cases l' with
      | nil => simp [sameL]
      | cons y s =>
        simp only [sameL, Bool.and_eq_true, List.cons.injEq]
        rw [h x (List.mem_cons_self ..) y, ihr fun z hz => h z (List.mem_cons_of_mem _ hz)]
  show (decide (k = k') && (decide (a = a') && (decide (f = f') && (decide (no = no') && sameL ks ks')))) = true ↔ _
  rw [Bool.and_eq_true, Bool.and_eq_true, Bool.and_eq_true, Bool.and_eq_true, hL ih, Nd.mk.injEq, decide_eq_true_eq, decide_eq_true_eq, decide_eq_true_eq, decide_eq_true_eq]

/-! ### flags that a need asks -/
mutual
def flagsN : Nd → List W
  | .mk k _ f _ ks => (if k = 5 then [f] else []) ++ flagsL ks
def flagsL : List Nd → List W
  | [] => []
  | k :: r => flagsN k ++ flagsL r
end
theorem flagsL_snoc : ∀ (ks : List Nd) (y : Nd), flagsL (ks ++ [y]) = flagsL ks ++ flagsN y
  | [], y => by simp [flagsL]
  | k :: r, y => by simp only [List.cons_append, flagsL, flagsL_snoc r y, List.append_assoc]
theorem flagsN_le : ∀ (y : Nd), (flagsN y).length ≤ y.nodes := by
  refine Nd.ind fun k a f no ks ih => ?_
  have hL : ∀ {l : List Nd}, (∀ y ∈ l, (flagsN y).length ≤ y.nodes) → (flagsL l).length ≤ nodesL l := by
    intro l
    induction l with
    | nil => intro _; simp [flagsL, nodesL]
    | cons y l ihl =>
      intro hl
      have h1 := hl y (List.mem_cons_self ..)
      have h2 := ihl fun z hz => hl z (List.mem_cons_of_mem _ hz)
      simp only [flagsL, nodesL, List.length_append]; omega
  have := hL ih
  simp only [flagsN, Nd.nodes, List.length_append]
  split <;> simp <;> omega

theorem flagsL_take : ∀ (ks : List Nd) (j : Nat), (flagsL (ks.take j)).length ≤ (flagsL ks).length
  | [], j => by simp [flagsL]
  | k :: r, 0 => by simp [flagsL]
  | k :: r, j + 1 => by
    have := flagsL_take r j
    simp only [List.take_succ_cons, flagsL, List.length_append]; omega
end Qm

/-
  Needs in memory: ten cells that read as a need in plain words, its kids a slice of such.
-/
namespace Go.Proofs.YtnkmonmkhmcgaaaGreatDoor
open Go.RowKit Qm

/-- The ten cells of a need. -/
def ndRow (k : Int) (a : At) (f : Qm.W) (no : Bool) (A : Option Addr) (n c : Nat) : List Value :=
  [.int .i64 k, .string ⟨a.nm.toArray⟩, .int .i64 a.op, .int .i64 a.ver, .int .i64 a.slot, .string ⟨a.fl.toArray⟩, .bool a.on, .string ⟨f.toArray⟩, .bool no, .slice A n c]

inductive RNd (w : World) (S : Nat → Prop) : List Value → Nd → Prop
  | mk (k : Int) (a : At) (f : Qm.W) (no : Bool) (A : Option Addr) (n c : Nat) (ks : List Nd) (cs : List (List Value))
    (hnc : n ≤ c) (hc : c ≤ maxLen) (h1 : a.nm.length ≤ maxLen) (h2 : a.fl.length ≤ maxLen) (h3 : f.length ≤ maxLen)
    (hk : ks.length = n) (hcs : cs.length = n) (hrow : Row w S A (n * 10) cs.flatten)
    (hr : ∀ (j : Nat) (x : List Value) (y : Nd), cs[j]? = some x → ks[j]? = some y → RNd w S x y) : RNd w S (ndRow k a f no A n c) (.mk k a f no ks)

theorem RNd.ten {w : World} {S : Nat → Prop} {x : List Value} {y : Nd} (h : RNd w S x y) : x.length = 10 := by cases h; rfl

/-- Kids in memory. -/
def RKids (w : World) (S : Nat → Prop) (A : Option Addr) (n : Nat) (ks : List Nd) : Prop :=
  ∃ cs : List (List Value), ks.length = n ∧ cs.length = n ∧ Row w S A (n * 10) cs.flatten ∧ ∀ (j : Nat) (x : List Value) (y : Nd), cs[j]? = some x → ks[j]? = some y → RNd w S x y

theorem RNd.open_ {w : World} {S : Nat → Prop} {x : List Value} {k : Int} {a : At} {f : Qm.W} {no : Bool} {ks : List Nd} (h : RNd w S x (.mk k a f no ks)) :
    ∃ A n c, x = ndRow k a f no A n c ∧ n ≤ c ∧ c ≤ maxLen ∧ a.nm.length ≤ maxLen ∧ a.fl.length ≤ maxLen ∧ f.length ≤ maxLen ∧ RKids w S A n ks := by
  cases h with
  | mk k a f no A n c ks cs hnc hc h1 h2 h3 hk hcs hrow hr => exact ⟨A, n, c, rfl, hnc, hc, h1, h2, h3, cs, hk, hcs, hrow, hr⟩
theorem RNd.shut {w : World} {S : Nat → Prop} {k : Int} {a : At} {f : Qm.W} {no : Bool} {ks : List Nd} {A : Option Addr} {n c : Nat}
    (hnc : n ≤ c) (hc : c ≤ maxLen) (h1 : a.nm.length ≤ maxLen) (h2 : a.fl.length ≤ maxLen) (h3 : f.length ≤ maxLen) (h : RKids w S A n ks) : RNd w S (ndRow k a f no A n c) (.mk k a f no ks) := by
  obtain ⟨cs, hk, hcs, hrow, hr⟩ := h
  exact .mk k a f no A n c ks cs hnc hc h1 h2 h3 hk hcs hrow hr

theorem RNd.keep {w w' : World} {S : Nat → Prop} (hw : ∀ p : Addr, S p.block → w'.cell? p = w.cell? p) {x : List Value} {y : Nd} (h : RNd w S x y) : RNd w' S x y := by
  induction h with
  | mk k a f no A n c ks cs hnc hc h1 h2 h3 hk hcs hrow hr ih => exact .mk k a f no A n c ks cs hnc hc h1 h2 h3 hk hcs (hrow.keep hw) ih
theorem RNd.more {w : World} {S S' : Nat → Prop} (hS : ∀ k, S k → S' k) {x : List Value} {y : Nd} (h : RNd w S x y) : RNd w S' x y := by
  induction h with
  | mk k a f no A n c ks cs hnc hc h1 h2 h3 hk hcs hrow hr ih => exact .mk k a f no A n c ks cs hnc hc h1 h2 h3 hk hcs (hrow.more hS) ih
theorem RNd.under {w w' : World} {S : Nat → Prop} {B : Nat} {x : List Value} {y : Nd} (h : RNd w S x y) (hb : Below B w w') (hS : ∀ k, S k → k < B) : RNd w' S x y := h.keep fun _ hp => hb.cell (hS _ hp)
theorem RKids.keep {w w' : World} {S : Nat → Prop} {A : Option Addr} {n : Nat} {ks : List Nd} (h : RKids w S A n ks) (hw : ∀ p : Addr, S p.block → w'.cell? p = w.cell? p) : RKids w' S A n ks := by
  obtain ⟨cs, hk, hcs, hrow, hr⟩ := h
  exact ⟨cs, hk, hcs, hrow.keep hw, fun j x y h1 h2 => (hr j x y h1 h2).keep hw⟩
theorem RKids.more {w : World} {S S' : Nat → Prop} (hS : ∀ k, S k → S' k) {A : Option Addr} {n : Nat} {ks : List Nd} (h : RKids w S A n ks) : RKids w S' A n ks := by
  obtain ⟨cs, hk, hcs, hrow, hr⟩ := h
  exact ⟨cs, hk, hcs, hrow.more hS, fun j x y h1 h2 => (hr j x y h1 h2).more hS⟩
theorem RKids.under {w w' : World} {S : Nat → Prop} {B : Nat} {A : Option Addr} {n : Nat} {ks : List Nd} (h : RKids w S A n ks) (hb : Below B w w') (hS : ∀ k, S k → k < B) : RKids w' S A n ks := h.keep fun _ hp => hb.cell (hS _ hp)
theorem RKids.len {w : World} {S : Nat → Prop} {A : Option Addr} {n : Nat} {ks : List Nd} (h : RKids w S A n ks) : ks.length = n := by obtain ⟨_, h, _⟩ := h; exact h
theorem RKids.nil_ {w : World} {S : Nat → Prop} {A : Option Addr} : RKids w S A 0 [] := ⟨[], rfl, rfl, by simpa using Row.nil_, fun j x y h _ => by simp at h⟩

theorem flat_at {cs : List (List Value)} (h : ∀ x ∈ cs, x.length = 10) : ∀ {j : Nat} {x : List Value}, cs[j]? = some x → ∀ i, i < 10 → cs.flatten[j * 10 + i]? = x[i]? := by
  induction cs with
  | nil => intro j x hj; simp at hj
  | cons c r ih =>
    intro j x hj i hi
    have hc := h c (List.mem_cons_self ..)
    rw [List.flatten_cons]
    cases j with
    | zero =>
      simp only [List.getElem?_cons_zero, Option.some.injEq] at hj
      subst hj
      rw [List.getElem?_append_left (by omega)]; congr 1; omega
    | succ j =>
      rw [List.getElem?_cons_succ] at hj
      rw [List.getElem?_append_right (by omega)]
      rw [← ih (fun y hy => h y (List.mem_cons_of_mem _ hy)) hj i hi]
      congr 1; omega

/-- The kid at a place. -/
theorem RKids.at_ {w : World} {S : Nat → Prop} {A : Option Addr} {n : Nat} {ks : List Nd} (h : RKids w S A n ks) {j : Nat} (hj : j < n) :
    ∃ b o x y, A = some ⟨b, o, none⟩ ∧ S b ∧ ks[j]? = some y ∧ RNd w S x y ∧ ∀ i, i < 10 → w.cell? ⟨b, o + j * 10 + i, none⟩ = x[i]? := by
  obtain ⟨cs, hk, hcs, hrow, hr⟩ := h
  obtain ⟨b, o, hA, hb, hc⟩ := hrow.2 (by omega)
  have e1 : cs[j]? = some (cs[j]'(by omega)) := List.getElem?_eq_getElem (by omega)
  have e2 : ks[j]? = some (ks[j]'(by omega)) := List.getElem?_eq_getElem (by omega)
  refine ⟨b, o, _, _, hA, hb, e2, hr j _ _ e1 e2, fun i hi => ?_⟩
  rw [Nat.add_assoc, hc (j * 10 + i) (by omega)]
  refine flat_at (fun x hx => ?_) e1 i hi
  obtain ⟨i', hi', e⟩ := List.mem_iff_getElem.1 hx
  exact (hr i' x (ks[i']'(by omega)) (by rw [← e]; exact List.getElem?_eq_getElem hi') (List.getElem?_eq_getElem (by omega))).ten
end Go.Proofs.YtnkmonmkhmcgaaaGreatDoor

/- need.count, walked. -/
namespace Go.Proofs.YtnkmonmkhmcgaaaGreatDoor
open Go.RowKit Qm

def cntV : Option Int → Value
  | none => .tuple #[.int .i64 0, .bool false]
  | some c => .tuple #[.int .i64 c, .bool true]
theorem drop_step {ks : List Nd} {j : Nat} {y : Nd} (h : ks[j]? = some y) : ks.drop j = y :: ks.drop (j + 1) := by
  obtain ⟨hj, e⟩ := List.getElem?_eq_some_iff.1 h
  rw [List.drop_eq_getElem_cons hj, e]

set_option maxHeartbeats 1600000 in
theorem count_any : ∀ (n : Nd) (S : Nat → Prop) (x : List Value) (d : Nat) (m : Int) (w : World), RNd w S x n → (∀ k, S k → k < w.heap.size) → 1 ≤ d → d ≤ 5 → 0 ≤ m → m ≤ 20 →
    Calls Tryz.prog 29 #[.agg x.toArray, .int .i64 d, .int .i64 m] w fun e w' => e = .returned (cntV (cnt n d m)) ∧ Below w.heap.size w w' := by
  refine Nd.ind fun k a f no ks ih => ?_
  intro S x d m w hR hS hd1 hd5 hm0 hm
  have HI := Lib.hid ih; clear ih
  obtain ⟨A, n, c, rfl, hnc, hc, h1, h2, h3, hK⟩ := hR.open_
  clear hR
  have HS := Lib.hid hS; clear hS
  have HK := Lib.hid hK; clear hK
  unfold maxLen at hc
  clear h1 h2 h3
  unfold ndRow
  have HW := Lib.hid (Whole.new w _ 26 [.int .i64 k, .string ⟨a.nm.toArray⟩, .int .i64 a.op, .int .i64 a.ver, .int .i64 a.slot, .string ⟨a.fl.toArray⟩, .bool a.on, .string ⟨f.toArray⟩, .bool no, .slice A n c] rfl)
  have HB := Lib.hid ((Below.refl _ w).alloc (Nat.le_refl _) (.cells #[.int .i64 k, .string ⟨a.nm.toArray⟩, .int .i64 a.op, .int .i64 a.ver, .int .i64 a.slot, .string ⟨a.fl.toArray⟩, .bool a.on, .string ⟨f.toArray⟩, .bool no, .slice A n c] 26))
  by_cases h4 : 4 < d
  · have h4' : (4 : Int) < (d : Int) := by omega
    go_enter Tryz.func29, Tryz.ntmps29
    go_wp2
    go_ret2
    exact ⟨by simp [cnt, cntV, h4], HB.out⟩
  · have h4' : decide ((4 : Int) < (d : Int)) = false := by simp; omega
    have HC : Hid (cnt (.mk k a f no ks) d m = cntL ks d m 1) := Lib.hid (by simp [cnt, h4])
    go_enter Tryz.func29, Tryz.ntmps29
    go_wp2
    go_loopg [8, 18] n (fun g av iv wr => ∃ (j : Nat) (z : Int), Hid (j + g = n) ∧ iv = .int .i64 j ∧ av = .int .i64 z ∧ 1 ≤ z ∧ z ≤ 21 ∧ Hid (cntL ks d m 1 = cntL (ks.drop j) d m z) ∧ Below w.heap.size w wr)
    case atStart => exact ⟨0, 1, Lib.hid (Nat.zero_add _), rfl, rfl, by omega, by omega, Lib.hid rfl, HB.out⟩
    case round =>
      obtain ⟨j, z, Hj, rfl, rfl, hz1, hz2, Hcl, hb⟩ := hrel
      have HBr := Lib.hid hb; clear hb
      by_cases hj : j < n
      · obtain ⟨b, o, x, y, rfl, hb, hy, hxy, hcell⟩ := (HK.out.under HBr.out HS.out).at_ hj
        have Hdr := Lib.hid (drop_step hy)
        have hmem := List.mem_of_getElem? hy
        obtain ⟨yk, ya, yf, yn, yks⟩ := y
        obtain ⟨A', n', c', rfl, -⟩ := hxy.open_
        have g0 := hcell 0 (by omega); have g1 := hcell 1 (by omega); have g2 := hcell 2 (by omega); have g3 := hcell 3 (by omega); have g4 := hcell 4 (by omega)
        have g5 := hcell 5 (by omega); have g6 := hcell 6 (by omega); have g7 := hcell 7 (by omega); have g8 := hcell 8 (by omega); have g9 := hcell 9 (by omega)
        clear hcell
        unfold ndRow at g0 g1 g2 g3 g4 g5 g6 g7 g8 g9
        simp only [List.getElem?_cons_zero, List.getElem?_cons_succ, Nat.add_zero] at g0 g1 g2 g3 g4 g5 g6 g7 g8 g9
        clear hy
        have hxy2 := (hxy.under (Below.refl _ wr |>.alloc (Nat.le_refl _) (.cells #[.int .i64 yk, .string ⟨ya.nm.toArray⟩, .int .i64 ya.op, .int .i64 ya.ver, .int .i64 ya.slot, .string ⟨ya.fl.toArray⟩, .bool ya.on, .string ⟨yf.toArray⟩, .bool yn, .slice A' n' c'] 26)) fun q hq => Nat.lt_of_lt_of_le (HS.out q hq) HBr.out.size)
        clear hxy
        by_cases hzm : m < z
        · go_wp2_with fail
          go_ret2
          exact ⟨by rw [HC.out, Hcl.out, Hdr.out]; simp [cntL, hzm, cntV], HBr.out.alloc HBr.out.size _⟩
        · have hzm' : decide (m < z) = false := by simpa using hzm
          have hcall := HI.out _ hmem S _ (d + 1) (m - z) _ hxy2 (fun q hq => by have := HS.out q hq; have := HBr.out.size; simp; omega) (by omega) (by omega) (by omega) (by omega)
          have Hle := Lib.hid (cnt_le (.mk yk ya yf yn yks) (d + 1) (m - z))
          have Hge := Lib.hid (cnt_spec (.mk yk ya yf yn yks) (d + 1) (m - z) (by omega)).1
          have e : ((d + 1 : Nat) : Int) = (d : Int) + 1 := by omega
          rw [e] at hcall
          unfold ndRow at hcall
          have HX : Hid (cntL (ks.drop j) d m z = match cnt (.mk yk ya yf yn yks) (d + 1) (m - z) with | none => none | some c => cntL (ks.drop (j + 1)) d m (z + c)) := Lib.hid (by rw [Hdr.out]; simp only [cntL, if_neg hzm]; cases cnt (.mk yk ya yf yn yks) (d + 1) (m - z) <;> rfl)
          generalize hq : cnt (.mk yk ya yf yn yks) (d + 1) (m - z) = q at hcall Hle Hge HX
          have HBn := Lib.hid (HBr.out.alloc HBr.out.size (.cells #[.int .i64 yk, .string ⟨ya.nm.toArray⟩, .int .i64 ya.op, .int .i64 ya.ver, .int .i64 ya.slot, .string ⟨ya.fl.toArray⟩, .bool ya.on, .string ⟨yf.toArray⟩, .bool yn, .slice A' n' c'] 26))
          clear hq e hxy2
          have Hcall := Lib.hid hcall; clear hcall
          rcases q with _ | q
          · simp only [cntV] at Hcall
            go_wp2_with fail
            refine Hcall.out.mono ?_
            rintro e w' ⟨rfl, hb'⟩
            have HB' := Lib.hid (HBn.out.trans (hb'.mono HBn.out.size)); clear hb'
            go_wp2_with fail
            go_ret2
            exact ⟨by rw [HC.out, Hcl.out, HX.out]; rfl, HB'.out⟩
          · simp only [cntV] at Hcall
            have hq1 := Hle.out q (by omega) rfl
            have hq0 := (Hge.out q rfl).1
            go_wp2_with fail
            refine Hcall.out.mono ?_
            rintro e w' ⟨rfl, hb'⟩
            have HB' := Lib.hid (HBn.out.trans (hb'.mono HBn.out.size)); clear hb'
            go_wp2_with fail
            go_roundg (gk - 1)
            case measure => have := Hj.out; omega
            case rel => exact ⟨j + 1, z + q, Lib.hid (by have := Hj.out; omega), by go_num, rfl, by omega, by omega, Lib.hid (by rw [Hcl.out, HX.out]), HB'.out⟩
      · go_wp2_with fail
        go_ret2
        refine ⟨?_, HBr.out⟩
        rw [HC.out, Hcl.out, List.drop_of_length_le (by have := HK.out.len; omega)]; rfl
end Go.Proofs.YtnkmonmkhmcgaaaGreatDoor

/- atom.Name, walked. -/
namespace Go.Proofs.YtnkmonmkhmcgaaaGreatDoor
open Go.RowKit Qm

theorem okFrom_drop {l : List UInt8} {k : Nat} (h : k < l.length) : okFrom k (l.drop k) = (okAt k (l.getD k 0) && okFrom (k + 1) (l.drop (k + 1))) := by
  rw [List.drop_eq_getElem_cons h, okFrom]
  simp [List.getD, h]

theorem okAt_low {k : Nat} {c : UInt8} (h1 : 97 ≤ c.toNat) (h2 : c.toNat ≤ 122) : okAt k c = true := by simp [okAt, lowB, h1, h2]
theorem okAt_dig {k : Nat} {c : UInt8} (h0 : 0 < k) (h1 : 48 ≤ c.toNat) (h2 : c.toNat ≤ 57) : okAt k c = true := by simp [okAt, digB, h0, h1, h2]
theorem okAt_not {k : Nat} {c : UInt8} (h1 : c.toNat < 97 ∨ 122 < c.toNat) (h2 : k = 0 ∨ c.toNat < 48 ∨ 57 < c.toNat) : okAt k c = false := by
  simp only [okAt, lowB, digB, Bool.or_eq_false_iff, Bool.and_eq_false_iff, decide_eq_false_iff_not]
  omega

set_option maxHeartbeats 1600000 in
theorem name_any (s : ByteArray) (w : World) (hs : s.size ≤ maxLen) :
    Calls Tryz.prog 47 #[.string s] w fun e w' => e = .returned (.bool (isName s.data.toList)) ∧ Below w.heap.size w w' := by
  unfold maxLen at hs
  have HL := Lib.hid (Lib.size_eq s).symm
  by_cases h0 : s.size = 0
  · have hz : s = ⟨#[]⟩ := by
      obtain ⟨⟨l⟩⟩ := s
      have : l.length = 0 := h0
      cases l
      · rfl
      · simp at this
    subst hz
    go_enter Tryz.func47, Tryz.ntmps47
    go_wp2
    go_ret
    exact ⟨rfl, Below.refl _ _⟩
  · have hne : s.toList.isEmpty = false := by
      have := HL.out
      rw [Lib.toList_data]
      cases e : s.data.toList
      · rw [e] at this; simp at this; omega
      · rfl
    by_cases h8 : 8 < s.size
    · have h8' : (8 : Int) < (s.size : Int) := by omega
      go_enter Tryz.func47, Tryz.ntmps47
      go_wp2
      go_ret
      refine ⟨?_, Below.refl _ _⟩
      have : isName s.data.toList = false := by
        have := HL.out
        unfold isName
        rw [decide_eq_false (by omega)]; rfl
      rw [this]; rfl
    · have h8' : decide ((8 : Int) < (s.size : Int)) = false := by simp; omega
      have hcv := Lib.run_convert_string_bytes (P := Tryz.prog) w 9 69 5 s Tryz.underlying9 Tryz.underlying69 Tryz.underlying5
      have hcell : ∀ k, k < s.size → (Lib.bytesWorld w 5 s).cell? ⟨w.heap.size, k, none⟩ = some (.int .u8 (s.data.toList.getD k 0).toNat) := fun k hk => Lib.bytesWorld_cell w 5 s k hk
      have hbw := Lib.bytesWorld_below w 5 s
      have HB := Lib.hid hbw; clear hbw
      generalize Lib.bytesWorld w 5 s = W1 at hcv hcell HB
      have HC := Lib.hid hcell; clear hcell
      go_enter Tryz.func47, Tryz.ntmps47
      go_wp2
      clear hcv
      go_loop [15] (fun i => ∃ k : Nat, k ≤ s.size ∧ i = .int .i64 k ∧ okFrom 0 s.data.toList = okFrom k (s.data.toList.drop k)) (fun i => s.size - (intOf i).toNat)
      case atStart => exact ⟨0, Nat.zero_le _, rfl, rfl⟩
      case round =>
        obtain ⟨k, hk, rfl, hok⟩ := hrel
        have Hok := Lib.hid hok; clear hok
        by_cases hlt : k < s.size
        · have hc := HC.out k hlt
          have HS := Lib.hid (okFrom_drop (l := s.data.toList) (k := k) (by have := HL.out; omega))
          generalize s.data.toList.getD k 0 = c at hc HS
          have no : okAt k c = false → isName s.data.toList = false := by
            intro h
            unfold isName
            rw [Hok.out, HS.out, h, Bool.false_and, Bool.and_false]
          have yes : okAt k c = true → okFrom 0 s.data.toList = okFrom (k + 1) (s.data.toList.drop (k + 1)) := by
            intro h
            rw [Hok.out, HS.out, h, Bool.true_and]
          have No := Lib.hid no; clear no
          have Yes := Lib.hid yes; clear yes
          by_cases a1 : c.toNat < 97
          · have b1 : (c.toNat : Int) < 97 := by omega
            by_cases k0 : k = 0
            · subst k0
              go_wp2
              go_ret
              refine ⟨?_, HB.out⟩
              rw [No.out (okAt_not (by omega) (by omega))]; rfl
            · have bk : ((k : Int) == 0) = false := by simp; omega
              by_cases a3 : c.toNat < 48
              · have b3 : (c.toNat : Int) < 48 := by omega
                go_wp2
                go_ret
                refine ⟨?_, HB.out⟩
                rw [No.out (okAt_not (by omega) (by omega))]; rfl
              · have b3 : decide ((c.toNat : Int) < 48) = false := by simp; omega
                by_cases a4 : 57 < c.toNat
                · have b4 : 57 < (c.toNat : Int) := by omega
                  go_wp2
                  go_ret
                  refine ⟨?_, HB.out⟩
                  rw [No.out (okAt_not (by omega) (by omega))]; rfl
                · have b4 : decide (57 < (c.toNat : Int)) = false := by simp; omega
                  go_wp2
                  go_round
                  case rel => exact ⟨k + 1, by omega, by go_num, Yes.out (okAt_dig (by omega) (by omega) (by omega))⟩
                  case measure => simp [intOf]; omega
          · have b1 : decide ((c.toNat : Int) < 97) = false := by simp; omega
            by_cases a2 : 122 < c.toNat
            · have b2 : 122 < (c.toNat : Int) := by omega
              by_cases k0 : k = 0
              · subst k0
                go_wp2
                go_ret
                refine ⟨?_, HB.out⟩
                rw [No.out (okAt_not (by omega) (by omega))]; rfl
              · have bk : ((k : Int) == 0) = false := by simp; omega
                have b3 : decide ((c.toNat : Int) < 48) = false := by simp; omega
                have b4 : 57 < (c.toNat : Int) := by omega
                go_wp2
                go_ret
                refine ⟨?_, HB.out⟩
                rw [No.out (okAt_not (by omega) (by omega))]; rfl
            · have b2 : decide (122 < (c.toNat : Int)) = false := by simp; omega
              go_wp2
              go_round
              case rel => exact ⟨k + 1, by omega, by go_num, Yes.out (okAt_low (by omega) (by omega))⟩
              case measure => simp [intOf]; omega
        · go_wp2
          go_ret
          refine ⟨?_, HB.out⟩
          have e : okFrom 0 s.data.toList = true := by
            rw [Hok.out, List.drop_of_length_le (by have := HL.out; omega)]; rfl
          have : isName s.data.toList = true := by
            unfold isName
            have := HL.out
            rw [e, decide_eq_true (by omega)]; rfl
          rw [this]; rfl
end Go.Proofs.YtnkmonmkhmcgaaaGreatDoor
