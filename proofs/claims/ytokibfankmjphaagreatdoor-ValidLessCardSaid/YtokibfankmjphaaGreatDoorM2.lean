/- Parts of the proof: walks and plain laws, side by side. -/
import Derived.Test.YtokibfankmjphaaGreatDoorM1
import Derived.Lib.Split
import Derived.Lib.Join
import Derived.Lib.IndexBytes
set_option linter.unusedVariables false
set_option linter.unusedSimpArgs false
set_option linter.unusedSectionVars false
namespace Qm
open Go

/-! Needs: what is printed is read, and what is read is printed as it was. -/

/-! ### joining and splitting -/
theorem splitGo_none {c : UInt8} : ∀ {l acc : W}, (∀ x ∈ l, x ≠ c) → splitGo c acc l = [acc ++ l]
  | [], acc, _ => by simp [splitGo]
  | x :: r, acc, h => by
    rw [splitGo, if_neg (h x (List.mem_cons_self ..)), splitGo_none fun y hy => h y (List.mem_cons_of_mem _ hy)]
    simp
theorem splitGo_some {c : UInt8} {r : W} : ∀ {l acc : W}, (∀ x ∈ l, x ≠ c) → splitGo c acc (l ++ c :: r) = (acc ++ l) :: splitGo c [] r
  | [], acc, _ => by simp [splitGo]
  | x :: l, acc, h => by
    rw [List.cons_append, splitGo, if_neg (h x (List.mem_cons_self ..)), splitGo_some fun y hy => h y (List.mem_cons_of_mem _ hy)]
    simp
theorem split_join {c : UInt8} : ∀ {ws : List W}, ws ≠ [] → (∀ w ∈ ws, ∀ x ∈ w, x ≠ c) → splitB c (joinB c ws) = ws
  | [], h, _ => absurd rfl h
  | [w], _, h => by
    show splitGo c [] w = [w]
    rw [splitGo_none (h w (List.mem_cons_self ..))]; rfl
  | w :: v :: r, _, h => by
    have ih := split_join (c := c) (ws := v :: r) (by simp) fun y hy => h y (List.mem_cons_of_mem _ hy)
    show splitGo c [] (w ++ c :: joinB c (v :: r)) = _
    rw [splitGo_some (h w (List.mem_cons_self ..))]
    unfold splitB at ih
    rw [ih]; rfl
theorem join_cons {c : UInt8} {w : W} {ws : List W} (h : ws ≠ []) : joinB c (w :: ws) = w ++ c :: joinB c ws := by
  cases ws with
  | nil => exact absurd rfl h
  | cons v r => rfl
theorem splitGo_ne {c : UInt8} : ∀ {l acc : W}, splitGo c acc l ≠ []
  | [], acc => by simp [splitGo]
  | x :: r, acc => by
    rw [splitGo]; split
    · simp
    · exact splitGo_ne
theorem join_split {c : UInt8} : ∀ (l acc : W), joinB c (splitGo c acc l) = acc ++ l
  | [], acc => by simp [splitGo, joinB]
  | x :: r, acc => by
    rw [splitGo]
    by_cases h : x = c
    · rw [if_pos h, join_cons splitGo_ne, join_split r []]; simp [h]
    · rw [if_neg h, join_split r (acc ++ [x])]; simp
theorem split_words {c : UInt8} : ∀ {l acc : W}, (∀ x ∈ acc, x ≠ c) → ∀ w ∈ splitGo c acc l, ∀ x ∈ w, x ≠ c
  | [], acc, h, w, hw => by simp [splitGo] at hw; subst hw; exact h
  | x :: r, acc, h, w, hw => by
    rw [splitGo] at hw
    by_cases hx : x = c
    · rw [if_pos hx] at hw
      rcases List.mem_cons.1 hw with rfl | hw
      · exact h
      · exact split_words (acc := []) (by simp) w hw
    · rw [if_neg hx] at hw
      refine split_words (acc := acc ++ [x]) ?_ w hw
      intro y hy
      rcases List.mem_append.1 hy with hy | hy
      · exact h y hy
      · simp at hy; subst hy; exact hx

/-! ### what stands in an atom's text -/
def plainB (c : UInt8) : Bool := c != 32 && c != 33 && c != 40 && c != 41 && c != 63 && c != 124 && c != 10 && c != 44
theorem low_plain {c : UInt8} (h : lowB c = true ∨ digB c = true) : plainB c = true := by
  have h' : (97 ≤ c.toNat ∧ c.toNat ≤ 122) ∨ (48 ≤ c.toNat ∧ c.toNat ≤ 57) := by simpa [lowB, digB] using h
  have k : ∀ d : UInt8, d.toNat < 48 ∨ (57 < d.toNat ∧ d.toNat < 97) ∨ 122 < d.toNat → (c != d) = true := by
    intro d hd
    rw [bne_iff_ne]
    rintro rfl
    omega
  unfold plainB
  rw [k 32 (by decide), k 33 (by decide), k 40 (by decide), k 41 (by decide), k 63 (by decide), k 124 (by decide), k 10 (by decide), k 44 (by decide)]; rfl
theorem name_plain {l : W} (h : isName l = true) : ∀ c ∈ l, plainB c = true := fun c hc => low_plain (isName_mem h c hc)
theorem text_plain {a : At} (h : ckAtom a = 0) : ∀ c ∈ textOf a, plainB c = true := by
  have hk := atOk h
  intro c hc
  unfold textOf at hc
  rcases List.mem_append.1 hc with hc | hc
  · rcases List.mem_append.1 hc with hc | hc
    · rcases List.mem_append.1 hc with hc | hc
      · exact name_plain hk.nm c hc
      · split at hc
        · rename_i h0
          rcases List.mem_append.1 hc with hc | hc
          · have : c = 61 ∨ c = 62 ∨ c = 60 := by
              unfold opText at hc
              split at hc
              · simp at hc; exact .inl hc
              · split at hc
                · simp at hc; rcases hc with hc | hc
                  · exact .inr (.inl hc)
                  · exact .inl hc
                · split at hc
                  · simp at hc; exact .inr (.inr hc)
                  · cases hc
            rcases this with rfl | rfl | rfl <;> decide
          · exact low_plain (.inr (itoa_mem (by have := hk.some h0; omega) c hc))
        · cases hc
    · split at hc
      · rcases List.mem_cons.1 hc with rfl | hc
        · decide
        · exact low_plain (.inr (itoa_mem (by omega) c hc))
      · cases hc
  · split at hc
    · rename_i h0
      rcases List.mem_cons.1 hc with rfl | hc
      · split <;> decide
      · exact name_plain (hk.fl h0) c hc
    · cases hc
theorem text_ne {a : At} (h : ckAtom a = 0) : ∃ c r, textOf a = c :: r ∧ plainB c = true := by
  have hl := (isName_len (atOk h).nm).1
  have hp := text_plain h
  have : textOf a ≠ [] := by
    intro e
    unfold textOf at e
    simp only [List.append_assoc, List.append_eq_nil_iff] at e
    rw [e.1] at hl; simp at hl
  cases e : textOf a with
  | nil => exact absurd e this
  | cons c r => rw [e] at hp; exact ⟨c, r, rfl, hp c (List.mem_cons_self ..)⟩
theorem plain_ne {c d : UInt8} (h : plainB c = true) (hd : plainB d = false) : c ≠ d := by
  rintro rfl; rw [h] at hd; cases hd

/-! ### what is printed is read -/
theorem last_of {l : W} {c : UInt8} (h : l.getLast? = some c) : c ∈ l := List.mem_of_getLast? h
theorem readN_leaf {d : Nat} {a : At} {rest : List W} (h : ckAtom a = 0) : readN (d + 1) (textOf a :: rest) = some (.mk 1 a [] false [], rest) := by
  obtain ⟨c, r, e, hc⟩ := text_ne h
  have hp := text_plain h
  have h1 : textOf a ≠ [40] := by intro e'; exact plain_ne (hp 40 (by rw [e']; simp)) rfl rfl
  have h2 : textOf a ≠ [124, 124] := by intro e'; exact plain_ne (hp 124 (by rw [e']; simp)) rfl rfl
  have h3 : (textOf a).getLast? ≠ some 63 := fun e' => plain_ne (hp 63 (last_of e')) rfl rfl
  have h4 : cutBang (textOf a) = (textOf a, false) := by rw [e, cutBang, if_neg (plain_ne hc rfl)]
  rw [readN_cons, readS, if_neg h1, if_neg h2, if_neg h3, h4]
  simp [leafB, parse_text h]
theorem readN_block {d : Nat} {a : At} {rest : List W} (h : ckAtom a = 0) : readN (d + 1) ((33 :: textOf a) :: rest) = some (.mk 2 a [] false [], rest) := by
  obtain ⟨c, r, e, hc⟩ := text_ne h
  have hp := text_plain h
  have h3 : (33 :: textOf a).getLast? ≠ some 63 := by
    rw [e]
    intro e'
    rw [List.getLast?_cons_cons, ← e] at e'
    exact plain_ne (hp 63 (last_of e')) rfl rfl
  have h4 : cutBang (33 :: textOf a) = (textOf a, true) := by rw [cutBang, if_pos rfl]
  rw [readN_cons, readS, if_neg (by simp), if_neg (by simp), if_neg h3, h4]
  simp [leafB, parse_text h]

theorem words_ne : ∀ (n : Nd), wordsN n ≠ []
  | .mk k a f no ks => by
    unfold wordsN
    split
    · simp
    · split <;> simp
/-- A right need's first word is none that shuts. -/
theorem words_head {n : Nd} (h : ckNd n = 0) : ∃ w r, wordsN n = w :: r ∧ w ≠ [41] := by
  obtain ⟨k, a, f, no, ks⟩ := n
  unfold ckNd at h
  unfold wordsN
  split at h
  · cases h
  split at h
  · cases h
  split at h
  · cases h
  split at h
  · cases h
  split at h
  · cases h
  rename_i h1 h2 h3 h4 h5
  by_cases k1 : k = 1
  · rw [if_pos k1]
    rw [if_pos (by simp [leafK, k1])] at h
    refine ⟨_, _, rfl, ?_⟩
    unfold prAtom; rw [if_pos h]
    intro e'; exact plain_ne (text_plain h 41 (by rw [e']; simp)) rfl rfl
  · rw [if_neg k1]
    by_cases k2 : k = 2
    · rw [if_pos k2]; exact ⟨_, _, rfl, by simp⟩
    · rw [if_neg k2]
      unfold headW
      by_cases k4 : k = 4
      · rw [if_pos k4]; exact ⟨_, _, rfl, by simp⟩
      · rw [if_neg k4]
        by_cases k5 : k = 5
        · rw [if_pos k5]; refine ⟨_, _, rfl, ?_⟩
          intro e'
          have := congrArg List.getLast? e'
          simp at this
        · rw [if_neg k5]; exact ⟨_, _, rfl, by simp⟩

theorem readKids_words {rd : List W → Option (Nd × List W)} : ∀ {ks : List Nd} {f : Nat} {rest : List W}, (∀ x ∈ ks, ckNd x = 0 ∧ ∀ r, rd (wordsN x ++ r) = some (x, r)) →
    (wordsL ks ++ [41] :: rest).length < f → readKids rd f (wordsL ks ++ [41] :: rest) = some (ks, [41] :: rest)
  | [], f + 1, rest, _, _ => by simp [readKids, wordsL]
  | [], 0, rest, _, h => by simp at h
  | k :: r, 0, rest, _, h => by simp at h
  | k :: r, f + 1, rest, h, hf => by
    obtain ⟨hk, hr⟩ := h k (List.mem_cons_self ..)
    obtain ⟨w, r', e, hw⟩ := words_head hk
    have hlen : (wordsN k).length = r'.length + 1 := by rw [e]; rfl
    have hrk := hr (wordsL r ++ [41] :: rest)
    rw [e] at hrk
    simp only [List.cons_append] at hrk
    simp only [wordsL, readKids, e, List.cons_append, List.append_assoc]
    rw [if_neg hw, hrk]
    simp only []
    rw [readKids_words (fun x hx => h x (List.mem_cons_of_mem _ hx)) (by simp [wordsL, hlen] at hf ⊢; omega)]

theorem kids_deep : ∀ {ks : List Nd} {x : Nd}, x ∈ ks → x.deep ≤ deepL ks
  | [], _, h => by cases h
  | k :: r, x, h => by
    simp only [deepL]
    rcases List.mem_cons.1 h with rfl | h
    · exact Nat.le_max_left ..
    · exact Nat.le_trans (kids_deep h) (Nat.le_max_right ..)

theorem readN_words : ∀ (n : Nd) (d : Nat), ckNd n = 0 → n.deep ≤ d → ∀ rest, readN d (wordsN n ++ rest) = some (n, rest) := by
  refine Nd.ind fun k a f no ks ih => ?_
  intro d h hd rest
  obtain ⟨d, rfl⟩ : ∃ e, d = e + 1 := ⟨d - 1, by simp only [Nd.deep] at hd; omega⟩
  simp only [Nd.deep] at hd
  unfold ckNd at h
  split at h
  · cases h
  split at h
  · cases h
  split at h
  · cases h
  split at h
  · cases h
  split at h
  · cases h
  rename_i h1 h2 h3 h4 h5
  by_cases hl : leafK k = true
  · rw [if_pos hl] at h
    have hks : ks = [] := by
      cases ks with
      | nil => rfl
      | cons x r => exact absurd ⟨hl, by simp⟩ h2
    have hk : k = 1 ∨ k = 2 := by simpa [leafK] using hl
    have hf : f = [] ∧ no = false := by
      have : ¬ (f ≠ [] ∨ no = true) := fun e => h4 ⟨by omega, e⟩
      simp at this; exact this
    obtain ⟨rfl, rfl⟩ := hf
    subst hks
    unfold wordsN
    rcases hk with rfl | rfl
    · simp only [if_true, List.cons_append, List.nil_append, prAtom, if_pos h]
      exact readN_leaf h
    · simp only [show ((2 : Int) = 1) = False by simp, if_false, if_true, List.cons_append, List.nil_append, prAtom, if_pos h]
      exact readN_block h
  · have hl' : leafK k = false := by simpa using hl
    rw [if_neg hl] at h
    have ha : a = At.zero := by
      apply Classical.byContradiction
      intro e; exact h3 ⟨hl', e⟩
    subst ha
    have hk : k = 3 ∨ k = 4 ∨ k = 5 := by simp [leafK] at hl'; omega
    have hkid : ∀ x ∈ ks, ckNd x = 0 ∧ ∀ r, readN d (wordsN x ++ r) = some (x, r) := fun x hx =>
      ⟨ckKids_zero.1 h x hx, fun r => ih x hx d (ckKids_zero.1 h x hx) (by have := kids_deep hx; omega) r⟩
    have hbody : readBody (readN d) k f no (wordsL ks ++ [41] :: rest) = some (.mk k At.zero f no ks, rest) := by
      unfold readBody
      rw [readKids_words hkid (by omega)]
      simp [closeB]
    unfold wordsN
    rw [if_neg (by omega), if_neg (by omega)]
    rcases hk with rfl | rfl | rfl
    · have hf : f = [] ∧ no = false := by
        have : ¬ (f ≠ [] ∨ no = true) := fun e => h4 ⟨by omega, e⟩
        simp at this; exact this
      obtain ⟨rfl, rfl⟩ := hf
      simp only [headW, show ((3 : Int) = 4) = False by simp, show ((3 : Int) = 5) = False by simp, if_false, List.nil_append, List.cons_append, List.append_assoc]
      rw [readN_cons, readS, if_pos rfl]
      exact hbody
    · have hf : f = [] ∧ no = false := by
        have : ¬ (f ≠ [] ∨ no = true) := fun e => h4 ⟨by omega, e⟩
        simp at this; exact this
      obtain ⟨rfl, rfl⟩ := hf
      simp only [headW, if_true, List.nil_append, List.cons_append, List.append_assoc]
      rw [readN_cons, readS, if_neg (by simp), if_pos rfl]
      simp only [openB, if_true]
      exact hbody
    · have hn : isName f = true := by
        cases e : isName f
        · exact absurd ⟨rfl, e⟩ h5
        · rfl
      have hp := name_plain hn
      have hcut : cutBang ((if no then [33] else []) ++ f) = (f, no) := by
        cases no
        · cases f with
          | nil => rfl
          | cons c r => simp only [Bool.false_eq_true, if_false, List.nil_append, cutBang, if_neg (plain_ne (hp c (List.mem_cons_self ..)) (d := 33) rfl)]
        · simp [cutBang]
      have hs : (if no then [33] else []) ++ (f ++ [63]) = ((if no then [33] else []) ++ f) ++ [(63 : UInt8)] := by simp
      simp only [headW, show ((5 : Int) = 4) = False by simp, if_false, if_true, List.nil_append, List.cons_append, List.append_assoc]
      have g1 : (if no then [33] else []) ++ (f ++ [63]) ≠ [(40 : UInt8)] := by
        intro e'
        have := congrArg List.getLast? e'
        simp at this
      have g2 : (if no then [33] else []) ++ (f ++ [63]) ≠ [(124 : UInt8), 124] := by
        intro e'
        have := congrArg List.getLast? e'
        simp at this
      rw [readN_cons, readS, if_neg g1, if_neg g2, hs]
      simp only [List.getLast?_concat, if_true, List.dropLast_concat, hcut, hn, openB]
      exact hbody

/-! ### and back -/
theorem leaf_of_parse {t : W} {x : At} (h : (parseAt t).2 = 0) (hx : (parseAt t).1 = x) : ckAtom x = 0 ∧ textOf x = t := parse_back (by rw [← hx, ← h])
theorem cut_bang {s t : W} {b : Bool} (h : cutBang s = (t, b)) : s = if b then 33 :: t else t := by
  cases s with
  | nil => simp [cutBang] at h; obtain ⟨rfl, rfl⟩ := h; rfl
  | cons c r =>
    by_cases hc : c = 33
    · rw [cutBang, if_pos hc, Prod.mk.injEq] at h
      obtain ⟨rfl, rfl⟩ := h; simp [hc]
    · rw [cutBang, if_neg hc, Prod.mk.injEq] at h
      obtain ⟨rfl, rfl⟩ := h; simp

theorem of_readKids {rd : List W → Option (Nd × List W)} {d : Nat} (hrd : ∀ ws n r, rd ws = some (n, r) → ws = wordsN n ++ r ∧ ckNd n = 0 ∧ n.deep ≤ d) :
    ∀ {f : Nat} {ws : List W} {ks : List Nd} {r : List W}, readKids rd f ws = some (ks, r) → ws = wordsL ks ++ r ∧ ckKids ks = 0 ∧ deepL ks ≤ d
  | 0, _, _, _, h => by simp [readKids] at h
  | f + 1, [], ks, r, h => by
    simp only [readKids, Option.some.injEq, Prod.mk.injEq] at h
    obtain ⟨rfl, rfl⟩ := h
    simp [wordsL, ckKids, deepL]
  | f + 1, w :: ws, ks, r, h => by
    unfold readKids at h
    simp only [] at h
    split at h
    · simp only [Option.some.injEq, Prod.mk.injEq] at h
      obtain ⟨rfl, rfl⟩ := h
      simp [wordsL, ckKids, deepL]
    · split at h
      · cases h
      · rename_i k ws' hk
        split at h
        · cases h
        · rename_i ks' ws'' hks
          simp only [Option.some.injEq, Prod.mk.injEq] at h
          obtain ⟨rfl, rfl⟩ := h
          obtain ⟨e1, c1, d1⟩ := hrd _ _ _ hk
          obtain ⟨e2, c2, d2⟩ := of_readKids hrd hks
          refine ⟨?_, ?_, ?_⟩
          · rw [e1, e2]; simp [wordsL]
          · simp only [ckKids]; rw [if_pos c1]; exact c2
          · simp only [deepL]; exact Nat.max_le.2 ⟨d1, d2⟩

theorem of_readBody {rd : List W → Option (Nd × List W)} {d : Nat} (hrd : ∀ ws n r, rd ws = some (n, r) → ws = wordsN n ++ r ∧ ckNd n = 0 ∧ n.deep ≤ d) {k : Int} {fl : W} {no : Bool} {ws : List W} {n : Nd} {r : List W}
    (h : readBody rd k fl no ws = some (n, r)) : ∃ ks, n = .mk k At.zero fl no ks ∧ ws = wordsL ks ++ [41] :: r ∧ ckKids ks = 0 ∧ deepL ks ≤ d := by
  unfold readBody at h
  cases hk : readKids rd (ws.length + 1) ws with
  | none => rw [hk] at h; cases h
  | some q =>
    obtain ⟨ks, ws'⟩ := q
    rw [hk] at h
    obtain ⟨e1, c1, d1⟩ := of_readKids hrd hk
    unfold closeB at h
    cases ws' with
    | nil => cases h
    | cons w ws'' =>
      simp only [] at h
      split at h
      · rename_i hw
        simp only [Option.some.injEq, Prod.mk.injEq] at h
        obtain ⟨rfl, rfl⟩ := h
        subst hw
        exact ⟨ks, rfl, e1, c1, d1⟩
      · cases h
theorem of_openB {rd : List W → Option (Nd × List W)} {d : Nat} (hrd : ∀ ws n r, rd ws = some (n, r) → ws = wordsN n ++ r ∧ ckNd n = 0 ∧ n.deep ≤ d) {k : Int} {fl : W} {no : Bool} {ws : List W} {n : Nd} {r : List W}
    (h : openB rd k fl no ws = some (n, r)) : ∃ ks, n = .mk k At.zero fl no ks ∧ ws = [40] :: (wordsL ks ++ [41] :: r) ∧ ckKids ks = 0 ∧ deepL ks ≤ d := by
  cases ws with
  | nil => cases h
  | cons w ws' =>
    have h' : (if w = [40] then readBody rd k fl no ws' else none) = some (n, r) := h
    by_cases hw : w = [40]
    · rw [if_pos hw] at h'
      obtain ⟨ks, e0, e1, e2⟩ := of_readBody hrd h'
      exact ⟨ks, e0, by rw [hw, e1], e2⟩
    · rw [if_neg hw] at h'; cases h'

theorem of_readN : ∀ (d : Nat) (ws : List W) (n : Nd) (r : List W), readN d ws = some (n, r) → ws = wordsN n ++ r ∧ ckNd n = 0 ∧ n.deep ≤ d
  | 0, _, _, _, h => by cases h
  | d + 1, ws, n, r, h => by
    have hrd := of_readN d
    have hne : ws ≠ [] := by
      rintro rfl
      have h' : readS (readN d) [] [] = some (n, r) := h
      clear h
      have h := h'
      rw [readS, if_neg (by simp), if_neg (by simp), if_neg (by simp)] at h
      unfold leafB at h
      by_cases h0 : (parseAt []).2 = 0
      · obtain ⟨h1, h2⟩ := leaf_of_parse h0 rfl
        obtain ⟨c, r, e, _⟩ := text_ne h1
        rw [h2] at e; cases e
      · have h' : (if (parseAt []).2 = 0 then _ else none) = some (n, r) := h
        rw [if_neg h0] at h'; cases h'
    cases ws with
    | nil => exact absurd rfl hne
    | cons s t =>
      rw [readN_cons] at h
      unfold readS at h
      split at h
      · rename_i hs
        obtain ⟨ks, rfl, e1, e2, e3⟩ := of_readBody hrd h
        refine ⟨?_, ?_, by simp only [Nd.deep]; omega⟩
        · rw [hs, e1]; simp [wordsN, headW]
        · simp [ckNd, leafK, e2]
      · split at h
        · rename_i hs
          obtain ⟨ks, rfl, e1, e2, e3⟩ := of_openB hrd h
          refine ⟨?_, ?_, by simp only [Nd.deep]; omega⟩
          · rw [hs, e1]; simp [wordsN, headW]
          · simp [ckNd, leafK, e2]
        · split at h
          · rename_i hs
            split at h
            · rename_i hn
              obtain ⟨ks, rfl, e1, e2, e3⟩ := of_openB hrd h
              have hc := cut_bang (s := s.dropLast) (t := (cutBang s.dropLast).1) (b := (cutBang s.dropLast).2) rfl
              have hsd : s = s.dropLast ++ [63] := by
                cases s with
                | nil => simp at hs
                | cons x y =>
                  have h1 := List.dropLast_concat_getLast (l := x :: y) (by simp)
                  rw [List.getLast?_eq_some_getLast (by simp)] at hs
                  simp only [Option.some.injEq] at hs
                  rw [hs] at h1
                  exact h1.symm
              refine ⟨?_, ?_, by simp only [Nd.deep]; omega⟩
              · simp only [wordsN, headW, show ((5 : Int) = 1) = False by simp, show ((5 : Int) = 2) = False by simp, show ((5 : Int) = 4) = False by simp, if_false, if_true]
                rw [e1]
                simp only [List.cons_append, List.nil_append, List.append_assoc]
                congr 1
                generalize (cutBang s.dropLast).1 = q1 at *
                generalize (cutBang s.dropLast).2 = q2 at *
                rw [hsd, hc]
                cases q2 <;> simp
              · simp [ckNd, leafK, e2, hn]
            · cases h
          · unfold leafB at h
            split at h
            · rename_i h0
              simp only [Option.some.injEq, Prod.mk.injEq] at h
              obtain ⟨rfl, rfl⟩ := h
              obtain ⟨h1, h2⟩ := leaf_of_parse h0 rfl
              have hc := cut_bang (s := s) (t := (cutBang s).1) (b := (cutBang s).2) rfl
              generalize (cutBang s).1 = q1 at *
              generalize (cutBang s).2 = q2 at *
              refine ⟨?_, ?_, by simp [Nd.deep, deepL]⟩
              · cases q2
                · simp [wordsN, prAtom, h1, h2, hc]
                · simp [wordsN, prAtom, h1, h2, hc]
              · cases q2 <;> simp [ckNd, leafK, h1]
            · cases h

theorem wordsN_plain : ∀ {n : Nd}, ckNd n = 0 → ∀ w ∈ wordsN n, ∀ x ∈ w, x ≠ 32 ∧ x ≠ 10 := by
  refine fun {n} => Nd.ind (P := fun n => ckNd n = 0 → ∀ w ∈ wordsN n, ∀ x ∈ w, x ≠ 32 ∧ x ≠ 10) (fun k a f no ks ih => ?_) n
  intro h w hw x hx
  have hL : ∀ {l : List Nd}, (∀ y ∈ l, ∀ w ∈ wordsN y, ∀ x ∈ w, x ≠ 32 ∧ x ≠ 10) → ∀ w ∈ wordsL l, ∀ x ∈ w, x ≠ 32 ∧ x ≠ 10 := by
    intro l
    induction l with
    | nil => intro _ w hw; cases hw
    | cons y l ihl =>
      intro hl w hw
      simp only [wordsL] at hw
      rcases List.mem_append.1 hw with hw | hw
      · exact hl y (List.mem_cons_self ..) w hw
      · exact ihl (fun z hz => hl z (List.mem_cons_of_mem _ hz)) w hw
  have hp : ∀ {c : UInt8}, plainB c = true → c ≠ 32 ∧ c ≠ 10 := fun hc => ⟨plain_ne hc rfl, plain_ne hc rfl⟩
  unfold ckNd at h
  split at h
  · cases h
  split at h
  · cases h
  split at h
  · cases h
  split at h
  · cases h
  split at h
  · cases h
  rename_i h1 h2 h3 h4 h5
  by_cases hl : leafK k = true
  · rw [if_pos hl] at h
    have hk : k = 1 ∨ k = 2 := by simpa [leafK] using hl
    unfold wordsN at hw
    rcases hk with rfl | rfl
    · simp [prAtom, h] at hw; subst hw
      exact hp (text_plain h x hx)
    · simp [prAtom, h] at hw; subst hw
      rcases List.mem_cons.1 hx with rfl | hx
      · decide
      · exact hp (text_plain h x hx)
  · rw [if_neg hl] at h
    have hk : k = 3 ∨ k = 4 ∨ k = 5 := by simp [leafK] at hl; omega
    unfold wordsN at hw
    rw [if_neg (by omega), if_neg (by omega)] at hw
    rcases List.mem_append.1 hw with hw | hw
    · unfold headW at hw
      rcases hk with rfl | rfl | rfl
      · simp at hw
      · simp at hw; subst hw; simp at hx; subst hx; decide
      · simp at hw; subst hw
        have hn : isName f = true := by
          cases e : isName f
          · exact absurd ⟨rfl, e⟩ h5
          · rfl
        rcases List.mem_append.1 hx with hx | hx
        · cases no <;> simp at hx; subst hx; decide
        · rcases List.mem_append.1 hx with hx | hx
          · exact hp (name_plain hn x hx)
          · simp at hx; subst hx; decide
    · rcases List.mem_cons.1 hw with rfl | hw
      · simp at hx; subst hx; decide
      · rcases List.mem_append.1 hw with hw | hw
        · exact hL (fun y hy => ih y hy (ckKids_zero.1 h y hy)) w hw x hx
        · simp at hw; subst hw; simp at hx; subst hx; decide

/-! ### how long it is -/
def fullLen (ws : List W) : Nat := (ws.map fun w => w.length + 1).sum
theorem join_len (c : UInt8) : ∀ (ws : List W), (joinB c ws).length ≤ fullLen ws
  | [] => Nat.zero_le _
  | [w] => by simp [joinB, fullLen]
  | w :: v :: r => by
    have ih := join_len c (v :: r)
    rw [join_cons (by simp)]
    have : fullLen (w :: v :: r) = w.length + 1 + fullLen (v :: r) := by simp [fullLen]
    rw [this]; simp; omega
theorem full_append (a b : List W) : fullLen (a ++ b) = fullLen a + fullLen b := by simp [fullLen]
theorem words_len : ∀ {n : Nd}, ckNd n = 0 → fullLen (wordsN n) ≤ 200 * n.nodes := by
  refine fun {n} => Nd.ind (P := fun n => ckNd n = 0 → fullLen (wordsN n) ≤ 200 * n.nodes) (fun k a f no ks ih => ?_) n
  intro h
  have hL : ∀ {l : List Nd}, (∀ y ∈ l, fullLen (wordsN y) ≤ 200 * y.nodes) → fullLen (wordsL l) ≤ 200 * nodesL l := by
    intro l
    induction l with
    | nil => intro _; simp [wordsL, fullLen, nodesL]
    | cons y l ihl =>
      intro hl
      have h1 := hl y (List.mem_cons_self ..)
      have h2 := ihl fun z hz => hl z (List.mem_cons_of_mem _ hz)
      simp only [wordsL, nodesL, full_append]; omega
  unfold ckNd at h
  split at h
  · cases h
  split at h
  · cases h
  split at h
  · cases h
  split at h
  · cases h
  split at h
  · cases h
  rename_i h1 h2 h3 h4 h5
  by_cases hl : leafK k = true
  · rw [if_pos hl] at h
    have ht := textOf_len (atOk h)
    have hk : k = 1 ∨ k = 2 := by simpa [leafK] using hl
    unfold wordsN
    rcases hk with rfl | rfl <;> simp [prAtom, h, fullLen, Nd.nodes] <;> omega
  · rw [if_neg hl] at h
    have hk : k = 3 ∨ k = 4 ∨ k = 5 := by simp [leafK] at hl; omega
    have hd : fullLen (headW k f no) ≤ 20 := by
      unfold headW
      rcases hk with rfl | rfl | rfl
      · simp [fullLen]
      · simp [fullLen]
      · have hn : isName f = true := by
          cases e : isName f
          · exact absurd ⟨rfl, e⟩ h5
          · rfl
        have := isName_len hn
        cases no <;> simp [fullLen] <;> omega
    have hr := hL fun y hy => ih y hy (ckKids_zero.1 h y hy)
    unfold wordsN
    rw [if_neg (by omega), if_neg (by omega)]
    have : headW k f no ++ [40] :: (wordsL ks ++ [[41]]) = headW k f no ++ ([[40]] ++ (wordsL ks ++ [[41]])) := rfl
    rw [this, full_append, full_append, full_append]
    have e1 : fullLen [[40]] = 2 := rfl
    have e2 : fullLen [[41]] = 2 := rfl
    simp only [Nd.nodes]; omega

theorem ckNeed_zero {n : Nd} (h : ckNeed n = 0) : n.deep ≤ 4 ∧ n.nodes ≤ 20 ∧ ckNd n = 0 := by
  unfold ckNeed at h
  split at h
  · cases h
  · rename_i h1
    unfold tooMany at h1
    exact ⟨by omega, by omega, h⟩
theorem ndText_len {n : Nd} (h : ckNeed n = 0) : (ndText n).length ≤ 4000 := by
  obtain ⟨_, h2, h3⟩ := ckNeed_zero h
  have := join_len 32 (wordsN n)
  have := words_len h3
  unfold ndText; omega

theorem parseNd_text {n : Nd} (h : ckNeed n = 0) : parseNd (ndText n) = (n, 0) := by
  obtain ⟨h1, h2, h3⟩ := ckNeed_zero h
  have hl := ndText_len h
  unfold parseNd
  rw [if_neg (by omega)]
  unfold ndText
  rw [split_join (words_ne n) fun w hw x hx => (wordsN_plain h3 w hw x hx).1]
  have := readN_words n 4 h3 h1 []
  rw [List.append_nil] at this
  rw [this]
  simp [toldNd, finNd, h]
theorem parseNd_back {l : W} {n : Nd} (h : parseNd l = (n, 0)) : ckNeed n = 0 ∧ ndText n = l := by
  unfold parseNd at h
  split at h
  · simp at h
  · unfold toldNd at h
    split at h
    · rename_i m hm
      unfold finNd at h
      split at h
      · rename_i hk
        simp only [Prod.mk.injEq, and_true] at h
        subst h
        refine ⟨hk, ?_⟩
        obtain ⟨e, _, _⟩ := of_readN _ _ _ _ hm
        rw [List.append_nil] at e
        unfold ndText
        rw [← e]
        exact join_split l []
      · rename_i hk
        simp only [Prod.mk.injEq] at h
        exact absurd h.2 hk
    · simp at h
theorem ndText_inj {a b : Nd} (ha : ckNeed a = 0) (hb : ckNeed b = 0) (h : ndText a = ndText b) : a = b := by
  have h1 := parseNd_text ha
  have h2 := parseNd_text hb
  rw [h] at h1
  rw [h1] at h2
  exact (Prod.mk.inj h2).1
end Qm

namespace Qm
open Go

/-! The library's words for splitting and joining, and ours. -/

theorem index_cut (c : UInt8) : ∀ (l : List UInt8), Lib.index l [c] = match cutAt (· == c) l with | none => -1 | some (a, _, _) => (a.length : Int) := by
  intro l
  rw [Lib.index_one]
  induction l with
  | nil => rfl
  | cons b l ih =>
    unfold Lib.indexByte cutAt
    by_cases h : (b == c) = true
    · simp [h]
    · simp only [h, Bool.false_eq_true, if_false, ih]
      cases hr : cutAt (· == c) l with
      | none => simp
      | some t =>
        obtain ⟨a, d, e⟩ := t
        simp only [List.length_cons]
        have : ((a.length : Int) == -1) = false := by simp
        rw [this]; simp
theorem splitB_cut {c : UInt8} {l : W} : splitB c l = match cutAt (· == c) l with | none => [l] | some (a, _, d) => a :: splitB c d := by
  cases h : cutAt (· == c) l with
  | none =>
    have := of_cutAt_none h
    unfold splitB
    rw [splitGo_none fun x hx => by have := this x hx; simpa using this]; rfl
  | some t =>
    obtain ⟨a, b, d⟩ := t
    obtain ⟨e, hb, ha⟩ := of_cutAt_some h
    have hb' : b = c := by simpa using hb
    subst hb'
    unfold splitB
    rw [e, splitGo_some fun x hx => by have := ha x hx; simpa using this]; rfl
theorem splitK_eq (c : UInt8) : ∀ (k : Nat) (l : W), Lib.count l [c] ≤ k → Lib.splitK [c] 0 k l = splitB c l
  | k, l, hk => by
    rw [splitB_cut]
    have hi := index_cut c l
    cases h : cutAt (· == c) l with
    | none =>
      rw [h] at hi
      cases k with
      | zero => rfl
      | succ k => unfold Lib.splitK; rw [hi]; rfl
    | some t =>
      obtain ⟨a, b, d⟩ := t
      obtain ⟨e, hb, ha⟩ := of_cutAt_some h
      rw [h] at hi
      simp only [] at hi
      have hc := Lib.count_hit (by simp) hi
      have hd : l.drop (a.length + [c].length) = d := by rw [e]; simp [List.drop_append]
      rw [hd] at hc
      obtain ⟨k, rfl⟩ : ∃ j, k = j + 1 := ⟨k - 1, by omega⟩
      unfold Lib.splitK
      rw [hi]
      have h1 : ((a.length : Int) == -1) = false := by simp
      rw [h1]
      simp only [Bool.false_eq_true, if_false, Int.toNat_natCast, Nat.add_zero]
      rw [hd, splitK_eq c k d (by omega)]
      rw [e]; simp
theorem split_eq (c : UInt8) (l : W) : Lib.split l [c] = splitB c l := splitK_eq c _ l (Nat.le_refl _)
theorem splitB_bytes (c : UInt8) (s s' : ByteArray) : (Lib.splitB s' 0 (Lib.countB s s') s).map (·.data.toList) = splitB c s.data.toList ∨ s'.data.toList ≠ [c] := by
  by_cases h : s'.data.toList = [c]
  · left
    rw [Lib.splitB_data, h]
    have : Lib.countB s s' = Lib.count s.data.toList [c] := by unfold Lib.countB; rw [h]
    rw [this]; exact split_eq c _
  · exact .inr h
theorem join_eq (c : UInt8) : ∀ (ws : List W), Lib.join ws [c] = joinB c ws
  | [] => rfl
  | [w] => Lib.join_one w [c]
  | w :: v :: r => by
    have ih := join_eq c (v :: r)
    rw [Lib.join_cons] at ih ⊢
    rw [join_cons (by simp), ← ih]
    simp [Lib.joinTail]

/-! ### alike -/
mutual
def sameNd : Nd → Nd → Bool
  | .mk k a f no ks, m => decide (k = m.kind) && (decide (a = m.a) && (decide (f = m.fl) && (decide (no = m.no) && sameL ks m.kids)))
def sameL : List Nd → List Nd → Bool
  | [], ms => ms.isEmpty
  | n :: r, ms => match ms with
    | [] => false
    | m :: s => sameNd n m && sameL r s
end
theorem sameL_len : ∀ {ks ls : List Nd}, ks.length ≠ ls.length → sameL ks ls = false
  | [], [], h => absurd rfl h
  | [], _ :: _, _ => rfl
  | _ :: _, [], _ => rfl
  | _ :: r, _ :: s, h => by
    simp only [sameL]
    rw [sameL_len (ks := r) (ls := s) (by simpa using h), Bool.and_false]
theorem same_iff : ∀ n m, sameNd n m = true ↔ n = m := by
  refine Nd.ind fun k a f no ks ih => ?_
  intro m
  obtain ⟨k', a', f', no', ks'⟩ := m
  have hL : ∀ {l l' : List Nd}, (∀ x ∈ l, ∀ m, sameNd x m = true ↔ x = m) → (sameL l l' = true ↔ l = l') := by
    intro l
    induction l with
    | nil => intro l' _; cases l' <;> simp [sameL]
    | cons x r ihr =>
      intro l' h
      cases l' with
      | nil => simp [sameL]
      | cons y s =>
        simp only [sameL, Bool.and_eq_true, List.cons.injEq]
        rw [h x (List.mem_cons_self ..) y, ihr fun z hz => h z (List.mem_cons_of_mem _ hz)]
  show (decide (k = k') && (decide (a = a') && (decide (f = f') && (decide (no = no') && sameL ks ks')))) = true ↔ _
  rw [Bool.and_eq_true, Bool.and_eq_true, Bool.and_eq_true, Bool.and_eq_true, hL ih, Nd.mk.injEq, decide_eq_true_eq, decide_eq_true_eq, decide_eq_true_eq, decide_eq_true_eq]

/-! ### flags that a need asks -/
mutual
def flagsN : Nd → List W
  | .mk k _ f _ ks => (if k = 5 then [f] else []) ++ flagsL ks
def flagsL : List Nd → List W
  | [] => []
  | k :: r => flagsN k ++ flagsL r
end
theorem flagsL_snoc : ∀ (ks : List Nd) (y : Nd), flagsL (ks ++ [y]) = flagsL ks ++ flagsN y
  | [], y => by simp [flagsL]
  | k :: r, y => by simp only [List.cons_append, flagsL, flagsL_snoc r y, List.append_assoc]
theorem flagsN_le : ∀ (y : Nd), (flagsN y).length ≤ y.nodes := by
  refine Nd.ind fun k a f no ks ih => ?_
  have hL : ∀ {l : List Nd}, (∀ y ∈ l, (flagsN y).length ≤ y.nodes) → (flagsL l).length ≤ nodesL l := by
    intro l
    induction l with
    | nil => intro _; simp [flagsL, nodesL]
    | cons y l ihl =>
      intro hl
      have h1 := hl y (List.mem_cons_self ..)
      have h2 := ihl fun z hz => hl z (List.mem_cons_of_mem _ hz)
      simp only [flagsL, nodesL, List.length_append]; omega
  have := hL ih
  simp only [flagsN, Nd.nodes, List.length_append]
  split <;> simp <;> omega

theorem flagsL_take : ∀ (ks : List Nd) (j : Nat), (flagsL (ks.take j)).length ≤ (flagsL ks).length
  | [], j => by simp [flagsL]
  | k :: r, 0 => by simp [flagsL]
  | k :: r, j + 1 => by
    have := flagsL_take r j
    simp only [List.take_succ_cons, flagsL, List.length_append]; omega
end Qm

namespace Qm
open Go

/-! Trees, in plain words: no program in sight. -/

structure Pk where
  nm : W
  ver : Int
  slot : Int
  fs : List W
  nd : Nd

def badNext : Option W → W → Bool
  | none, _ => false
  | some p, f => decide (f ≤ p)
def ckFlags : Option W → List W → Int
  | _, [] => 0
  | prev, f :: r => if isName f = false then 1 else if badNext prev f = true then 6 else ckFlags (some f) r
def ckPk (p : Pk) : Int :=
  if isName p.nm = false then 1
  else if p.ver < 1 ∨ 99 < p.ver ∨ p.slot < 1 ∨ 9 < p.slot then 3
  else if 2 < p.fs.length then 2
  else if ckFlags none p.fs ≠ 0 then ckFlags none p.fs
  else if p.nd.kind ≠ 3 then 4
  else if ckNeed p.nd ≠ 0 then ckNeed p.nd
  else if (flagsN p.nd).all (fun f => p.fs.contains f) = true then 0 else 5
def beforeP (a b : Pk) : Bool := decide (a.nm < b.nm) || (decide (a.nm = b.nm) && decide (a.ver < b.ver))
def badPk : Option Pk → Pk → Bool
  | none, _ => false
  | some q, p => !beforeP q p
def ckT : Option Pk → Nat → List Pk → Int
  | _, _, [] => 0
  | prev, n, p :: r => if ckPk p ≠ 0 then ckPk p else if badPk prev p = true then 6 else if 14 < n + p.fs.length then 2 else ckT (some p) (n + p.fs.length) r
def ckTree (ps : List Pk) : Int := if 8 < ps.length then 2 else ckT none ps.length ps

/-! ### text -/
def pkLine (p : Pk) : W := p.nm ++ (32 :: Lib.itoa p.ver ++ (32 :: Lib.itoa p.slot ++ (32 :: joinB 44 p.fs ++ (32 :: ndText p.nd))))
def treeText : List Pk → W
  | [] => []
  | p :: r => pkLine p ++ 10 :: treeText r

/-! ### reading -/
def cut4 (l : W) : Option (W × W × W × W × W) :=
  match cutAt (· == 32) l with
  | none => none
  | some (a, _, l1) => match cutAt (· == 32) l1 with
    | none => none
    | some (b, _, l2) => match cutAt (· == 32) l2 with
      | none => none
      | some (c, _, l3) => match cutAt (· == 32) l3 with
        | none => none
        | some (d, _, e) => some (a, b, c, d, e)
def fsOf (d : W) : List W := if d = [] then [] else splitB 44 d
def parseLine (l : W) : Except Int Pk :=
  match cut4 l with
  | none => .error 1
  | some (a, b, c, d, e) => match number b, number c with
    | some v, some k => if (parseNd e).2 = 1 then .error 1 else if (parseNd e).2 ≠ 0 then .error (parseNd e).2 else .ok ⟨a, v, k, fsOf d, (parseNd e).1⟩
    | _, _ => .error 1
/-- Line by line: what is read, or the line and its error. -/
def parseLines : Nat → Nat → W → Except (Nat × Int) (List Pk)
  | 0, _, _ => .ok []
  | f + 1, i, s => if s = [] then .ok [] else match cutAt (· == 10) s with
    | none => .error (i, 1)
    | some (l, _, rest) => match parseLine l with
      | .error e => .error (i, e)
      | .ok p => match parseLines f (i + 1) rest with
        | .error e => .error e
        | .ok ps => .ok (p :: ps)
def parseTree (s : W) : List Pk × Nat × Int :=
  if 20000 < s.length then ([], 0, 2) else match parseLines (s.length + 1) 0 s with
    | .error (i, e) => ([], i, e)
    | .ok ps => if ckTree ps = 0 then (ps, 0, 0) else ([], 0, ckTree ps)

/-! ### what a right tree is -/
theorem ckT_mem : ∀ {ps : List Pk} {prev : Option Pk} {n : Nat}, ckT prev n ps = 0 → ∀ p ∈ ps, ckPk p = 0
  | [], _, _, _, p, hp => by cases hp
  | q :: r, prev, n, h, p, hp => by
    simp only [ckT] at h
    by_cases h1 : ckPk q = 0
    · rw [if_neg (by simpa using h1)] at h
      split at h
      · cases h
      · split at h
        · cases h
        · rcases List.mem_cons.1 hp with rfl | hp
          · exact h1
          · exact ckT_mem h p hp
    · rw [if_pos h1] at h
      exact absurd h h1
theorem ckTree_mem {ps : List Pk} (h : ckTree ps = 0) : ∀ p ∈ ps, ckPk p = 0 := by
  unfold ckTree at h
  split at h
  · cases h
  · exact ckT_mem h
structure PkOk (p : Pk) : Prop where
  nm : isName p.nm = true
  ver : 1 ≤ p.ver ∧ p.ver ≤ 99
  slot : 1 ≤ p.slot ∧ p.slot ≤ 9
  len : p.fs.length ≤ 2
  fs : ckFlags none p.fs = 0
  kind : p.nd.kind = 3
  nd : ckNeed p.nd = 0
  sub : ∀ f ∈ flagsN p.nd, f ∈ p.fs
theorem pkOk {p : Pk} (h : ckPk p = 0) : PkOk p := by
  unfold ckPk at h
  split at h
  · cases h
  split at h
  · cases h
  split at h
  · cases h
  split at h
  · rename_i h4; exact absurd h h4
  split at h
  · cases h
  split at h
  · rename_i h6; exact absurd h h6
  split at h
  · rename_i h1 h2 h3 h4 h5 h6 h7
    refine ⟨by simpa using h1, by omega, by omega, by omega, by simpa using h4, by simpa using h5, by simpa using h6, fun f hf => ?_⟩
    have := List.all_eq_true.1 h7 f hf
    simpa using this
  · cases h
theorem ckFlags_names : ∀ {fs : List W} {prev : Option W}, ckFlags prev fs = 0 → ∀ f ∈ fs, isName f = true
  | [], _, _, f, hf => by cases hf
  | g :: r, prev, h, f, hf => by
    simp only [ckFlags] at h
    split at h
    · cases h
    · rename_i h1
      split at h
      · cases h
      · rcases List.mem_cons.1 hf with rfl | hf
        · simpa using h1
        · exact ckFlags_names h f hf

/-! ### what is printed is read -/
theorem name_no {l : W} (h : isName l = true) (d : UInt8) (hd : plainB d = false) : ∀ x ∈ l, (x == d) = false := fun x hx => by
  rw [beq_eq_false_iff_ne]; exact plain_ne (name_plain h x hx) hd
theorem itoa_no {n : Int} (h : 0 ≤ n) (d : UInt8) (hd : plainB d = false) : ∀ x ∈ Lib.itoa n, (x == d) = false := fun x hx => by
  rw [beq_eq_false_iff_ne]; exact plain_ne (low_plain (.inr (itoa_mem h x hx))) hd
theorem join_no {fs : List W} (h : ∀ f ∈ fs, isName f = true) (d : UInt8) (hd : plainB d = false) (h44 : d ≠ 44) : ∀ x ∈ joinB 44 fs, (x == d) = false := by
  induction fs with
  | nil => intro x hx; cases hx
  | cons f r ih =>
    intro x hx
    cases r with
    | nil => exact name_no (h f (List.mem_cons_self ..)) d hd x hx
    | cons g r =>
      rw [join_cons (by simp)] at hx
      rcases List.mem_append.1 hx with hx | hx
      · exact name_no (h f (List.mem_cons_self ..)) d hd x hx
      · rcases List.mem_cons.1 hx with rfl | hx
        · rw [beq_eq_false_iff_ne]; exact fun e => h44 e.symm
        · exact ih (fun y hy => h y (List.mem_cons_of_mem _ hy)) x hx
theorem fsOf_join {fs : List W} (h : ∀ f ∈ fs, isName f = true) : fsOf (joinB 44 fs) = fs := by
  cases fs with
  | nil => rfl
  | cons f r =>
    have hf := h f (List.mem_cons_self ..)
    have hne : joinB 44 (f :: r) ≠ [] := by
      have hl := (isName_len hf).1
      cases r with
      | nil => intro e; change f = [] at e; rw [e] at hl; simp at hl
      | cons g r => rw [join_cons (by simp)]; simp
    unfold fsOf
    rw [if_neg hne]
    exact split_join (by simp) fun w hw x hx => by
      have := name_no (h w hw) 44 rfl x hx
      simpa using this
theorem cut4_line {p : Pk} (h : PkOk p) : cut4 (pkLine p) = some (p.nm, Lib.itoa p.ver, Lib.itoa p.slot, joinB 44 p.fs, ndText p.nd) := by
  have hv := h.ver
  have hs := h.slot
  unfold cut4 pkLine
  simp only [List.cons_append]
  rw [cutAt_some (c := 32) rfl (name_no h.nm 32 rfl)]
  simp only []
  rw [cutAt_some (c := 32) rfl (itoa_no (by omega) 32 rfl)]
  simp only []
  rw [cutAt_some (c := 32) rfl (itoa_no (by omega) 32 rfl)]
  simp only []
  rw [cutAt_some (c := 32) rfl (join_no (ckFlags_names h.fs) 32 rfl (by decide))]
theorem parseLine_line {p : Pk} (h : PkOk p) : parseLine (pkLine p) = .ok p := by
  have hv := h.ver
  have hs := h.slot
  unfold parseLine
  rw [cut4_line h]
  simp only []
  rw [number_nat (n := p.ver) (by omega) (by omega), number_nat (n := p.slot) (by omega) (by omega), parseNd_text h.nd, fsOf_join (ckFlags_names h.fs)]
  rfl
theorem nd_no {n : Nd} (h : ckNeed n = 0) : ∀ x ∈ ndText n, (x == 10) = false := by
  have hp := wordsN_plain (ckNeed_zero h).2.2
  have : ∀ (ws : List W), (∀ w ∈ ws, ∀ x ∈ w, x ≠ 32 ∧ x ≠ 10) → ∀ x ∈ joinB 32 ws, x ≠ 10 := by
    intro ws
    induction ws with
    | nil => intro _ x hx; cases hx
    | cons w r ih =>
      intro hw x hx
      cases r with
      | nil => exact (hw w (List.mem_cons_self ..) x hx).2
      | cons v r =>
        rw [join_cons (by simp)] at hx
        rcases List.mem_append.1 hx with hx | hx
        · exact (hw w (List.mem_cons_self ..) x hx).2
        · rcases List.mem_cons.1 hx with rfl | hx
          · decide
          · exact ih (fun y hy => hw y (List.mem_cons_of_mem _ hy)) x hx
  intro x hx
  rw [beq_eq_false_iff_ne]
  exact this _ hp x hx
theorem line_no {p : Pk} (h : PkOk p) : ∀ x ∈ pkLine p, (x == 10) = false := by
  have hv := h.ver
  have hs := h.slot
  intro x hx
  unfold pkLine at hx
  simp only [List.cons_append, List.mem_append, List.mem_cons] at hx
  rcases hx with hx | rfl | hx | rfl | hx | rfl | hx | rfl | hx
  · exact name_no h.nm 10 rfl x hx
  · rfl
  · exact itoa_no (by omega) 10 rfl x hx
  · rfl
  · exact itoa_no (by omega) 10 rfl x hx
  · rfl
  · exact join_no (ckFlags_names h.fs) 10 rfl (by decide) x hx
  · rfl
  · exact nd_no h.nd x hx
theorem parseLines_step {s l rest : W} {x : UInt8} {p : Pk} {ps : List Pk} {f i : Nat} (h : s ≠ []) (hc : cutAt (· == 10) s = some (l, x, rest)) (hp : parseLine l = .ok p)
    (hr : parseLines f (i + 1) rest = .ok ps) : parseLines (f + 1) i s = .ok (p :: ps) := by
  unfold parseLines
  rw [if_neg h, hc]
  simp only []
  rw [hp]
  simp only []
  rw [hr]
theorem parseLine_error {l : W} {e : Int} (h : parseLine l = .error e) : e ≠ 0 := by
  unfold parseLine at h
  split at h
  · simp only [Except.error.injEq] at h; omega
  · split at h
    · split at h
      · simp only [Except.error.injEq] at h; omega
      · split at h
        · rename_i h1
          simp only [Except.error.injEq] at h; omega
        · cases h
    · simp only [Except.error.injEq] at h; omega
theorem parseLines_error : ∀ {f i : Nat} {s : W} {j : Nat} {e : Int}, parseLines f i s = .error (j, e) → e ≠ 0
  | 0, _, _, _, _, h => by cases h
  | f + 1, i, s, j, e, h => by
    unfold parseLines at h
    split at h
    · cases h
    · split at h
      · simp only [Except.error.injEq, Prod.mk.injEq] at h; omega
      · split at h
        · rename_i hp
          simp only [Except.error.injEq, Prod.mk.injEq] at h
          have := parseLine_error hp
          omega
        · split at h
          · rename_i hr
            simp only [Except.error.injEq] at h
            subst h
            exact parseLines_error hr
          · cases h
theorem parseLines_text : ∀ {ps : List Pk} {f i : Nat}, (∀ p ∈ ps, PkOk p) → (treeText ps).length < f → parseLines f i (treeText ps) = .ok ps
  | [], f + 1, i, _, _ => by simp [parseLines, treeText]
  | [], 0, i, _, h => by simp [treeText] at h
  | p :: r, 0, i, _, h => by simp at h
  | p :: r, f + 1, i, h, hl => by
    have hp := h p (List.mem_cons_self ..)
    have ih := parseLines_text (ps := r) (f := f) (i := i + 1) (fun q hq => h q (List.mem_cons_of_mem _ hq)) (by simp [treeText] at hl; omega)
    exact parseLines_step (by simp [treeText]) (by rw [treeText]; exact cutAt_some (c := 10) rfl (line_no hp)) (parseLine_line hp) ih
theorem parseTree_text {ps : List Pk} (h : ckTree ps = 0) (hl : (treeText ps).length ≤ 20000) : parseTree (treeText ps) = (ps, 0, 0) := by
  unfold parseTree
  rw [if_neg (by omega), parseLines_text (fun p hp => pkOk (ckTree_mem h p hp)) (by omega)]
  simp only []
  rw [if_pos h]

/-! ### and back -/
theorem fsOf_back {d : W} : joinB 44 (fsOf d) = d := by
  unfold fsOf
  split
  · rename_i h; rw [h]; rfl
  · exact join_split d []
theorem cut4_back {l a b c d e : W} (h : cut4 l = some (a, b, c, d, e)) : l = a ++ (32 :: b ++ (32 :: c ++ (32 :: d ++ (32 :: e)))) := by
  unfold cut4 at h
  split at h
  · cases h
  · rename_i a' x1 l1 h1
    split at h
    · cases h
    · rename_i b' x2 l2 h2
      split at h
      · cases h
      · rename_i c' x3 l3 h3
        split at h
        · cases h
        · rename_i d' x4 l4 h4
          simp only [Option.some.injEq, Prod.mk.injEq] at h
          obtain ⟨rfl, rfl, rfl, rfl, rfl⟩ := h
          obtain ⟨e1, p1, _⟩ := of_cutAt_some h1
          obtain ⟨e2, p2, _⟩ := of_cutAt_some h2
          obtain ⟨e3, p3, _⟩ := of_cutAt_some h3
          obtain ⟨e4, p4, _⟩ := of_cutAt_some h4
          have p1' : x1 = 32 := by simpa using p1
          have p2' : x2 = 32 := by simpa using p2
          have p3' : x3 = 32 := by simpa using p3
          have p4' : x4 = 32 := by simpa using p4
          subst p1' p2' p3' p4'
          rw [e1, e2, e3, e4]
          simp
theorem parseLine_back {l : W} {p : Pk} (h : parseLine l = .ok p) : pkLine p = l := by
  unfold parseLine at h
  split at h
  · cases h
  · rename_i a b c d e hc
    split at h
    · rename_i v k hv hk
      split at h
      · cases h
      · split at h
        · cases h
        · rename_i h1 h2
          simp only [Except.ok.injEq] at h
          subst h
          have h0 : (parseNd e).2 = 0 := by simpa using h2
          have hb := (parseNd_back (l := e) (n := (parseNd e).1) (by rw [← h0])).2
          rw [cut4_back hc]
          unfold pkLine
          simp only [of_number hv, of_number hk, fsOf_back, hb]
    · cases h
theorem parseLines_back : ∀ {f i : Nat} {s : W} {ps : List Pk}, s.length < f → parseLines f i s = .ok ps → treeText ps = s
  | 0, _, _, _, h, _ => by omega
  | f + 1, i, s, ps, hl, h => by
    unfold parseLines at h
    by_cases hs : s = []
    · rw [if_pos hs] at h
      simp only [Except.ok.injEq] at h
      subst h; rw [hs]; rfl
    · rw [if_neg hs] at h
      split at h
      · cases h
      · rename_i l x rest hc
        split at h
        · cases h
        · rename_i p hp
          split at h
          · cases h
          · rename_i qs hq
            simp only [Except.ok.injEq] at h
            subst h
            obtain ⟨e, hx, _⟩ := of_cutAt_some hc
            have hx' : x = 10 := by simpa using hx
            subst hx'
            have := parseLines_back (s := rest) (by rw [e] at hl; simp at hl; omega) hq
            rw [e, treeText, this, parseLine_back hp]
theorem parseTree_back {s : W} {ps : List Pk} {i : Nat} (h : parseTree s = (ps, i, 0)) : ckTree ps = 0 ∧ treeText ps = s := by
  unfold parseTree at h
  split at h
  · simp at h
  · split at h
    · rename_i i e hq
      simp only [Prod.mk.injEq] at h
      obtain ⟨_, _, rfl⟩ := h
      exact absurd rfl (parseLines_error hq)
    · rename_i qs hq
      split at h
      · rename_i hk
        simp only [Prod.mk.injEq] at h
        obtain ⟨rfl, _, _⟩ := h
        exact ⟨hk, parseLines_back (by omega) hq⟩
      · rename_i hk
        simp only [Prod.mk.injEq] at h
        exact absurd h.2.2 hk
end Qm

namespace Qm
open Go

/-! The library's Cut and SplitN are cutAt and cut4. -/

theorem cut_one (c : UInt8) (l : W) : Lib.cut l [c] = match cutAt (· == c) l with | none => (l, [], false) | some (a, _, d) => (a, d, true) := by
  have hi := index_cut c l
  unfold Lib.cut
  cases h : cutAt (· == c) l with
  | none => rw [h] at hi; rw [hi]; rfl
  | some t =>
    obtain ⟨a, b, d⟩ := t
    obtain ⟨e, hb, ha⟩ := of_cutAt_some h
    rw [h] at hi
    simp only [] at hi
    rw [hi, if_pos (by omega)]
    have h1 : l.take ((a.length : Int).toNat) = a := by rw [e]; simp
    have h2 : l.drop ((a.length : Int).toNat + [c].length) = d := by rw [e]; simp [List.drop_append]
    rw [h1, h2]
theorem splitK_step (c : UInt8) (k : Nat) (l : W) : Lib.splitK [c] 0 (k + 1) l = match cutAt (· == c) l with | none => [l] | some (a, _, d) => a :: Lib.splitK [c] 0 k d := by
  have hi := index_cut c l
  rw [Lib.splitK]
  cases h : cutAt (· == c) l with
  | none => rw [h] at hi; rw [hi]; rfl
  | some t =>
    obtain ⟨a, b, d⟩ := t
    obtain ⟨e, hb, ha⟩ := of_cutAt_some h
    rw [h] at hi
    simp only [] at hi
    have h0 : ((a.length : Int) == -1) = false := by simp
    have h1 : l.take ((a.length : Int).toNat + 0) = a := by rw [e]; simp
    have h2 : l.drop ((a.length : Int).toNat + [c].length) = d := by rw [e]; simp [List.drop_append]
    rw [hi, h0, h1, h2]; rfl
theorem splitK_len (c : UInt8) : ∀ (k : Nat) (l : W), (Lib.splitK [c] 0 k l).length ≤ k + 1
  | 0, l => by simp [Lib.splitK]
  | k + 1, l => by
    rw [splitK_step]
    cases cutAt (· == c) l with
    | none => simp
    | some t =>
      obtain ⟨a, b, d⟩ := t
      have := splitK_len c k d
      simp only [List.length_cons]; omega
theorem splitN_some {l a b c d e : W} (h : cut4 l = some (a, b, c, d, e)) : Lib.splitK [32] 0 (min 5 (l.length + 1) - 1) l = [a, b, c, d, e] := by
  have hl : 4 ≤ l.length := by rw [cut4_back h]; simp; omega
  rw [show min 5 (l.length + 1) - 1 = 3 + 1 by omega]
  unfold cut4 at h
  split at h
  · cases h
  · rename_i a' x1 l1 h1
    split at h
    · cases h
    · rename_i b' x2 l2 h2
      split at h
      · cases h
      · rename_i c' x3 l3 h3
        split at h
        · cases h
        · rename_i d' x4 l4 h4
          simp only [Option.some.injEq, Prod.mk.injEq] at h
          obtain ⟨rfl, rfl, rfl, rfl, rfl⟩ := h
          rw [splitK_step, h1]
          simp only []
          rw [splitK_step, h2]
          simp only []
          rw [splitK_step, h3]
          simp only []
          rw [splitK_step, h4]
          rfl
theorem splitN_none {l : W} (h : cut4 l = none) : (Lib.splitK [32] 0 (min 5 (l.length + 1) - 1) l).length ≠ 5 := by
  by_cases hl : l.length < 4
  · have := splitK_len 32 (min 5 (l.length + 1) - 1) l
    omega
  · rw [show min 5 (l.length + 1) - 1 = 3 + 1 by omega, splitK_step]
    unfold cut4 at h
    cases h1 : cutAt (· == 32) l with
    | none => simp
    | some t1 =>
      obtain ⟨a, x1, l1⟩ := t1
      rw [h1] at h
      simp only [] at h ⊢
      rw [splitK_step]
      cases h2 : cutAt (· == 32) l1 with
      | none => simp
      | some t2 =>
        obtain ⟨b, x2, l2⟩ := t2
        rw [h2] at h
        simp only [] at h ⊢
        rw [splitK_step]
        cases h3 : cutAt (· == 32) l2 with
        | none => simp
        | some t3 =>
          obtain ⟨c, x3, l3⟩ := t3
          rw [h3] at h
          simp only [] at h ⊢
          rw [splitK_step]
          cases h4 : cutAt (· == 32) l3 with
          | none => simp
          | some t4 =>
            obtain ⟨d, x4, l4⟩ := t4
            rw [h4] at h
            cases h
end Qm
