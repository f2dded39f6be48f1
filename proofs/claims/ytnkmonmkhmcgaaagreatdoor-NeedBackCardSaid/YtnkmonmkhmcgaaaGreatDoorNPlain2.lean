import Derived.Test.YtnkmonmkhmcgaaaGreatDoorNPlain
namespace Qm
open Go

/-! Needs: what is printed is read, and what is read is printed as it was. -/

/-! ### joining and splitting -/
theorem splitGo_none {c : UInt8} : ∀ {l acc : W}, (∀ x ∈ l, x ≠ c) → splitGo c acc l = [acc ++ l]
  | [], acc, _ => by simp [splitGo]
  | x :: r, acc, h => by
    rw [splitGo, if_neg (h x (List.mem_cons_self ..)), splitGo_none fun y hy => h y (List.mem_cons_of_mem _ hy)]
    simp
theorem splitGo_some {c : UInt8} {r : W} : ∀ {l acc : W}, (∀ x ∈ l, x ≠ c) → splitGo c acc (l ++ c :: r) = (acc ++ l) :: splitGo c [] r
  | [], acc, _ => by simp [splitGo]
  | x :: l, acc, h => by
    rw [List.cons_append, splitGo, if_neg (h x (List.mem_cons_self ..)), splitGo_some fun y hy => h y (List.mem_cons_of_mem _ hy)]
    simp
theorem split_join {c : UInt8} : ∀ {ws : List W}, ws ≠ [] → (∀ w ∈ ws, ∀ x ∈ w, x ≠ c) → splitB c (joinB c ws) = ws
  | [], h, _ => absurd rfl h
  | [w], _, h => by
    show splitGo c [] w = [w]
    rw [splitGo_none (h w (List.mem_cons_self ..))]; rfl
  | w :: v :: r, _, h => by
    have ih := split_join (c := c) (ws := v :: r) (by simp) fun y hy => h y (List.mem_cons_of_mem _ hy)
    show splitGo c [] (w ++ c :: joinB c (v :: r)) = _
    rw [splitGo_some (h w (List.mem_cons_self ..))]
    unfold splitB at ih
    rw [ih]; rfl
theorem join_cons {c : UInt8} {w : W} {ws : List W} (h : ws ≠ []) : joinB c (w :: ws) = w ++ c :: joinB c ws := by
  cases ws with
  | nil => exact absurd rfl h
  | cons v r => rfl
theorem splitGo_ne {c : UInt8} : ∀ {l acc : W}, splitGo c acc l ≠ []
  | [], acc => by simp [splitGo]
  | x :: r, acc => by
    rw [splitGo]; split
    · simp
    · exact splitGo_ne
theorem join_split {c : UInt8} : ∀ (l acc : W), joinB c (splitGo c acc l) = acc ++ l
  | [], acc => by simp [splitGo, joinB]
  | x :: r, acc => by
    rw [splitGo]
    by_cases h : x = c
    · rw [if_pos h, join_cons splitGo_ne, join_split r []]; simp [h]
    · rw [if_neg h, join_split r (acc ++ [x])]; simp
theorem split_words {c : UInt8} : ∀ {l acc : W}, (∀ x ∈ acc, x ≠ c) → ∀ w ∈ splitGo c acc l, ∀ x ∈ w, x ≠ c
  | [], acc, h, w, hw => by simp [splitGo] at hw; subst hw; exact h
  | x :: r, acc, h, w, hw => by
    rw [splitGo] at hw
    by_cases hx : x = c
    · rw [if_pos hx] at hw
      rcases List.mem_cons.1 hw with rfl | hw
      · exact h
      · exact split_words (acc := []) (by simp) w hw
    · rw [if_neg hx] at hw
      refine split_words (acc := acc ++ [x]) ?_ w hw
      intro y hy
      rcases List.mem_append.1 hy with hy | hy
      · exact h y hy
      · simp at hy; subst hy; exact hx

/-! ### what stands in an atom's text -/
def plainB (c : UInt8) : Bool := c != 32 && c != 33 && c != 40 && c != 41 && c != 63 && c != 124 && c != 10 && c != 44
theorem low_plain {c : UInt8} (h : lowB c = true ∨ digB c = true) : plainB c = true := by
  have h' : (97 ≤ c.toNat ∧ c.toNat ≤ 122) ∨ (48 ≤ c.toNat ∧ c.toNat ≤ 57) := by simpa [lowB, digB] using h
  have k : ∀ d : UInt8, d.toNat < 48 ∨ (57 < d.toNat ∧ d.toNat < 97) ∨ 122 < d.toNat → (c != d) = true := by
    intro d hd
    rw [bne_iff_ne]
    rintro rfl
    omega
  unfold plainB
  rw [k 32 (by decide), k 33 (by decide), k 40 (by decide), k 41 (by decide), k 63 (by decide), k 124 (by decide), k 10 (by decide), k 44 (by decide)]; rfl
theorem name_plain {l : W} (h : isName l = true) : ∀ c ∈ l, plainB c = true := fun c hc => low_plain (isName_mem h c hc)
theorem text_plain {a : At} (h : ckAtom a = 0) : ∀ c ∈ textOf a, plainB c = true := by
  have hk := atOk h
  intro c hc
  unfold textOf at hc
  rcases List.mem_append.1 hc with hc | hc
  · rcases List.mem_append.1 hc with hc | hc
    · rcases List.mem_append.1 hc with hc | hc
      · exact name_plain hk.nm c hc
      · split at hc
        · rename_i h0
          rcases List.mem_append.1 hc with hc | hc
          · have : c = 61 ∨ c = 62 ∨ c = 60 := by
              unfold opText at hc
              split at hc
              · simp at hc; exact .inl hc
              · split at hc
                · simp at hc; rcases hc with hc | hc
                  · exact .inr (.inl hc)
                  · exact .inl hc
                · split at hc
                  · simp at hc; exact .inr (.inr hc)
                  · cases hc
            rcases this with rfl | rfl | rfl <;> decide
          · exact low_plain (.inr (itoa_mem (by have := hk.some h0; omega) c hc))
        · cases hc
    · split at hc
      · rcases List.mem_cons.1 hc with rfl | hc
        · decide
        · exact low_plain (.inr (itoa_mem (by omega) c hc))
      · cases hc
  · split at hc
    · rename_i h0
      rcases List.mem_cons.1 hc with rfl | hc
      · split <;> decide
      · exact name_plain (hk.fl h0) c hc
    · cases hc
theorem text_ne {a : At} (h : ckAtom a = 0) : ∃ c r, textOf a = c :: r ∧ plainB c = true := by
  have hl := (isName_len (atOk h).nm).1
  have hp := text_plain h
  have : textOf a ≠ [] := by
    intro e
    unfold textOf at e
    simp only [List.append_assoc, List.append_eq_nil_iff] at e
    rw [e.1] at hl; simp at hl
  cases e : textOf a with
  | nil => exact absurd e this
  | cons c r => rw [e] at hp; exact ⟨c, r, rfl, hp c (List.mem_cons_self ..)⟩
theorem plain_ne {c d : UInt8} (h : plainB c = true) (hd : plainB d = false) : c ≠ d := by
  rintro rfl; rw [h] at hd; cases hd

/-! ### what is printed is read -/
theorem last_of {l : W} {c : UInt8} (h : l.getLast? = some c) : c ∈ l := List.mem_of_getLast? h
theorem readN_leaf {d : Nat} {a : At} {rest : List W} (h : ckAtom a = 0) : readN (d + 1) (textOf a :: rest) = some (.mk 1 a [] false [], rest) := by
  obtain ⟨c, r, e, hc⟩ := text_ne h
  have hp := text_plain h
  have h1 : textOf a ≠ [40] := by intro e'; exact plain_ne (hp 40 (by rw [e']; simp)) rfl rfl
  have h2 : textOf a ≠ [124, 124] := by intro e'; exact plain_ne (hp 124 (by rw [e']; simp)) rfl rfl
  have h3 : (textOf a).getLast? ≠ some 63 := fun e' => plain_ne (hp 63 (last_of e')) rfl rfl
  have h4 : cutBang (textOf a) = (textOf a, false) := by rw [e, cutBang, if_neg (plain_ne hc rfl)]
  rw [readN_cons, readS, if_neg h1, if_neg h2, if_neg h3, h4]
  simp [leafB, parse_text h]
theorem readN_block {d : Nat} {a : At} {rest : List W} (h : ckAtom a = 0) : readN (d + 1) ((33 :: textOf a) :: rest) = some (.mk 2 a [] false [], rest) := by
  obtain ⟨c, r, e, hc⟩ := text_ne h
  have hp := text_plain h
  have h3 : (33 :: textOf a).getLast? ≠ some 63 := by
    rw [e]
    intro e'
    rw [List.getLast?_cons_cons, ← e] at e'
    exact plain_ne (hp 63 (last_of e')) rfl rfl
  have h4 : cutBang (33 :: textOf a) = (textOf a, true) := by rw [cutBang, if_pos rfl]
  rw [readN_cons, readS, if_neg (by simp), if_neg (by simp), if_neg h3, h4]
  simp [leafB, parse_text h]

theorem words_ne : ∀ (n : Nd), wordsN n ≠ []
  | .mk k a f no ks => by
    unfold wordsN
    split
    · simp
    · split <;> simp
/-- A right need's first word is none that shuts. -/
theorem words_head {n : Nd} (h : ckNd n = 0) : ∃ w r, wordsN n = w :: r ∧ w ≠ [41] := by
  obtain ⟨k, a, f, no, ks⟩ := n
  unfold ckNd at h
  unfold wordsN
  split at h
  · cases h
  split at h
  · cases h
  split at h
  · cases h
  split at h
  · cases h
  split at h
  · cases h
  rename_i h1 h2 h3 h4 h5
  by_cases k1 : k = 1
  · rw [if_pos k1]
    rw [if_pos (by simp [leafK, k1])] at h
    refine ⟨_, _, rfl, ?_⟩
    unfold prAtom; rw [if_pos h]
    intro e'; exact plain_ne (text_plain h 41 (by rw [e']; simp)) rfl rfl
  · rw [if_neg k1]
    by_cases k2 : k = 2
    · rw [if_pos k2]; exact ⟨_, _, rfl, by simp⟩
    · rw [if_neg k2]
      unfold headW
      by_cases k4 : k = 4
      · rw [if_pos k4]; exact ⟨_, _, rfl, by simp⟩
      · rw [if_neg k4]
        by_cases k5 : k = 5
        · rw [if_pos k5]; refine ⟨_, _, rfl, ?_⟩
          intro e'
          have := congrArg List.getLast? e'
          simp at this
        · rw [if_neg k5]; exact ⟨_, _, rfl, by simp⟩

theorem readKids_words {rd : List W → Option (Nd × List W)} : ∀ {ks : List Nd} {f : Nat} {rest : List W}, (∀ x ∈ ks, ckNd x = 0 ∧ ∀ r, rd (wordsN x ++ r) = some (x, r)) →
    (wordsL ks ++ [41] :: rest).length < f → readKids rd f (wordsL ks ++ [41] :: rest) = some (ks, [41] :: rest)
  | [], f + 1, rest, _, _ => by simp [readKids, wordsL]
  | [], 0, rest, _, h => by simp at h
  | k :: r, 0, rest, _, h => by simp at h
  | k :: r, f + 1, rest, h, hf => by
    obtain ⟨hk, hr⟩ := h k (List.mem_cons_self ..)
    obtain ⟨w, r', e, hw⟩ := words_head hk
    have hlen : (wordsN k).length = r'.length + 1 := by rw [e]; rfl
    have hrk := hr (wordsL r ++ [41] :: rest)
    rw [e] at hrk
    simp only [List.cons_append] at hrk
    simp only [wordsL, readKids, e, List.cons_append, List.append_assoc]
    rw [if_neg hw, hrk]
    simp only []
    rw [readKids_words (fun x hx => h x (List.mem_cons_of_mem _ hx)) (by simp [wordsL, hlen] at hf ⊢; omega)]

theorem kids_deep : ∀ {ks : List Nd} {x : Nd}, x ∈ ks → x.deep ≤ deepL ks
  | [], _, h => by cases h
  | k :: r, x, h => by
    simp only [deepL]
    rcases List.mem_cons.1 h with rfl | h
    · exact Nat.le_max_left ..
    · exact Nat.le_trans (kids_deep h) (Nat.le_max_right ..)

theorem readN_words : ∀ (n : Nd) (d : Nat), ckNd n = 0 → n.deep ≤ d → ∀ rest, readN d (wordsN n ++ rest) = some (n, rest) := by
  refine Nd.ind fun k a f no ks ih => ?_
  intro d h hd rest
  obtain ⟨d, rfl⟩ : ∃ e, d = e + 1 := ⟨d - 1, by simp only [Nd.deep] at hd; omega⟩
  simp only [Nd.deep] at hd
  unfold ckNd at h
  split at h
  · cases h
  split at h
  · cases h
  split at h
  · cases h
  split at h
  · cases h
  split at h
  · cases h
  rename_i h1 h2 h3 h4 h5
  by_cases hl : leafK k = true
  · rw [if_pos hl] at h
    have hks : ks = [] := by
      cases ks with
      | nil => rfl
      | cons x r => exact absurd ⟨hl, by simp⟩ h2
    have hk : k = 1 ∨ k = 2 := by simpa [leafK] using hl
    have hf : f = [] ∧ no = false := by
      have : ¬ (f ≠ [] ∨ no = true) := fun e => h4 ⟨by omega, e⟩
      simp at this; exact this
    obtain ⟨rfl, rfl⟩ := hf
    subst hks
    unfold wordsN
    rcases hk with rfl | rfl
    · simp only [if_true, List.cons_append, List.nil_append, prAtom, if_pos h]
      exact readN_leaf h
    · simp only [show ((2 : Int) = 1) = False by simp, if_false, if_true, List.cons_append, List.nil_append, prAtom, if_pos h]
      exact readN_block h
  · have hl' : leafK k = false := by simpa using hl
    rw [if_neg hl] at h
    have ha : a = At.zero := by
      apply Classical.byContradiction
      intro e; exact h3 ⟨hl', e⟩
    subst ha
    have hk : k = 3 ∨ k = 4 ∨ k = 5 := by simp [leafK] at hl'; omega
    have hkid : ∀ x ∈ ks, ckNd x = 0 ∧ ∀ r, readN d (wordsN x ++ r) = some (x, r) := fun x hx =>
      ⟨ckKids_zero.1 h x hx, fun r => ih x hx d (ckKids_zero.1 h x hx) (by have := kids_deep hx; omega) r⟩
    have hbody : readBody (readN d) k f no (wordsL ks ++ [41] :: rest) = some (.mk k At.zero f no ks, rest) := by
      unfold readBody
      rw [readKids_words hkid (by omega)]
      simp [closeB]
    unfold wordsN
    rw [if_neg (by omega), if_neg (by omega)]
    rcases hk with rfl | rfl | rfl
    · have hf : f = [] ∧ no = false := by
        have : ¬ (f ≠ [] ∨ no = true) := fun e => h4 ⟨by omega, e⟩
        simp at this; exact this
      obtain ⟨rfl, rfl⟩ := hf
      simp only [headW, show ((3 : Int) = 4) = False by simp, show ((3 : Int) = 5) = False by simp, if_false, List.nil_append, List.cons_append, List.append_assoc]
      rw [readN_cons, readS, if_pos rfl]
      exact hbody
    · have hf : f = [] ∧ no = false := by
        have : ¬ (f ≠ [] ∨ no = true) := fun e => h4 ⟨by omega, e⟩
        simp at this; exact this
      obtain ⟨rfl, rfl⟩ := hf
      simp only [headW, if_true, List.nil_append, List.cons_append, List.append_assoc]
      rw [readN_cons, readS, if_neg (by simp), if_pos rfl]
      simp only [openB, if_true]
      exact hbody
    · have hn : isName f = true := by
        cases e : isName f
        · exact absurd ⟨rfl, e⟩ h5
        · rfl
      have hp := name_plain hn
      have hcut : cutBang ((if no then [33] else []) ++ f) = (f, no) := by
        cases no
        · cases f with
          | nil => rfl
          | cons c r => simp only [Bool.false_eq_true, if_false, List.nil_append, cutBang, if_neg (plain_ne (hp c (List.mem_cons_self ..)) (d := 33) rfl)]
        · simp [cutBang]
      have hs : (if no then [33] else []) ++ (f ++ [63]) = ((if no then [33] else []) ++ f) ++ [(63 : UInt8)] := by simp
      simp only [headW, show ((5 : Int) = 4) = False by simp, if_false, if_true, List.nil_append, List.cons_append, List.append_assoc]
      have g1 : (if no then [33] else []) ++ (f ++ [63]) ≠ [(40 : UInt8)] := by
        intro e'
        have := congrArg List.getLast? e'
        simp at this
      have g2 : (if no then [33] else []) ++ (f ++ [63]) ≠ [(124 : UInt8), 124] := by
        intro e'
        have := congrArg List.getLast? e'
        simp at this
      rw [readN_cons, readS, if_neg g1, if_neg g2, hs]
      simp only [List.getLast?_concat, if_true, List.dropLast_concat, hcut, hn, openB]
      exact hbody

/-! ### and back -/
theorem leaf_of_parse {t : W} {x : At} (h : (parseAt t).2 = 0) (hx : (parseAt t).1 = x) : ckAtom x = 0 ∧ textOf x = t := parse_back (by rw [← hx, ← h])
theorem cut_bang {s t : W} {b : Bool} (h : cutBang s = (t, b)) : s = if b then 33 :: t else t := by
  cases s with
  | nil => simp [cutBang] at h; obtain ⟨rfl, rfl⟩ := h; rfl
  | cons c r =>
    by_cases hc : c = 33
    · rw [cutBang, if_pos hc, Prod.mk.injEq] at h
      obtain ⟨rfl, rfl⟩ := h; simp [hc]
    · rw [cutBang, if_neg hc, Prod.mk.injEq] at h
      obtain ⟨rfl, rfl⟩ := h; simp

theorem of_readKids {rd : List W → Option (Nd × List W)} {d : Nat} (hrd : ∀ ws n r, rd ws = some (n, r) → ws = wordsN n ++ r ∧ ckNd n = 0 ∧ n.deep ≤ d) :
    ∀ {f : Nat} {ws : List W} {ks : List Nd} {r : List W}, readKids rd f ws = some (ks, r) → ws = wordsL ks ++ r ∧ ckKids ks = 0 ∧ deepL ks ≤ d
  | 0, _, _, _, h => by simp [readKids] at h
  | f + 1, [], ks, r, h => by
    simp only [readKids, Option.some.injEq, Prod.mk.injEq] at h
    obtain ⟨rfl, rfl⟩ := h
    simp [wordsL, ckKids, deepL]
  | f + 1, w :: ws, ks, r, h => by
    unfold readKids at h
    simp only [] at h
    split at h
    · simp only [Option.some.injEq, Prod.mk.injEq] at h
      obtain ⟨rfl, rfl⟩ := h
      simp [wordsL, ckKids, deepL]
    · split at h
      · cases h
      · rename_i k ws' hk
        split at h
        · cases h
        · rename_i ks' ws'' hks
          simp only [Option.some.injEq, Prod.mk.injEq] at h
          obtain ⟨rfl, rfl⟩ := h
          obtain ⟨e1, c1, d1⟩ := hrd _ _ _ hk
          obtain ⟨e2, c2, d2⟩ := of_readKids hrd hks
          refine ⟨?_, ?_, ?_⟩
          · rw [e1, e2]; simp [wordsL]
          · simp only [ckKids]; rw [if_pos c1]; exact c2
          · simp only [deepL]; exact Nat.max_le.2 ⟨d1, d2⟩

theorem of_readBody {rd : List W → Option (Nd × List W)} {d : Nat} (hrd : ∀ ws n r, rd ws = some (n, r) → ws = wordsN n ++ r ∧ ckNd n = 0 ∧ n.deep ≤ d) {k : Int} {fl : W} {no : Bool} {ws : List W} {n : Nd} {r : List W}
    (h : readBody rd k fl no ws = some (n, r)) : ∃ ks, n = .mk k At.zero fl no ks ∧ ws = wordsL ks ++ [41] :: r ∧ ckKids ks = 0 ∧ deepL ks ≤ d := by
  unfold readBody at h
  cases hk : readKids rd (ws.length + 1) ws with
  | none => rw [hk] at h; cases h
  | some q =>
    obtain ⟨ks, ws'⟩ := q
    rw [hk] at h
    obtain ⟨e1, c1, d1⟩ := of_readKids hrd hk
    unfold closeB at h
    cases ws' with
    | nil => cases h
    | cons w ws'' =>
      simp only [] at h
      split at h
      · rename_i hw
        simp only [Option.some.injEq, Prod.mk.injEq] at h
        obtain ⟨rfl, rfl⟩ := h
        subst hw
        exact ⟨ks, rfl, e1, c1, d1⟩
      · cases h
theorem of_openB {rd : List W → Option (Nd × List W)} {d : Nat} (hrd : ∀ ws n r, rd ws = some (n, r) → ws = wordsN n ++ r ∧ ckNd n = 0 ∧ n.deep ≤ d) {k : Int} {fl : W} {no : Bool} {ws : List W} {n : Nd} {r : List W}
    (h : openB rd k fl no ws = some (n, r)) : ∃ ks, n = .mk k At.zero fl no ks ∧ ws = [40] :: (wordsL ks ++ [41] :: r) ∧ ckKids ks = 0 ∧ deepL ks ≤ d := by
  cases ws with
  | nil => cases h
  | cons w ws' =>
    have h' : (if w = [40] then readBody rd k fl no ws' else none) = some (n, r) := h
    by_cases hw : w = [40]
    · rw [if_pos hw] at h'
      obtain ⟨ks, e0, e1, e2⟩ := of_readBody hrd h'
      exact ⟨ks, e0, by rw [hw, e1], e2⟩
    · rw [if_neg hw] at h'; cases h'

theorem of_readN : ∀ (d : Nat) (ws : List W) (n : Nd) (r : List W), readN d ws = some (n, r) → ws = wordsN n ++ r ∧ ckNd n = 0 ∧ n.deep ≤ d
  | 0, _, _, _, h => by cases h
  | d + 1, ws, n, r, h => by
    have hrd := of_readN d
    have hne : ws ≠ [] := by
      rintro rfl
      have h' : readS (readN d) [] [] = some (n, r) := h
      clear h
      have h := h'
      rw [readS, if_neg (by simp), if_neg (by simp), if_neg (by simp)] at h
      unfold leafB at h
      by_cases h0 : (parseAt []).2 = 0
      · obtain ⟨h1, h2⟩ := leaf_of_parse h0 rfl
        obtain ⟨c, r, e, _⟩ := text_ne h1
        rw [h2] at e; cases e
      · have h' : (if (parseAt []).2 = 0 then _ else none) = some (n, r) := h
        rw [if_neg h0] at h'; cases h'
    cases ws with
    | nil => exact absurd rfl hne
    | cons s t =>
      rw [readN_cons] at h
      unfold readS at h
      split at h
      · rename_i hs
        obtain ⟨ks, rfl, e1, e2, e3⟩ := of_readBody hrd h
        refine ⟨?_, ?_, by simp only [Nd.deep]; omega⟩
        · rw [hs, e1]; simp [wordsN, headW]
        · simp [ckNd, leafK, e2]
      · split at h
        · rename_i hs
          obtain ⟨ks, rfl, e1, e2, e3⟩ := of_openB hrd h
          refine ⟨?_, ?_, by simp only [Nd.deep]; omega⟩
          · rw [hs, e1]; simp [wordsN, headW]
          · simp [ckNd, leafK, e2]
        · split at h
          · rename_i hs
            split at h
            · rename_i hn
              obtain ⟨ks, rfl, e1, e2, e3⟩ := of_openB hrd h
              have hc := cut_bang (s := s.dropLast) (t := (cutBang s.dropLast).1) (b := (cutBang s.dropLast).2) rfl
              have hsd : s = s.dropLast ++ [63] := by
                cases s with
                | nil => simp at hs
                | cons x y =>
                  have h1 := List.dropLast_concat_getLast (l := x :: y) (by simp)
                  rw [List.getLast?_eq_some_getLast (by simp)] at hs
                  simp only [Option.some.injEq] at hs
                  rw [hs] at h1
                  exact h1.symm
              refine ⟨?_, ?_, by simp only [Nd.deep]; omega⟩
              · simp only [wordsN, headW, show ((5 : Int) = 1) = False by simp, show ((5 : Int) = 2) = False by simp, show ((5 : Int) = 4) = False by simp, if_false, if_true]
                rw [e1]
                simp only [List.cons_append, List.nil_append, List.append_assoc]
                congr 1
                generalize (cutBang s.dropLast).1 = q1 at *
                generalize (cutBang s.dropLast).2 = q2 at *
                rw [hsd, hc]
                cases q2 <;> simp
              · simp [ckNd, leafK, e2, hn]
            · cases h
          · unfold leafB at h
            split at h
            · rename_i h0
              simp only [Option.some.injEq, Prod.mk.injEq] at h
              obtain ⟨rfl, rfl⟩ := h
              obtain ⟨h1, h2⟩ := leaf_of_parse h0 rfl
              have hc := cut_bang (s := s) (t := (cutBang s).1) (b := (cutBang s).2) rfl
              generalize (cutBang s).1 = q1 at *
              generalize (cutBang s).2 = q2 at *
              refine ⟨?_, ?_, by simp [Nd.deep, deepL]⟩
              · cases q2
                · simp [wordsN, prAtom, h1, h2, hc]
                · simp [wordsN, prAtom, h1, h2, hc]
              · cases q2 <;> simp [ckNd, leafK, h1]
            · cases h

theorem wordsN_plain : ∀ {n : Nd}, ckNd n = 0 → ∀ w ∈ wordsN n, ∀ x ∈ w, x ≠ 32 ∧ x ≠ 10 := by
  refine fun {n} => Nd.ind (P := fun n => ckNd n = 0 → ∀ w ∈ wordsN n, ∀ x ∈ w, x ≠ 32 ∧ x ≠ 10) (fun k a f no ks ih => ?_) n
  intro h w hw x hx
  have hL : ∀ {l : List Nd}, (∀ y ∈ l, ∀ w ∈ wordsN y, ∀ x ∈ w, x ≠ 32 ∧ x ≠ 10) → ∀ w ∈ wordsL l, ∀ x ∈ w, x ≠ 32 ∧ x ≠ 10 := by
    intro l
    induction l with
    | nil => intro _ w hw; cases hw
    | cons y l ihl =>
      intro hl w hw
      simp only [wordsL] at hw
      rcases List.mem_append.1 hw with hw | hw
      · exact hl y (List.mem_cons_self ..) w hw
      · exact ihl (fun z hz => hl z (List.mem_cons_of_mem _ hz)) w hw
  have hp : ∀ {c : UInt8}, plainB c = true → c ≠ 32 ∧ c ≠ 10 := fun hc => ⟨plain_ne hc rfl, plain_ne hc rfl⟩
  unfold ckNd at h
  split at h
  · cases h
  split at h
  · cases h
  split at h
  · cases h
  split at h
  · cases h
  split at h
  · cases h
  rename_i h1 h2 h3 h4 h5
  by_cases hl : leafK k = true
  · rw [if_pos hl] at h
    have hk : k = 1 ∨ k = 2 := by simpa [leafK] using hl
    unfold wordsN at hw
    rcases hk with rfl | rfl
    · simp [prAtom, h] at hw; subst hw
      exact hp (text_plain h x hx)
    · simp [prAtom, h] at hw; subst hw
      rcases List.mem_cons.1 hx with rfl | hx
      · decide
      · exact hp (text_plain h x hx)
  · rw [if_neg hl] at h
    have hk : k = 3 ∨ k = 4 ∨ k = 5 := by simp [leafK] at hl; omega
    unfold wordsN at hw
    rw [if_neg (by omega), if_neg (by omega)] at hw
    rcases List.mem_append.1 hw with hw | hw
    · unfold headW at hw
      rcases hk with rfl | rfl | rfl
      · simp at hw
      · simp at hw; subst hw; simp at hx; subst hx; decide
      · simp at hw; subst hw
        have hn : isName f = true := by
          cases e : isName f
          · exact absurd ⟨rfl, e⟩ h5
          · rfl
        rcases List.mem_append.1 hx with hx | hx
        · cases no <;> simp at hx; subst hx; decide
        · rcases List.mem_append.1 hx with hx | hx
          · exact hp (name_plain hn x hx)
          · simp at hx; subst hx; decide
    · rcases List.mem_cons.1 hw with rfl | hw
      · simp at hx; subst hx; decide
      · rcases List.mem_append.1 hw with hw | hw
        · exact hL (fun y hy => ih y hy (ckKids_zero.1 h y hy)) w hw x hx
        · simp at hw; subst hw; simp at hx; subst hx; decide

/-! ### how long it is -/
def fullLen (ws : List W) : Nat := (ws.map fun w => w.length + 1).sum
theorem join_len (c : UInt8) : ∀ (ws : List W), (joinB c ws).length ≤ fullLen ws
  | [] => Nat.zero_le _
  | [w] => by simp [joinB, fullLen]
  | w :: v :: r => by
    have ih := join_len c (v :: r)
    rw [join_cons (by simp)]
    have : fullLen (w :: v :: r) = w.length + 1 + fullLen (v :: r) := by simp [fullLen]
    rw [this]; simp; omega
theorem full_append (a b : List W) : fullLen (a ++ b) = fullLen a + fullLen b := by simp [fullLen]
theorem words_len : ∀ {n : Nd}, ckNd n = 0 → fullLen (wordsN n) ≤ 200 * n.nodes := by
  refine fun {n} => Nd.ind (P := fun n => ckNd n = 0 → fullLen (wordsN n) ≤ 200 * n.nodes) (fun k a f no ks ih => ?_) n
  intro h
  have hL : ∀ {l : List Nd}, (∀ y ∈ l, fullLen (wordsN y) ≤ 200 * y.nodes) → fullLen (wordsL l) ≤ 200 * nodesL l := by
    intro l
    induction l with
    | nil => intro _; simp [wordsL, fullLen, nodesL]
    | cons y l ihl =>
      intro hl
      have h1 := hl y (List.mem_cons_self ..)
      have h2 := ihl fun z hz => hl z (List.mem_cons_of_mem _ hz)
      simp only [wordsL, nodesL, full_append]; omega
  unfold ckNd at h
  split at h
  · cases h
  split at h
  · cases h
  split at h
  · cases h
  split at h
  · cases h
  split at h
  · cases h
  rename_i h1 h2 h3 h4 h5
  by_cases hl : leafK k = true
  · rw [if_pos hl] at h
    have ht := textOf_len (atOk h)
    have hk : k = 1 ∨ k = 2 := by simpa [leafK] using hl
    unfold wordsN
    rcases hk with rfl | rfl <;> simp [prAtom, h, fullLen, Nd.nodes] <;> omega
  · rw [if_neg hl] at h
    have hk : k = 3 ∨ k = 4 ∨ k = 5 := by simp [leafK] at hl; omega
    have hd : fullLen (headW k f no) ≤ 20 := by
      unfold headW
      rcases hk with rfl | rfl | rfl
      · simp [fullLen]
      · simp [fullLen]
      · have hn : isName f = true := by
          cases e : isName f
          · exact absurd ⟨rfl, e⟩ h5
          · rfl
        have := isName_len hn
        cases no <;> simp [fullLen] <;> omega
    have hr := hL fun y hy => ih y hy (ckKids_zero.1 h y hy)
    unfold wordsN
    rw [if_neg (by omega), if_neg (by omega)]
    have : headW k f no ++ [40] :: (wordsL ks ++ [[41]]) = headW k f no ++ ([[40]] ++ (wordsL ks ++ [[41]])) := rfl
    rw [this, full_append, full_append, full_append]
    have e1 : fullLen [[40]] = 2 := rfl
    have e2 : fullLen [[41]] = 2 := rfl
    simp only [Nd.nodes]; omega

theorem ckNeed_zero {n : Nd} (h : ckNeed n = 0) : n.deep ≤ 4 ∧ n.nodes ≤ 20 ∧ ckNd n = 0 := by
  unfold ckNeed at h
  split at h
  · cases h
  · rename_i h1
    unfold tooMany at h1
    exact ⟨by omega, by omega, h⟩
theorem ndText_len {n : Nd} (h : ckNeed n = 0) : (ndText n).length ≤ 4000 := by
  obtain ⟨_, h2, h3⟩ := ckNeed_zero h
  have := join_len 32 (wordsN n)
  have := words_len h3
  unfold ndText; omega

theorem parseNd_text {n : Nd} (h : ckNeed n = 0) : parseNd (ndText n) = (n, 0) := by
  obtain ⟨h1, h2, h3⟩ := ckNeed_zero h
  have hl := ndText_len h
  unfold parseNd
  rw [if_neg (by omega)]
  unfold ndText
  rw [split_join (words_ne n) fun w hw x hx => (wordsN_plain h3 w hw x hx).1]
  have := readN_words n 4 h3 h1 []
  rw [List.append_nil] at this
  rw [this]
  simp [toldNd, finNd, h]
theorem parseNd_back {l : W} {n : Nd} (h : parseNd l = (n, 0)) : ckNeed n = 0 ∧ ndText n = l := by
  unfold parseNd at h
  split at h
  · simp at h
  · unfold toldNd at h
    split at h
    · rename_i m hm
      unfold finNd at h
      split at h
      · rename_i hk
        simp only [Prod.mk.injEq, and_true] at h
        subst h
        refine ⟨hk, ?_⟩
        obtain ⟨e, _, _⟩ := of_readN _ _ _ _ hm
        rw [List.append_nil] at e
        unfold ndText
        rw [← e]
        exact join_split l []
      · rename_i hk
        simp only [Prod.mk.injEq] at h
        exact absurd h.2 hk
    · simp at h
theorem ndText_inj {a b : Nd} (ha : ckNeed a = 0) (hb : ckNeed b = 0) (h : ndText a = ndText b) : a = b := by
  have h1 := parseNd_text ha
  have h2 := parseNd_text hb
  rw [h] at h1
  rw [h1] at h2
  exact (Prod.mk.inj h2).1
end Qm
