import Derived.Test.YtnkmonmkhmcgaaaGreatDoorAPlain
namespace Qm
open Go

/-! What is printed is read, and what is read is printed as it was. -/

theorem lowdig {c : UInt8} (h : lowB c = true ∨ digB c = true) : signB c = false ∧ (c == 58) = false ∧ opB c = false := by
  have h' : (97 ≤ c.toNat ∧ c.toNat ≤ 122) ∨ (48 ≤ c.toNat ∧ c.toNat ≤ 57) := by
    simpa [lowB, digB] using h
  have k : ∀ d : UInt8, d.toNat < 48 ∨ (57 < d.toNat ∧ d.toNat < 97) → (c == d) = false := by
    intro d hd
    rw [beq_eq_false_iff_ne]
    rintro rfl
    omega
  refine ⟨?_, k 58 (by decide), ?_⟩
  · unfold signB; rw [k 43 (by decide), k 45 (by decide)]; rfl
  · unfold opB; rw [k 61 (by decide), k 60 (by decide), k 62 (by decide)]; rfl

structure AtOk (a : At) : Prop where
  nm : isName a.nm = true
  fl : a.fl ≠ [] → isName a.fl = true
  op : 0 ≤ a.op ∧ a.op ≤ 3
  slot : 0 ≤ a.slot ∧ a.slot ≤ 9
  none : a.op = 0 → a.ver = 0
  some : a.op ≠ 0 → 1 ≤ a.ver ∧ a.ver ≤ 99
  on : a.fl = [] → a.on = false

theorem atOk {a : At} (h : ckAtom a = 0) : AtOk a := by
  unfold ckAtom at h
  split at h
  · simp at h
  rename_i h1
  split at h
  · simp at h
  rename_i h2
  split at h
  · simp at h
  rename_i h3
  split at h
  · simp at h
  rename_i h4
  refine ⟨?_, ?_, by omega, by omega, by omega, by omega, ?_⟩
  · cases e : isName a.nm
    · exact absurd (.inl e) h1
    · rfl
  · intro e
    cases e' : isName a.fl
    · exact absurd (.inr ⟨e, e'⟩) h1
    · rfl
  · intro e
    cases e' : a.on
    · rfl
    · exact absurd ⟨e, e'⟩ h4

theorem number_nat {n : Int} (h0 : 0 ≤ n) (h : n ≤ 99) : number (Lib.itoa n) = some n := number_itoa h0 h

def opPart (a : At) : List UInt8 := if a.op ≠ 0 then opText a.op ++ Lib.itoa a.ver else []
def slotPart (a : At) : List UInt8 := if 0 < a.slot then 58 :: Lib.itoa a.slot else []

theorem opPart_mem {a : At} (h : AtOk a) : ∀ c ∈ opPart a, signB c = false ∧ (c == 58) = false := by
  intro c hc
  unfold opPart at hc
  split at hc
  · rename_i h0
    have hv := h.some h0
    rcases List.mem_append.1 hc with hc | hc
    · have : c = 61 ∨ c = 62 ∨ c = 60 := by
        unfold opText at hc
        split at hc
        · simp at hc; exact .inl hc
        · split at hc
          · simp at hc; rcases hc with hc | hc
            · exact .inr (.inl hc)
            · exact .inl hc
          · split at hc
            · simp at hc; exact .inr (.inr hc)
            · cases hc
      rcases this with rfl | rfl | rfl <;> decide
    · have := lowdig (.inr (itoa_mem (by omega) c hc))
      exact ⟨this.1, this.2.1⟩
  · cases hc

theorem slotPart_mem {a : At} (h : AtOk a) : ∀ c ∈ slotPart a, signB c = false := by
  intro c hc
  unfold slotPart at hc
  split at hc
  · rcases List.mem_cons.1 hc with rfl | hc
    · decide
    · exact (lowdig (.inr (itoa_mem (by omega) c hc))).1
  · cases hc

theorem parseOp_text {a : At} (h : AtOk a) (hk : ckAtom a = 0) : parseOp (a.nm ++ opPart a) a.fl a.on a.slot = (a, 0) := by
  have hn : ∀ c ∈ a.nm, opB c = false := fun c hc => (lowdig (isName_mem h.nm c hc)).2.2
  have hf : fin a = (a, 0) := by unfold fin; rw [if_pos hk]
  unfold opPart
  by_cases h0 : a.op = 0
  · rw [if_neg (by simp [h0])]
    unfold parseOp
    rw [List.append_nil, cutAt_none hn]
    have : (⟨a.nm, 0, 0, a.slot, a.fl, a.on⟩ : At) = a := by
      have e1 := h.none h0
      cases a; simp_all
    simp only [this, hf]
  · rw [if_pos h0]
    have hv := h.some h0
    have hop : a.op = 1 ∨ a.op = 2 ∨ a.op = 3 := by have := h.op; omega
    have hnum := number_nat (n := a.ver) (by omega) (by omega)
    rcases hop with e | e | e
    · have : (⟨a.nm, 1, a.ver, a.slot, a.fl, a.on⟩ : At) = a := by cases a; simp_all
      unfold parseOp
      simp only [e, opText, if_true, List.cons_append, List.nil_append]
      rw [cutAt_some (by decide) hn]
      simp [opNum, hnum, this, hf]
    · have : (⟨a.nm, 2, a.ver, a.slot, a.fl, a.on⟩ : At) = a := by cases a; simp_all
      unfold parseOp
      simp only [e, opText, show ((2 : Int) = 1) = False by simp, if_false, if_true, List.cons_append, List.nil_append]
      rw [cutAt_some (by decide) hn]
      simp [opNum, hnum, this, hf]
    · have : (⟨a.nm, 3, a.ver, a.slot, a.fl, a.on⟩ : At) = a := by cases a; simp_all
      unfold parseOp
      simp only [e, opText, show ((3 : Int) = 1) = False by simp, show ((3 : Int) = 2) = False by simp, if_false, if_true, List.cons_append, List.nil_append]
      rw [cutAt_some (by decide) hn]
      simp [opNum, hnum, this, hf]

theorem parseSlot_text {a : At} (h : AtOk a) (hk : ckAtom a = 0) : parseSlot (a.nm ++ opPart a ++ slotPart a) a.fl a.on = (a, 0) := by
  have hn : ∀ c ∈ a.nm ++ opPart a, (c == 58) = false := by
    intro c hc
    rcases List.mem_append.1 hc with hc | hc
    · exact (lowdig (isName_mem h.nm c hc)).2.1
    · exact (opPart_mem h c hc).2
  have hp := parseOp_text h hk
  unfold slotPart
  have hs := h.slot
  by_cases h0 : 0 < a.slot
  · rw [if_pos h0]
    unfold parseSlot
    rw [cutAt_some (by decide) hn]
    simp only [number_nat (n := a.slot) (by omega) (by omega)]
    rw [if_neg (by omega), hp]
  · rw [if_neg h0, List.append_nil]
    unfold parseSlot
    rw [cutAt_none hn]
    have : a.slot = 0 := by omega
    rw [this] at hp
    exact hp

theorem textOf_len {a : At} (h : AtOk a) : (textOf a).length ≤ 100 := by
  have h1 := isName_len h.nm
  have h2 : (opPart a).length ≤ 10 := by
    unfold opPart
    split
    · rename_i h0
      have := itoa_len (n := a.ver) (by have := h.some h0; omega) (by have := h.some h0; omega)
      have : (opText a.op).length ≤ 2 := by unfold opText; split; · simp
                                            split; · simp
                                            split <;> simp
      simp; omega
    · simp
  have h3 : (slotPart a).length ≤ 10 := by
    unfold slotPart
    split
    · have := itoa_len (n := a.slot) (by have := h.slot; omega) (by have := h.slot; omega)
      simp; omega
    · simp
  have h4 : (if a.fl ≠ [] then (if a.on then (43 : UInt8) else 45) :: a.fl else []).length ≤ 10 := by
    split
    · rename_i h0
      have := isName_len (h.fl h0)
      simp; omega
    · simp
  show (a.nm ++ opPart a ++ slotPart a ++ _).length ≤ 100
  simp only [List.length_append]
  omega

theorem parse_text {a : At} (hk : ckAtom a = 0) : parseAt (textOf a) = (a, 0) := by
  have h := atOk hk
  have hl := textOf_len h
  unfold parseAt
  rw [if_neg (by omega)]
  have hn : ∀ c ∈ a.nm ++ opPart a ++ slotPart a, signB c = false := by
    intro c hc
    rcases List.mem_append.1 hc with hc | hc
    · rcases List.mem_append.1 hc with hc | hc
      · exact (lowdig (isName_mem h.nm c hc)).1
      · exact (opPart_mem h c hc).1
    · exact slotPart_mem h c hc
  have hp := parseSlot_text h hk
  show parseFew (a.nm ++ opPart a ++ slotPart a ++ _) = _
  by_cases h0 : a.fl = []
  · rw [if_neg (by simp [h0]), List.append_nil]
    unfold parseFew
    rw [cutAt_none hn]
    have e := h.on h0
    rw [h0, e] at hp
    exact hp
  · rw [if_pos h0]
    unfold parseFew
    cases e : a.on
    · rw [if_neg (by simp), cutAt_some (by decide) hn]
      simp only [h0, if_false]
      rw [e] at hp
      exact hp
    · rw [if_pos rfl, cutAt_some (by decide) hn]
      simp only [h0, if_false]
      rw [e] at hp
      exact hp

/-! And back. -/

theorem of_fin {a x : At} (h : fin a = (x, 0)) : x = a ∧ ckAtom a = 0 := by
  unfold fin at h
  split at h
  · rename_i hk
    exact ⟨(Prod.mk.inj h).1.symm, hk⟩
  · rename_i hk
    exact absurd (Prod.mk.inj h).2 hk

theorem not_bad {x : At} : ¬ badAt = (x, 0) := by
  intro h
  have := (Prod.mk.inj h).2
  simp at this

theorem of_parseOp {l fl : List UInt8} {on : Bool} {slot : Int} {x : At} (h : parseOp l fl on slot = (x, 0)) :
    ckAtom x = 0 ∧ x.slot = slot ∧ x.fl = fl ∧ x.on = on ∧ x.nm ++ opPart x = l := by
  unfold parseOp at h
  split at h
  · obtain ⟨rfl, hk⟩ := of_fin h
    exact ⟨hk, rfl, rfl, rfl, by simp [opPart]⟩
  · rename_i a c d hc
    obtain ⟨e, hp, _⟩ := of_cutAt_some hc
    split at h
    · rename_i o v ho
      obtain ⟨rfl, hk⟩ := of_fin h
      refine ⟨hk, rfl, rfl, rfl, ?_⟩
      rw [e]
      congr 1
      unfold opNum at ho
      split at ho
      · rename_i hc1
        cases hn : number d with
        | none => rw [hn] at ho; cases ho
        | some w =>
          rw [hn] at ho
          simp only [Option.map_some, Option.some.injEq, Prod.mk.injEq] at ho
          obtain ⟨rfl, rfl⟩ := ho
          have := of_number hn
          simp [opPart, opText, this, hc1]
      · split at ho
        · rename_i hc1
          cases hn : number d with
          | none => rw [hn] at ho; cases ho
          | some w =>
            rw [hn] at ho
            simp only [Option.map_some, Option.some.injEq, Prod.mk.injEq] at ho
            obtain ⟨rfl, rfl⟩ := ho
            have := of_number hn
            simp [opPart, opText, this, hc1]
        · rename_i hc1 hc2
          have hc3 : c = 62 := by
            have : (c == 61) = false := by simpa using hc1
            have : (c == 60) = false := by simpa using hc2
            simpa [opB, *] using hp
          cases d with
          | nil => cases ho
          | cons y r =>
            simp only [] at ho
            split at ho
            · rename_i hy
              cases hn : number r with
              | none => rw [hn] at ho; cases ho
              | some w =>
                rw [hn] at ho
                simp only [Option.map_some, Option.some.injEq, Prod.mk.injEq] at ho
                obtain ⟨rfl, rfl⟩ := ho
                have := of_number hn
                simp [opPart, opText, this, hc3, hy]
            · cases ho
    · exact absurd h not_bad

theorem of_parseSlot {l fl : List UInt8} {on : Bool} {x : At} (h : parseSlot l fl on = (x, 0)) :
    ckAtom x = 0 ∧ x.fl = fl ∧ x.on = on ∧ x.nm ++ opPart x ++ slotPart x = l := by
  unfold parseSlot at h
  split at h
  · obtain ⟨h1, h2, h3, h4, h5⟩ := of_parseOp h
    refine ⟨h1, h3, h4, ?_⟩
    rw [h5]
    simp [slotPart, h2]
  · rename_i a c d hc
    obtain ⟨e, hp, _⟩ := of_cutAt_some hc
    split at h
    · rename_i n hn
      split at h
      · exact absurd h not_bad
      · rename_i hn0
        obtain ⟨h1, h2, h3, h4, h5⟩ := of_parseOp h
        refine ⟨h1, h3, h4, ?_⟩
        have hs := (atOk h1).slot
        have hp' : c = 58 := by simpa using hp
        rw [h5, e]
        unfold slotPart
        rw [if_pos (by omega), h2, of_number hn, hp']
    · exact absurd h not_bad

theorem parse_back {l : List UInt8} {x : At} (h : parseAt l = (x, 0)) : ckAtom x = 0 ∧ textOf x = l := by
  unfold parseAt at h
  split at h
  · have := (Prod.mk.inj h).2
    simp at this
  · unfold parseFew at h
    split at h
    · obtain ⟨h1, h2, h3, h4⟩ := of_parseSlot h
      refine ⟨h1, ?_⟩
      show x.nm ++ opPart x ++ slotPart x ++ _ = l
      rw [h4, h2]
      simp
    · rename_i a c d hc
      obtain ⟨e, hp, _⟩ := of_cutAt_some hc
      split at h
      · exact absurd h not_bad
      · rename_i hd
        obtain ⟨h1, h2, h3, h4⟩ := of_parseSlot h
        refine ⟨h1, ?_⟩
        show x.nm ++ opPart x ++ slotPart x ++ _ = l
        rw [h4, h2, h3, e, if_pos hd]
        congr 2
        have hp' : c = 43 ∨ c = 45 := by simpa [signB] using hp
        rcases hp' with rfl | rfl <;> rfl

theorem text_inj {a b : At} (ha : ckAtom a = 0) (hb : ckAtom b = 0) (h : textOf a = textOf b) : a = b := by
  have h1 := parse_text ha
  have h2 := parse_text hb
  rw [h] at h1
  rw [h1] at h2
  exact (Prod.mk.inj h2).1

end Qm
