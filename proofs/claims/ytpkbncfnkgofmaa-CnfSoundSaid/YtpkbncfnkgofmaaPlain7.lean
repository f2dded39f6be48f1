/- Plain: what CnfSound and CnfMore say of folOk, folErr, folL. -/
import Derived.Test.YtpkbncfnkgofmaaW18
import Derived.Test.YtpkbncfnkgofmaaW22
import Derived.Test.YtpkbncfnkgofmaaW15
import Derived.Test.YtpkbncfnkgofmaaPlain6
namespace Go.Proofs.Ytpkbncfnkgofmaa
open Go.RowKit
theorem any_eqTo {l : List Int} {x : Int} : l.any (eqTo x) = true ↔ x ∈ l := by
  rw [List.any_eq_true]
  constructor
  · rintro ⟨y, hy, h⟩
    unfold eqTo at h
    have : x = y := by simpa using h
    rw [this]; exact hy
  · intro h; exact ⟨x, h, by unfold eqTo; simp⟩
theorem ckLits_good {N : Nat} {l : List Int} (h : ∀ x ∈ l, Qm.IsLit N x) : ckLits l (N : Int) = 0 := by
  unfold ckLits
  rw [if_neg]
  intro h2
  obtain ⟨x, hx, hb⟩ := List.any_eq_true.1 h2
  have h3 := h x hx
  have h4 := h3.1
  have h5 := h3.2
  rw [badLit_no (by omega)] at hb
  cases hb
theorem folV_ok {N : Nat} {cs : List (List Int)} {asm : List Int} (hE : folErr (N : Int) cs asm = 0) : folV (N : Int) cs asm = Qm.followsV N cs asm := by
  unfold folV; rw [if_neg (by rw [hE]; simp)]; rfl
theorem folL_lits {N : Nat} {cs : List (List Int)} {asm : List Int} (hc : ∀ c ∈ cs, Qm.IsCl N c) (hl : ∀ x ∈ asm, Qm.IsLit N x) (hE : folErr (N : Int) cs asm = 0) : (∀ x ∈ folL (N : Int) cs asm, Qm.IsLit N x) ∧ (folL (N : Int) cs asm).length ≤ N := by
  unfold folL
  rw [folV_ok hE]
  cases h : Qm.followsV N cs asm with
  | none => exact ⟨fun x hx => absurd hx List.not_mem_nil, Nat.zero_le _⟩
  | some v => exact ⟨fun x hx => ((Qm.litsTo_mem (Qm.fol_parts hc hl h).2.1 (Nat.le_refl N) x).1 hx).1, Qm.litsTo_len v N⟩
theorem fol_snd {N : Nat} {cs : List (List Int)} {asm : List Int} {m : List Bool} (hc : ∀ c ∈ cs, Qm.IsCl N c) (hl : ∀ x ∈ asm, Qm.IsLit N x) (hE : folErr (N : Int) cs asm = 0)
    (hh : Qm.holdsF m cs = true) (ha : asm.any (fun x => !Qm.litHolds m x) = false) : folOk (N : Int) cs asm = true ∧ (folL (N : Int) cs asm).any (fun x => !Qm.litHolds m x) = false := by
  obtain ⟨v, e, h⟩ := Qm.fol_sound (m := m) hc hh (show ∀ n ∈ asm, Qm.IsLit N n ∧ Qm.litHolds m n = true from fun n hn => ⟨hl n hn, by simpa using List.any_eq_false.1 ha n hn⟩)
  unfold folOk folL
  rw [folV_ok hE, e]
  refine ⟨rfl, List.any_eq_false.2 fun x hx => ?_⟩
  have := h x hx
  simp [this]
theorem fol_has_ {N : Nat} {cs : List (List Int)} {asm : List Int} (hc : ∀ c ∈ cs, Qm.IsCl N c) (hl : ∀ x ∈ asm, Qm.IsLit N x) (hE : folErr (N : Int) cs asm = 0)
    (hk : folOk (N : Int) cs asm = true) : asm.any (fun x => !(folL (N : Int) cs asm).any (eqTo x)) = false := by
  unfold folOk at hk
  unfold folL
  rw [folV_ok hE] at hk ⊢
  cases e : Qm.followsV N cs asm with
  | none => rw [e] at hk; cases hk
  | some v =>
    refine List.any_eq_false.2 fun x hx => ?_
    have := any_eqTo.2 (Qm.fol_has hc hl e x hx)
    show ¬ ((!(Qm.litsTo v N).any (eqTo x)) = true)
    rw [this]; decide
theorem fol_again_ {N : Nat} {cs : List (List Int)} {asm : List Int} (hN : N ≤ 400) (hc : ∀ c ∈ cs, Qm.IsCl N c) (hl : ∀ x ∈ asm, Qm.IsLit N x) (hck : ckFormula (N : Int) cs = 0) (hE : folErr (N : Int) cs asm = 0)
    (hk : folOk (N : Int) cs asm = true) : folErr (N : Int) cs (folL (N : Int) cs asm) = 0 ∧ folOk (N : Int) cs (folL (N : Int) cs asm) = true ∧ folL (N : Int) cs (folL (N : Int) cs asm) = folL (N : Int) cs asm := by
  obtain ⟨h1, h2⟩ := folL_lits hc hl hE
  have hE2 : folErr (N : Int) cs (folL (N : Int) cs asm) = 0 := by
    unfold folErr; rw [if_neg (by rw [hck]; simp), if_neg (by omega)]; exact ckLits_good h1
  have hV2 := folV_ok hE2
  have hL : ∀ v, Qm.followsV N cs asm = some v → folL (N : Int) cs asm = Qm.litsTo v N := fun v e => by unfold folL; rw [folV_ok hE, e]; rfl
  refine ⟨hE2, ?_⟩
  unfold folOk at hk
  rw [folV_ok hE] at hk
  cases e : Qm.followsV N cs asm with
  | none => rw [e] at hk; cases hk
  | some v =>
    have hv := hL v e
    have := Qm.fol_again hc hl e
    rw [← hv] at this
    rw [this] at hV2
    unfold folOk
    refine ⟨by rw [hV2]; rfl, ?_⟩
    show (match folV (N : Int) cs (folL (N : Int) cs asm) with | none => [] | some v => Qm.litsTo v (N : Int).toNat) = _
    rw [hV2, hv]; rfl
end Go.Proofs.Ytpkbncfnkgofmaa
