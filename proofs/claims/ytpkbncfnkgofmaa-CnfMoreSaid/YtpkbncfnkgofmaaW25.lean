/- CnfMore's closure; what CnfMore says, plain. -/
import Derived.Test.YtpkbncfnkgofmaaW23
import Derived.Test.YtpkbncfnkgofmaaW24
import Derived.Test.YtpkbncfnkgofmaaPlain7
namespace Go.Proofs.Ytpkbncfnkgofmaa
open Go.RowKit
theorem callFuncM1 (args : Array Value) (W : World) : (callFunc 44 args).run Try.prog W = .ok (.enter 44 args) W := by kernel_rfl
set_option maxHeartbeats 1000000 in
theorem moreNot_any (x : Int) (bl : Nat) (Al : Option Addr) (nl cl : Nat) (l : List Int) (w : World) (S : Nat → Prop) (hc : w.cell? ⟨bl, 0, none⟩ = some (.slice Al nl cl)) (hl : RInts w S Al nl l) (hn : nl ≤ maxLen) :
    Calls Try.prog 44 #[.int .i64 x, .pointer (some ⟨bl, 0, none⟩)] w fun e w' => e = .returned (.bool (!l.any (eqTo x))) ∧ ∃ q, w' = w.drewN q := by
  have Hcall := Lib.hid (contains_any Al nl cl l x w S hl hn)
  generalize hv : l.any (eqTo x) = v at Hcall
  have Hv := Lib.hid hv
  clear hv hl
  go_enter Try.func44, Try.ntmps44
  go_wp2_with fail
  refine Hcall.out.mono ?_
  rintro e w' ⟨rfl, q, rfl⟩
  go_wp2_with fail
  go_ret
  exact ⟨rfl, _, rfl⟩
theorem moreAll_any (A : Option Addr) (n c : Nat) (xs : List Int) (bl : Nat) (Al : Option Addr) (nl cl : Nat) (l : List Int) (w : World) (S T : Nat → Prop) (hc : w.cell? ⟨bl, 0, none⟩ = some (.slice Al nl cl)) (hl : RInts w S Al nl l) (hx : RInts w T A n xs) (hn : nl ≤ maxLen) (hn' : n ≤ maxLen) :
    Calls Try.prog 28 #[.slice A n c, .func (.func 44) #[] #[.pointer (some ⟨bl, 0, none⟩)]] w fun e w' => e = .returned (.bool (xs.any (fun x => !l.any (eqTo x)))) ∧ ∃ q, w' = w.drewN q :=
  containsFunc_any A n c xs 44 #[.pointer (some ⟨bl, 0, none⟩)] (fun x => !l.any (eqTo x)) w T hx hn' ⟨callFuncM1, fun x _ d => (moreNot_any x bl Al nl cl l (w.drewN d) S hc hl hn).mono fun e w' h => ⟨h.1, by obtain ⟨q, h⟩ := h.2; exact ⟨d + q, by rw [h, drewN_drewN]⟩⟩⟩
theorem folErr_ok {vars : Int} {cs : List (List Int)} {asm : List Int} (hE : folErr vars cs asm = 0) : ∃ N : Nat, vars = N ∧ N ≤ 400 ∧ cs.length ≤ 4000 ∧ (∀ c ∈ cs, Qm.IsCl N c) ∧ (∀ x ∈ asm, Qm.IsLit N x) ∧ asm.length ≤ 400 ∧ ckFormula vars cs = 0 := by
  unfold folErr at hE
  split at hE
  · rename_i h; exact absurd hE h
  · rename_i h
    have hck : ckFormula vars cs = 0 := by simpa using h
    obtain ⟨N, rfl, hN, hl, hc⟩ := ckFormula_ok hck
    split at hE
    · omega
    · exact ⟨N, rfl, hN, hl, fun c hcc => (hc c hcc).1, ckLits_ok hE, by omega, hck⟩
theorem fol_more_ {vars : Int} {cs : List (List Int)} {asm c : List Int} {x : Int} (hE : folErr vars cs asm = 0) (hH : folErr vars (cs ++ [c]) (asm ++ [x]) = 0) (hK : folOk vars (cs ++ [c]) (asm ++ [x]) = true) :
    folOk vars cs asm = true ∧ (folL vars cs asm).any (fun y => !(folL vars (cs ++ [c]) (asm ++ [x])).any (eqTo y)) = false := by
  obtain ⟨N, rfl, hN, _, hc, hl, _⟩ := folErr_ok hE
  obtain ⟨_, he, _, _, hc', hl', _⟩ := folErr_ok hH
  obtain rfl := Int.ofNat.inj he
  have hV := folV_ok hH
  have hV1 := folV_ok hE
  unfold folOk at hK
  rw [hV] at hK
  cases e : Qm.followsV N (cs ++ [c]) (asm ++ [x]) with
  | none => rw [e] at hK; cases hK
  | some v =>
    obtain ⟨u, hu, hm⟩ := Qm.fol_more hc' hl' e
    rw [e] at hV
    rw [hu] at hV1
    have e1 : folL (N : Int) cs asm = Qm.litsTo u N := by unfold folL; rw [hV1]; rfl
    have e2 : folL (N : Int) (cs ++ [c]) (asm ++ [x]) = Qm.litsTo v N := by unfold folL; rw [hV]; rfl
    refine ⟨by unfold folOk; rw [hV1]; rfl, ?_⟩
    rw [e1, e2]
    refine List.any_eq_false.2 fun y hy => ?_
    have := any_eqTo.2 (hm y hy)
    rw [this]; decide
end Go.Proofs.Ytpkbncfnkgofmaa
