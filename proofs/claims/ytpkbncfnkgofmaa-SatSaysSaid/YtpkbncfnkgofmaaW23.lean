/- Walks: the closures of CnfSound. -/
import Derived.Test.YtpkbncfnkgofmaaW22
import Derived.Test.YtpkbncfnkgofmaaW15
import Derived.Laws.EntriesVeiled
namespace Go.Proofs.Ytpkbncfnkgofmaa
open Go.RowKit
theorem drewN_drewN (w : World) (d q : Nat) : (w.drewN d).drewN q = w.drewN (d + q) := by simp [World.drewN, Nat.add_assoc]
theorem callFuncSn1 (args : Array Value) (W : World) : (callFunc 33 args).run Try.prog W = .ok (.enter 33 args) W := by kernel_rfl
theorem callFuncSn2 (args : Array Value) (W : World) : (callFunc 34 args).run Try.prog W = .ok (.enter 34 args) W := by kernel_rfl
theorem callFuncSn3 (args : Array Value) (W : World) : (callFunc 35 args).run Try.prog W = .ok (.enter 35 args) W := by kernel_rfl
theorem callFuncSn4 (args : Array Value) (W : World) : (callFunc 36 args).run Try.prog W = .ok (.enter 36 args) W := by kernel_rfl
set_option maxHeartbeats 1000000 in
theorem soundLit_any (x : Int) (bm : Nat) (Am : Option Addr) (nm cm : Nat) (m : List Bool) (w : World) (S : Nat → Prop) (hc : w.cell? ⟨bm, 0, none⟩ = some (.slice Am nm cm)) (hm : RBools w S Am nm m) (hx : Qm.IsLit nm x) (hn : nm ≤ 400) :
    Calls Try.prog 33 #[.int .i64 x, .pointer (some ⟨bm, 0, none⟩)] w fun e w' => e = .returned (.bool (Qm.litHolds m x)) ∧ ∃ q, w' = w.drewN q := by
  obtain ⟨h0, h1⟩ := hx
  obtain ⟨b, o, rfl, hb, hcell⟩ := hm.at_ (k := x.natAbs - 1) (by omega)
  have hlo : -400 ≤ x ∧ x ≤ 400 := by omega
  have hr : Qm.litHolds m x = (m.getD (x.natAbs - 1) false == decide (0 < x)) := rfl
  generalize m.getD (x.natAbs - 1) false = v at hcell hr
  have hif : (if x < -x then -x else x) = (x.natAbs : Int) := by split <;> omega
  have ha1 : 1 ≤ x.natAbs := by omega
  have ha2 : x.natAbs ≤ nm := h1
  generalize x.natAbs = a at hcell ha1 ha2 hif
  have Hr := Lib.hid hr
  clear hr hm h1
  have q3 : (((a : Int) - 1)).toNat = a - 1 := by omega
  have q2 : (0 : Int) ≤ (a : Int) - 1 := by omega
  have q4 : (a : Int) - 1 < nm := by omega
  have q1 : IntKind.i64.wrap ((a : Int) - 1) = (a : Int) - 1 := IntWalk.i64_in _ (by omega)
  go_enter Try.func33, Try.ntmps33
  go_wp2_with fail
  go_ret
  exact ⟨ret_bool Hr.out.symm, 0, rfl⟩
set_option maxHeartbeats 1000000 in
theorem soundNot2_any (x : Int) (bi bm : Nat) (Am : Option Addr) (nm cm : Nat) (m : List Bool) (w : World) (S : Nat → Prop) (hi : w.cell? ⟨bi, 0, none⟩ = some (.func (.func 33) #[] #[.pointer (some ⟨bm, 0, none⟩)])) (hc : w.cell? ⟨bm, 0, none⟩ = some (.slice Am nm cm)) (hm : RBools w S Am nm m) (hx : Qm.IsLit nm x) (hn : nm ≤ 400) :
    Calls Try.prog 34 #[.int .i64 x, .pointer (some ⟨bi, 0, none⟩)] w fun e w' => e = .returned (.bool (!Qm.litHolds m x)) ∧ ∃ q, w' = w.drewN q := by
  have hlo : -400 ≤ x ∧ x ≤ 400 := by have := hx.2; omega
  have Hcall := Lib.hid (soundLit_any x bm Am nm cm m w S hc hm hx hn)
  have henter := callFuncSn1
  generalize hv : Qm.litHolds m x = v at Hcall
  have Hv := Lib.hid hv
  clear hv hc hm hx
  go_enter Try.func34, Try.ntmps34
  go_wp2_with fail
  refine Hcall.out.mono ?_
  rintro e w' ⟨rfl, q, rfl⟩
  go_wp2_with fail
  go_ret
  exact ⟨rfl, _, rfl⟩
set_option maxHeartbeats 1000000 in
theorem soundNot3_any (x : Int) (bi bm : Nat) (Am : Option Addr) (nm cm : Nat) (m : List Bool) (w : World) (S : Nat → Prop) (hi : w.cell? ⟨bi, 0, none⟩ = some (.func (.func 33) #[] #[.pointer (some ⟨bm, 0, none⟩)])) (hc : w.cell? ⟨bm, 0, none⟩ = some (.slice Am nm cm)) (hm : RBools w S Am nm m) (hx : Qm.IsLit nm x) (hn : nm ≤ 400) :
    Calls Try.prog 35 #[.int .i64 x, .pointer (some ⟨bi, 0, none⟩)] w fun e w' => e = .returned (.bool (!Qm.litHolds m x)) ∧ ∃ q, w' = w.drewN q := by
  have hlo : -400 ≤ x ∧ x ≤ 400 := by have := hx.2; omega
  have Hcall := Lib.hid (soundLit_any x bm Am nm cm m w S hc hm hx hn)
  have henter := callFuncSn1
  generalize hv : Qm.litHolds m x = v at Hcall
  have Hv := Lib.hid hv
  clear hv hc hm hx
  go_enter Try.func35, Try.ntmps35
  go_wp2_with fail
  refine Hcall.out.mono ?_
  rintro e w' ⟨rfl, q, rfl⟩
  go_wp2_with fail
  go_ret
  exact ⟨rfl, _, rfl⟩
set_option maxHeartbeats 1000000 in
theorem soundNot4_any (x : Int) (bl : Nat) (Al : Option Addr) (nl cl : Nat) (l : List Int) (w : World) (S : Nat → Prop) (hc : w.cell? ⟨bl, 0, none⟩ = some (.slice Al nl cl)) (hl : RInts w S Al nl l) (hn : nl ≤ maxLen) :
    Calls Try.prog 36 #[.int .i64 x, .pointer (some ⟨bl, 0, none⟩)] w fun e w' => e = .returned (.bool (!l.any (eqTo x))) ∧ ∃ q, w' = w.drewN q := by
  have Hcall := Lib.hid (contains_any Al nl cl l x w S hl hn)
  generalize hv : l.any (eqTo x) = v at Hcall
  have Hv := Lib.hid hv
  clear hv hl
  go_enter Try.func36, Try.ntmps36
  go_wp2_with fail
  refine Hcall.out.mono ?_
  rintro e w' ⟨rfl, q, rfl⟩
  go_wp2_with fail
  go_ret
  exact ⟨rfl, _, rfl⟩
theorem soundAll2_any (A : Option Addr) (n c : Nat) (l : List Int) (bi bm : Nat) (Am : Option Addr) (nm cm : Nat) (m : List Bool) (w : World) (S T : Nat → Prop) (hi : w.cell? ⟨bi, 0, none⟩ = some (.func (.func 33) #[] #[.pointer (some ⟨bm, 0, none⟩)])) (hc : w.cell? ⟨bm, 0, none⟩ = some (.slice Am nm cm))
    (hm : RBools w S Am nm m) (hl : RInts w T A n l) (hx : ∀ x ∈ l, Qm.IsLit nm x) (hn : nm ≤ 400) (hn' : n ≤ maxLen) :
    Calls Try.prog 28 #[.slice A n c, .func (.func 34) #[] #[.pointer (some ⟨bi, 0, none⟩)]] w fun e w' => e = .returned (.bool (l.any (fun x => !Qm.litHolds m x))) ∧ ∃ q, w' = w.drewN q :=
  containsFunc_any A n c l 34 #[.pointer (some ⟨bi, 0, none⟩)] (fun x => !Qm.litHolds m x) w T hl hn' ⟨callFuncSn2, fun x hx' d => (soundNot2_any x bi bm Am nm cm m (w.drewN d) S hi hc hm (hx x hx') hn).mono fun e w' h => ⟨h.1, by obtain ⟨q, h⟩ := h.2; exact ⟨d + q, by rw [h, drewN_drewN]⟩⟩⟩
theorem soundAll3_any (A : Option Addr) (n c : Nat) (l : List Int) (bi bm : Nat) (Am : Option Addr) (nm cm : Nat) (m : List Bool) (w : World) (S T : Nat → Prop) (hi : w.cell? ⟨bi, 0, none⟩ = some (.func (.func 33) #[] #[.pointer (some ⟨bm, 0, none⟩)])) (hc : w.cell? ⟨bm, 0, none⟩ = some (.slice Am nm cm))
    (hm : RBools w S Am nm m) (hl : RInts w T A n l) (hx : ∀ x ∈ l, Qm.IsLit nm x) (hn : nm ≤ 400) (hn' : n ≤ maxLen) :
    Calls Try.prog 28 #[.slice A n c, .func (.func 35) #[] #[.pointer (some ⟨bi, 0, none⟩)]] w fun e w' => e = .returned (.bool (l.any (fun x => !Qm.litHolds m x))) ∧ ∃ q, w' = w.drewN q :=
  containsFunc_any A n c l 35 #[.pointer (some ⟨bi, 0, none⟩)] (fun x => !Qm.litHolds m x) w T hl hn' ⟨callFuncSn3, fun x hx' d => (soundNot3_any x bi bm Am nm cm m (w.drewN d) S hi hc hm (hx x hx') hn).mono fun e w' h => ⟨h.1, by obtain ⟨q, h⟩ := h.2; exact ⟨d + q, by rw [h, drewN_drewN]⟩⟩⟩
theorem soundAll4_any (A : Option Addr) (n c : Nat) (xs : List Int) (bl : Nat) (Al : Option Addr) (nl cl : Nat) (l : List Int) (w : World) (S T : Nat → Prop) (hc : w.cell? ⟨bl, 0, none⟩ = some (.slice Al nl cl)) (hl : RInts w S Al nl l) (hx : RInts w T A n xs) (hn : nl ≤ maxLen) (hn' : n ≤ maxLen) :
    Calls Try.prog 28 #[.slice A n c, .func (.func 36) #[] #[.pointer (some ⟨bl, 0, none⟩)]] w fun e w' => e = .returned (.bool (xs.any (fun x => !l.any (eqTo x)))) ∧ ∃ q, w' = w.drewN q :=
  containsFunc_any A n c xs 36 #[.pointer (some ⟨bl, 0, none⟩)] (fun x => !l.any (eqTo x)) w T hx hn' ⟨callFuncSn4, fun x _ d => (soundNot4_any x bl Al nl cl l (w.drewN d) S hc hl hn).mono fun e w' h => ⟨h.1, by obtain ⟨q, h⟩ := h.2; exact ⟨d + q, by rw [h, drewN_drewN]⟩⟩⟩
end Go.Proofs.Ytpkbncfnkgofmaa
