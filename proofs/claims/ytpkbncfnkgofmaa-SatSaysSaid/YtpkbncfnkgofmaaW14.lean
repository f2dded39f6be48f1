/- Walks: slices.IndexFunc, slices.ContainsFunc with a function value that only reads. -/
import Derived.Test.YtpkbncfnkgofmaaProg
import Derived.Test.YtpkbncfnkgofmaaBase
import Derived.Deep.LoopGhost
import Derived.BigQuiet
namespace Go.Proofs.Ytpkbncfnkgofmaa
open Go.RowKit
/-- a function value that only reads, and answers as p -/
def Asks (w : World) (F : FuncId) (caps : Array Value) (xs : List Int) (p : Int → Bool) : Prop :=
  (∀ (args : Array Value) (W : World), (callFunc F args).run Try.prog W = .ok (.enter F args) W) ∧ ∀ x ∈ xs, ∀ d, Calls Try.prog F (#[.int .i64 x] ++ caps) (w.drewN d) fun e w' => e = .returned (.bool (p x)) ∧ ∃ q, w' = w.drewN q
def idxOf (p : Int → Bool) (xs : List Int) : Int := match xs.findIdx? p with | some i => (i : Int) | none => -1
theorem idxOf_hit {p : Int → Bool} {xs : List Int} {k : Nat} {x : Int} (hk : k < xs.length) (hx : xs.getD k 0 = x) (hp : p x = true) (hn : (xs.take k).any p = false) : idxOf p xs = k := by
  have e : xs = xs.take k ++ x :: xs.drop (k+1) := by
    rw [List.getD_eq_getElem?_getD, List.getElem?_eq_getElem hk, Option.getD_some] at hx
    rw [← hx, List.getElem_cons_drop, List.take_append_drop]
  have h1 : (xs.take k).findIdx? p = none := by
    rw [List.findIdx?_eq_none_iff]; intro y hy; exact by simpa using List.any_eq_false.1 hn y hy
  unfold idxOf
  rw [e, List.findIdx?_append, h1]
  simp [List.findIdx?_cons, hp]; omega
theorem idxOf_none {p : Int → Bool} {xs : List Int} (h : xs.any p = false) : idxOf p xs = -1 := by
  have h1 : xs.findIdx? p = none := by
    rw [List.findIdx?_eq_none_iff]; intro y hy; exact by simpa using List.any_eq_false.1 h y hy
  unfold idxOf; rw [h1]
theorem idxOf_any (p : Int → Bool) (xs : List Int) : (decide (idxOf p xs ≥ 0)) = xs.any p := by
  cases h : xs.any p
  · rw [idxOf_none h]; rfl
  · unfold idxOf
    cases h1 : xs.findIdx? p with
    | none =>
      rw [List.findIdx?_eq_none_iff] at h1
      obtain ⟨x, hx, hp⟩ := List.any_eq_true.1 h
      rw [h1 x hx] at hp; cases hp
    | some i => simp
theorem take_any_succ {p : Int → Bool} {xs : List Int} {k : Nat} {x : Int} (hk : k < xs.length) (hx : xs.getD k 0 = x) (hp : p x = false) (hn : (xs.take k).any p = false) : (xs.take (k+1)).any p = false := by
  rw [List.getD_eq_getElem?_getD, List.getElem?_eq_getElem hk, Option.getD_some] at hx
  rw [List.take_succ_eq_append_getElem hk, List.any_append, hn, hx]; simp [hp]

set_option maxHeartbeats 1000000 in
theorem indexFuncC_any (A : Option Addr) (n c : Nat) (xs : List Int) (F : FuncId) (caps : Array Value) (p : Int → Bool) (w : World) (S : Nat → Prop) (hr : RInts w S A n xs) (hn : n ≤ maxLen) (hp : Asks w F caps xs p) :
    Calls Try.prog 62 #[.slice A n c, .func (.func F) #[] caps] w fun e w' => e = .returned (.int .i64 (idxOf p xs)) ∧ ∃ q, w' = w.drewN q := by
  unfold maxLen at hn
  have Hlen := Lib.hid hr.len
  have Hp := Lib.hid hp; have Hr := Lib.hid hr
  clear hp hr
  go_enter Try.func62, Try.ntmps62
  go_wp2_with fail
  go_loopg [8] n (fun g i wr => ∃ (k d : Nat), Hid (k + g = n) ∧ i = .int .i64 k ∧ wr = w.drewN d ∧ Hid ((xs.take k).any p = false))
  case atStart => exact ⟨0, 0, Nat.zero_add _, rfl, rfl, rfl⟩
  case round =>
    obtain ⟨k, d, Hk, rfl, rfl, Hany⟩ := hrel
    by_cases hk : k < n
    · obtain ⟨b, o, rfl, hb, hc⟩ := Hr.out.at_ hk
      have hlc : k < xs.length := by rw [Hlen.out]; exact hk
      generalize hx : xs.getD k 0 = x at hc
      have Hx := Lib.hid hx; clear hx
      have Hlc := Lib.hid hlc; clear hlc
      have Hcall := Lib.hid (Hp.out.2 x (by rw [← Hx.out, List.getD_eq_getElem?_getD, List.getElem?_eq_getElem Hlc.out]; exact List.getElem_mem _) d)
      have henter := Hp.out.1
      generalize hpx : p x = px at Hcall
      have Hpx := Lib.hid hpx; clear hpx
      go_wp2_with fail
      refine Hcall.out.mono ?_
      rintro e w' ⟨rfl, q, rfl⟩
      cases px
      · go_wp2_with fail
        go_roundg (gk - 1)
        case measure => have := Hk.out; omega
        case rel => exact ⟨k + 1, q, by have := Hk.out; show _ = _; omega, by go_num, rfl, take_any_succ Hlc.out Hx.out Hpx.out Hany.out⟩
      · go_wp2_with fail
        go_ret
        exact ⟨ret_int (idxOf_hit Hlc.out Hx.out Hpx.out Hany.out).symm, _, rfl⟩
    · go_wp2_with fail
      go_ret
      have hk' : k = n := by have := Hk.out; omega
      subst hk'
      refine ⟨ret_int ?_, _, rfl⟩
      rw [idxOf_none]
      have := Hany.out
      rwa [List.take_of_length_le (by rw [Hlen.out]; exact Nat.le_refl _)] at this
set_option maxHeartbeats 400000 in
theorem containsFuncC_any (A : Option Addr) (n c : Nat) (xs : List Int) (F : FuncId) (caps : Array Value) (p : Int → Bool) (w : World) (S : Nat → Prop) (hr : RInts w S A n xs) (hn : n ≤ maxLen) (hp : Asks w F caps xs p) :
    Calls Try.prog 47 #[.slice A n c, .func (.func F) #[] caps] w fun e w' => e = .returned (.bool (xs.any p)) ∧ ∃ q, w' = w.drewN q := by
  have Hcall := Lib.hid (indexFuncC_any A n c xs F caps p w S hr hn hp)
  clear hr hp
  go_enter Try.func47, Try.ntmps47
  go_wp2_with fail
  refine Hcall.out.mono ?_
  rintro e w' ⟨rfl, q, rfl⟩
  generalize hi : idxOf p xs = i
  have Hi := Lib.hid hi; clear hi
  go_wp2_with fail
  go_ret
  refine ⟨ret_bool ?_, _, rfl⟩
  rw [← idxOf_any, Hi.out]
set_option maxHeartbeats 1000000 in
theorem indexFunc_any (A : Option Addr) (n c : Nat) (xs : List Int) (F : FuncId) (caps : Array Value) (p : Int → Bool) (w : World) (S : Nat → Prop) (hr : RInts w S A n xs) (hn : n ≤ maxLen) (hp : Asks w F caps xs p) :
    Calls Try.prog 54 #[.slice A n c, .func (.func F) #[] caps] w fun e w' => e = .returned (.int .i64 (idxOf p xs)) ∧ ∃ q, w' = w.drewN q := by
  unfold maxLen at hn
  have Hlen := Lib.hid hr.len
  have Hp := Lib.hid hp; have Hr := Lib.hid hr
  clear hp hr
  go_enter Try.func54, Try.ntmps54
  go_wp2_with fail
  go_loopg [8] n (fun g i wr => ∃ (k d : Nat), Hid (k + g = n) ∧ i = .int .i64 k ∧ wr = w.drewN d ∧ Hid ((xs.take k).any p = false))
  case atStart => exact ⟨0, 0, Nat.zero_add _, rfl, rfl, rfl⟩
  case round =>
    obtain ⟨k, d, Hk, rfl, rfl, Hany⟩ := hrel
    by_cases hk : k < n
    · obtain ⟨b, o, rfl, hb, hc⟩ := Hr.out.at_ hk
      have hlc : k < xs.length := by rw [Hlen.out]; exact hk
      generalize hx : xs.getD k 0 = x at hc
      have Hx := Lib.hid hx; clear hx
      have Hlc := Lib.hid hlc; clear hlc
      have Hcall := Lib.hid (Hp.out.2 x (by rw [← Hx.out, List.getD_eq_getElem?_getD, List.getElem?_eq_getElem Hlc.out]; exact List.getElem_mem _) d)
      have henter := Hp.out.1
      generalize hpx : p x = px at Hcall
      have Hpx := Lib.hid hpx; clear hpx
      go_wp2_with fail
      refine Hcall.out.mono ?_
      rintro e w' ⟨rfl, q, rfl⟩
      cases px
      · go_wp2_with fail
        go_roundg (gk - 1)
        case measure => have := Hk.out; omega
        case rel => exact ⟨k + 1, q, by have := Hk.out; show _ = _; omega, by go_num, rfl, take_any_succ Hlc.out Hx.out Hpx.out Hany.out⟩
      · go_wp2_with fail
        go_ret
        exact ⟨ret_int (idxOf_hit Hlc.out Hx.out Hpx.out Hany.out).symm, _, rfl⟩
    · go_wp2_with fail
      go_ret
      have hk' : k = n := by have := Hk.out; omega
      subst hk'
      refine ⟨ret_int ?_, _, rfl⟩
      rw [idxOf_none]
      have := Hany.out
      rwa [List.take_of_length_le (by rw [Hlen.out]; exact Nat.le_refl _)] at this
set_option maxHeartbeats 400000 in
theorem containsFunc_any (A : Option Addr) (n c : Nat) (xs : List Int) (F : FuncId) (caps : Array Value) (p : Int → Bool) (w : World) (S : Nat → Prop) (hr : RInts w S A n xs) (hn : n ≤ maxLen) (hp : Asks w F caps xs p) :
    Calls Try.prog 28 #[.slice A n c, .func (.func F) #[] caps] w fun e w' => e = .returned (.bool (xs.any p)) ∧ ∃ q, w' = w.drewN q := by
  have Hcall := Lib.hid (indexFunc_any A n c xs F caps p w S hr hn hp)
  clear hr hp
  go_enter Try.func28, Try.ntmps28
  go_wp2_with fail
  refine Hcall.out.mono ?_
  rintro e w' ⟨rfl, q, rfl⟩
  generalize hi : idxOf p xs = i
  have Hi := Lib.hid hi; clear hi
  go_wp2_with fail
  go_ret
  refine ⟨ret_bool ?_, _, rfl⟩
  rw [← idxOf_any, Hi.out]
end Go.Proofs.Ytpkbncfnkgofmaa
