/- Parts of the proof: walks and plain laws, side by side. -/
import Derived.Test.YtpipgffbhpnmkaaGreatDoorProg
import Derived.Test.YtpipgffbhpnmkaaGreatDoorM3
import Derived.Deep.LoopGhost
import Derived.BigQuiet
import Derived.Test.YtpipgffbhpnmkaaGreatDoorM5
import Derived.Test.YtpipgffbhpnmkaaGreatDoorShelf
import Derived.Test.YtpipgffbhpnmkaaGreatDoorM17
import Derived.LoopN
set_option linter.unusedVariables false
set_option linter.unusedSimpArgs false
set_option linter.unusedSectionVars false
/- Walks: slices.IndexFunc, slices.ContainsFunc of ints with a function value that only reads. -/
namespace Go.Proofs.YtpipgffbhpnmkaaGreatDoor
open Go.RowKit
/-- a function value that only reads, and answers as p -/
def Asks (w : World) (F : FuncId) (caps : Array Value) (xs : List Int) (p : Int → Bool) : Prop :=
  (∀ (args : Array Value) (W : World), (callFunc F args).run Tryz.prog W = .ok (.enter F args) W) ∧ ∀ x ∈ xs, ∀ d, Calls Tryz.prog F (#[.int .i64 x] ++ caps) (w.drewN d) fun e w' => e = .returned (.bool (p x)) ∧ ∃ q, w' = w.drewN q
def idxOf (p : Int → Bool) (xs : List Int) : Int := match xs.findIdx? p with | some i => (i : Int) | none => -1
theorem idxOf_hit {p : Int → Bool} {xs : List Int} {k : Nat} {x : Int} (hk : k < xs.length) (hx : xs.getD k 0 = x) (hp : p x = true) (hn : (xs.take k).any p = false) : idxOf p xs = k := by
  have e : xs = xs.take k ++ x :: xs.drop (k+1) := by
    rw [List.getD_eq_getElem?_getD, List.getElem?_eq_getElem hk, Option.getD_some] at hx
    rw [← hx, List.getElem_cons_drop, List.take_append_drop]
  have h1 : (xs.take k).findIdx? p = none := by
    rw [List.findIdx?_eq_none_iff]; intro y hy; exact by simpa using List.any_eq_false.1 hn y hy
  unfold idxOf
  rw [e, List.findIdx?_append, h1]
  simp [List.findIdx?_cons, hp]; omega
theorem idxOf_none {p : Int → Bool} {xs : List Int} (h : xs.any p = false) : idxOf p xs = -1 := by
  have h1 : xs.findIdx? p = none := by
    rw [List.findIdx?_eq_none_iff]; intro y hy; exact by simpa using List.any_eq_false.1 h y hy
  unfold idxOf; rw [h1]
theorem idxOf_any (p : Int → Bool) (xs : List Int) : (decide (idxOf p xs ≥ 0)) = xs.any p := by
  cases h : xs.any p
  · rw [idxOf_none h]; rfl
  · unfold idxOf
    cases h1 : xs.findIdx? p with
    | none =>
      rw [List.findIdx?_eq_none_iff] at h1
      obtain ⟨x, hx, hp⟩ := List.any_eq_true.1 h
      rw [h1 x hx] at hp; cases hp
    | some i => simp
theorem take_any_succ {p : Int → Bool} {xs : List Int} {k : Nat} {x : Int} (hk : k < xs.length) (hx : xs.getD k 0 = x) (hp : p x = false) (hn : (xs.take k).any p = false) : (xs.take (k+1)).any p = false := by
  rw [List.getD_eq_getElem?_getD, List.getElem?_eq_getElem hk, Option.getD_some] at hx
  rw [List.take_succ_eq_append_getElem hk, List.any_append, hn, hx]; simp [hp]

set_option maxHeartbeats 1000000 in
theorem indexFunc_any (A : Option Addr) (n c : Nat) (xs : List Int) (F : FuncId) (caps : Array Value) (p : Int → Bool) (w : World) (S : Nat → Prop) (hr : RInts w S A n xs) (hn : n ≤ maxLen) (hp : Asks w F caps xs p) :
    Calls Tryz.prog 47 #[.slice A n c, .func (.func F) #[] caps] w fun e w' => e = .returned (.int .i64 (idxOf p xs)) ∧ ∃ q, w' = w.drewN q := by
  unfold maxLen at hn
  have Hlen := Lib.hid hr.len
  have Hp := Lib.hid hp; have Hr := Lib.hid hr
  clear hp hr
  go_enter Tryz.func47, Tryz.ntmps47
  go_wp2_with fail
  go_loopg [8] n (fun g i wr => ∃ (k d : Nat), Hid (k + g = n) ∧ i = .int .i64 k ∧ wr = w.drewN d ∧ Hid ((xs.take k).any p = false))
  case atStart => exact ⟨0, 0, Nat.zero_add _, rfl, rfl, rfl⟩
  case round =>
    obtain ⟨k, d, Hk, rfl, rfl, Hany⟩ := hrel
    by_cases hk : k < n
    · obtain ⟨b, o, rfl, hb, hc⟩ := Hr.out.at_ hk
      have hlc : k < xs.length := by rw [Hlen.out]; exact hk
      generalize hx : xs.getD k 0 = x at hc
      have Hx := Lib.hid hx; clear hx
      have Hlc := Lib.hid hlc; clear hlc
      have Hcall := Lib.hid (Hp.out.2 x (by rw [← Hx.out, List.getD_eq_getElem?_getD, List.getElem?_eq_getElem Hlc.out]; exact List.getElem_mem _) d)
      have henter := Hp.out.1
      generalize hpx : p x = px at Hcall
      have Hpx := Lib.hid hpx; clear hpx
      go_wp2_with fail
      refine Hcall.out.mono ?_
      rintro e w' ⟨rfl, q, rfl⟩
      cases px
      · go_wp2_with fail
        go_roundg (gk - 1)
        case measure => have := Hk.out; omega
        case rel => exact ⟨k + 1, q, by have := Hk.out; show _ = _; omega, by go_num, rfl, take_any_succ Hlc.out Hx.out Hpx.out Hany.out⟩
      · go_wp2_with fail
        go_ret
        exact ⟨ret_int (idxOf_hit Hlc.out Hx.out Hpx.out Hany.out).symm, _, rfl⟩
    · go_wp2_with fail
      go_ret
      have hk' : k = n := by have := Hk.out; omega
      subst hk'
      refine ⟨ret_int ?_, _, rfl⟩
      rw [idxOf_none]
      have := Hany.out
      rwa [List.take_of_length_le (by rw [Hlen.out]; exact Nat.le_refl _)] at this
set_option maxHeartbeats 400000 in
theorem containsFunc_any (A : Option Addr) (n c : Nat) (xs : List Int) (F : FuncId) (caps : Array Value) (p : Int → Bool) (w : World) (S : Nat → Prop) (hr : RInts w S A n xs) (hn : n ≤ maxLen) (hp : Asks w F caps xs p) :
    Calls Tryz.prog 16 #[.slice A n c, .func (.func F) #[] caps] w fun e w' => e = .returned (.bool (xs.any p)) ∧ ∃ q, w' = w.drewN q := by
  have Hcall := Lib.hid (indexFunc_any A n c xs F caps p w S hr hn hp)
  clear hr hp
  go_enter Tryz.func16, Tryz.ntmps16
  go_wp2_with fail
  refine Hcall.out.mono ?_
  rintro e w' ⟨rfl, q, rfl⟩
  generalize hi : idxOf p xs = i
  have Hi := Lib.hid hi; clear hi
  go_wp2_with fail
  go_ret
  refine ⟨ret_bool ?_, _, rfl⟩
  rw [← idxOf_any, Hi.out]
end Go.Proofs.YtpipgffbhpnmkaaGreatDoor

/- slices.Contains of ints. (Of the shelf: Tryz.slices_Contains_int Tryz.slices_Contains_int_empty) -/
namespace Go.Proofs.YtpipgffbhpnmkaaGreatDoor
open Go.RowKit

theorem ints_cell {w : World} {S : Nat → Prop} {b o n : Nat} {xs : List Int} (h : RInts w S (some ⟨b, o, none⟩) n xs) : ∀ j, j < xs.length → w.cell? ⟨b, o + j, none⟩ = some (.int .i64 (xs.getD j 0)) := by
  intro j hj
  obtain ⟨b', o', e, _, hc⟩ := h.at_ (k := j) (by have := h.len; omega)
  injection e with e; injection e with e1 e2
  subst e1 e2
  exact hc
theorem containsI_any (A : Option Addr) (n c : Nat) (xs : List Int) (x : Int) (w : World) (S : Nat → Prop) (h : RInts w S A n xs) (hn : n ≤ maxLen) :
    Calls Tryz.prog 44 #[.slice A n c, .int .i64 x] w fun e w' => e = .returned (.bool (xs.contains x)) ∧ w' = w := by
  have hl := h.len
  unfold maxLen at hn
  by_cases h0 : n = 0
  · subst h0
    obtain rfl := List.eq_nil_of_length_eq_zero hl
    exact (Tryz.slices_Contains_int_empty A c x w).mono fun e w' ⟨he, hw⟩ => ⟨by simpa using he, hw⟩
  · obtain ⟨b, o, rfl, _⟩ := Row.some_lit h (by omega)
    refine (Tryz.slices_Contains_int b o n c xs x w (by omega) (by omega) (ints_cell h)).mono fun e w' ⟨he, hw⟩ => ⟨?_, hw⟩
    rw [he, List.take_of_length_le (by omega)]

end Go.Proofs.YtpipgffbhpnmkaaGreatDoor

/- What TreeMeans calls: slices.Contains, IsSorted, Concat, Sort of ints; its closures. -/
namespace Go.Proofs.YtpipgffbhpnmkaaGreatDoor
open Go.RowKit Qm

/-! slices.Grow of nil, slices.Concat of two, of ints -/
/-! slices.Sort -/
open Go.Sort in
theorem far_sortedI {w : World} {g n : Nat} {os : Array Obj} (d : Array Int) : Far (fun i => i = g) w (grow (putRow (Value.int .i64) (Sort.ahead w n) g 0 d) os) := by
  refine ⟨⟨rfl, rfl, rfl, by simp [grow, putRow, mapBlock, Sort.ahead], fun k hk => absurd hk (by omega)⟩, fun i hi hn => ?_⟩
  rw [heap_grow_old _ _ (by simpa [putRow, mapBlock, Sort.ahead] using hi)]
  simp only [putRow, mapBlock, Sort.ahead, Array.getElem?_modify]
  rw [if_neg (fun e => hn e.symm)]
def sortI (xs : List Int) : List Int := xs.mergeSort fun x y => decide (x ≤ y)
def SortI (base : Nat) (A : Option Addr) (n c : Nat) (xs : List Int) (w : World) (e : Ending) (w' : World) : Prop :=
  e = .returned (.tuple #[]) ∧ w'.ownsRow base 3 1 (.slice A n c) n ((sortI xs).map (.int .i64)) ∧ Far (fun i => (Value.slice A n c).ownBlock = some i) w w'
open Go.Sort in
theorem sortI_any (base : Nat) (A : Option Addr) (n c : Nat) (xs : List Int) (w : World) (hown : w.ownsRow base 3 1 (.slice A n c) n (xs.map (.int .i64))) (hn : n ≤ 100000) :
    Calls Tryz.prog 45 #[.slice A n c] w (SortI base A n c xs w) := by
  have hl : xs.length = n := by have := hown.1; simpa using this
  by_cases h0 : n = 0
  · subst h0
    obtain rfl := List.eq_nil_of_length_eq_zero hl
    refine (Tryz.slices_Sort_int_none A c w).mono ?_
    rintro e w' ⟨rfl, rfl⟩
    exact ⟨rfl, by simpa [sortI] using hown, Far.refl _ _⟩
  · obtain ⟨g, cap', hv, hb, hlt, hnc, hcm, _, hH⟩ := Lib.holds_of_ownsRow hown (by intro e; injection e with _ e2 _; exact h0 e2)
    injection hv with hv1 _ hv2
    subst hv1 hv2
    have h := Tryz.slices_Sort_int g 0 c xs w hH hlt (by omega)
    rw [hl] at h
    refine h.mono ?_
    rintro e w' ⟨rfl, k, os, rfl⟩
    refine ⟨rfl, ?_, (far_sortedI _).mono fun i hi => by rw [hi]; rfl⟩
    have hs : (sortI xs).length = n := by unfold sortI; rw [List.length_mergeSort]; exact hl
    have := Lib.ownsRow_putRow (q := k) (k := n) (ys := sortI xs) hown hs (Nat.le_refl _)
    rw [List.take_of_length_le (by omega)] at this
    exact own_grow os this
end Go.Proofs.YtpipgffbhpnmkaaGreatDoor

/- Lists of rows of ints by their headers: side by side. -/
namespace Go.Proofs.YtpipgffbhpnmkaaGreatDoor
open Go.RowKit
def hd (h : Option Addr × Nat × Nat) : Value := Value.slice h.1 h.2.1 h.2.2
def Heads (w : World) (S : Nat → Prop) (hs : List (Option Addr × Nat × Nat)) (cs : List (List Int)) : Prop :=
  cs.length = hs.length ∧ ∀ (j : Nat) (h : Option Addr × Nat × Nat) (c : List Int), hs[j]? = some h → cs[j]? = some c → RInts w S h.1 h.2.1 c ∧ h.2.1 ≤ h.2.2 ∧ h.2.2 ≤ maxLen
section
variable {w w' : World} {S S' : Nat → Prop} {A : Option Addr} {n : Nat} {cs ds : List (List Int)} {hs gs : List (Option Addr × Nat × Nat)}
theorem RClauses.open_ (h : RClauses w S A n cs) : ∃ hs, Row w S A n (hs.map hd) ∧ Heads w S hs cs := by
  obtain ⟨hs, hr, hl, hi⟩ := h
  exact ⟨hs, hr, by have := hr.len; simp at this; omega, hi⟩
theorem RClauses.of_ (hr : Row w S A n (hs.map hd)) (h : Heads w S hs cs) : RClauses w S A n cs := ⟨hs, hr, by have := hr.len; have := h.1; simp at *; omega, h.2⟩
theorem Heads.append (h : Heads w S hs cs) (g : Heads w S gs ds) : Heads w S (hs ++ gs) (cs ++ ds) := by
  refine ⟨by simp [h.1, g.1], fun j x c hx hc => ?_⟩
  by_cases hj : j < hs.length
  · rw [List.getElem?_append_left hj] at hx
    rw [List.getElem?_append_left (by rw [h.1]; exact hj)] at hc
    exact h.2 j x c hx hc
  · rw [List.getElem?_append_right (by omega)] at hx
    rw [List.getElem?_append_right (by rw [h.1]; omega), h.1] at hc
    exact g.2 _ x c hx hc
theorem Heads.one {A : Option Addr} {n c : Nat} {xs : List Int} (h : RInts w S A n xs) (hn : n ≤ c ∧ c ≤ maxLen) : Heads w S [(A, n, c)] [xs] := by
  refine ⟨rfl, fun j x y hx hy => ?_⟩
  match j with
  | 0 => simp at hx hy; subst hx hy; exact ⟨h, hn⟩
  | j + 1 => simp at hx
theorem Heads.nil_ : Heads w S [] [] := ⟨rfl, fun j x y hx _ => by simp at hx⟩
theorem Heads.below {B : Nat} (h : Heads w S hs cs) (hb : Below B w w') (hS : ∀ k, S k → k < B) : Heads w' S hs cs := ⟨h.1, fun j x c hx hc => ⟨(h.2 j x c hx hc).1.below hb hS, (h.2 j x c hx hc).2⟩⟩
theorem Heads.more (h : Heads w S hs cs) (hS : ∀ k, S k → S' k) : Heads w S' hs cs := ⟨h.1, fun j x c hx hc => ⟨(h.2 j x c hx hc).1.more hS, (h.2 j x c hx hc).2⟩⟩
theorem Heads.keep (h : Heads w S hs cs) (hk : ∀ p : Addr, S p.block → w'.cell? p = w.cell? p) : Heads w' S hs cs := ⟨h.1, fun j x c hx hc => ⟨(h.2 j x c hx hc).1.keep hk, (h.2 j x c hx hc).2⟩⟩
end
end Go.Proofs.YtpipgffbhpnmkaaGreatDoor
