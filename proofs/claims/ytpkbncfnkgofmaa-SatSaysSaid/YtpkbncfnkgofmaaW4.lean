/- Walks: Values.Of, Values.Set. -/
import Derived.Test.YtpkbncfnkgofmaaProg
import Derived.Test.YtpkbncfnkgofmaaBase
import Derived.Test.YtpkbncfnkgofmaaPlain
namespace Go.Proofs.Ytpkbncfnkgofmaa
open Go.RowKit

theorem vof_bd {v : List Int} (hv : ∀ y ∈ v, -1 ≤ y ∧ y ≤ 1) (k : Nat) : -1 ≤ v.getD k 0 ∧ v.getD k 0 ≤ 1 := by
  rw [List.getD_eq_getElem?_getD]
  by_cases h : k < v.length
  · rw [List.getElem?_eq_getElem h]; exact hv _ (List.getElem_mem h)
  · rw [List.getElem?_eq_none (by omega)]; simp

set_option maxHeartbeats 400000 in
theorem of_any (A : Option Addr) (n cap : Nat) (v : List Int) (x : Int) (w : World) (S : Nat → Prop) (hr : RInts w S A n v) (hn : n ≤ 401) (hx : -(n : Int) < x ∧ x < n) (hv : ∀ y ∈ v, -1 ≤ y ∧ y ≤ 1) :
    Calls Try.prog 51 #[.slice A n cap, .int .i64 x] w fun e w' => e = .returned (.int .i64 (Qm.vof v x)) ∧ w = w' := by
  by_cases h0 : x < 0
  · obtain ⟨k, rfl⟩ : ∃ k : Nat, x = -(k : Int) := ⟨(-x).toNat, by omega⟩
    have Hr : Hid (Qm.vof v (-(k : Int)) = - v.getD k 0) := by show _ = _; unfold Qm.vof; rw [if_pos h0]; congr 2; omega
    obtain ⟨b, o, rfl, hb, hc⟩ := hr.at_ (k := k) (by omega)
    have hbd := vof_bd hv k
    clear hv hr
    generalize v.getD k 0 = u at hc hbd Hr
    have hk : (k : Int) < n := by omega
    clear hx
    go_enter Try.func51, Try.ntmps51
    go_wp2
    go_ret
    exact ⟨ret_int Hr.out.symm, rfl⟩
  · obtain ⟨k, rfl⟩ : ∃ k : Nat, x = (k : Int) := ⟨x.toNat, by omega⟩
    have Hr : Hid (Qm.vof v (k : Int) = v.getD k 0) := by show _ = _; unfold Qm.vof; rw [if_neg h0]; congr 1
    obtain ⟨b, o, rfl, hb, hc⟩ := hr.at_ (k := k) (by omega)
    have hbd := vof_bd hv k
    clear hv hr
    generalize v.getD k 0 = u at hc hbd Hr
    have hk : (k : Int) < n := by omega
    clear hx
    go_enter Try.func51, Try.ntmps51
    go_wp2
    go_ret
    exact ⟨ret_int Hr.out.symm, rfl⟩

theorem map_set_int (v : List Int) (k : Nat) (x : Int) : (v.map (Value.int .i64)).set k (.int .i64 x) = (v.set k x).map (Value.int .i64) := by rw [List.map_set]

set_option maxHeartbeats 400000 in
theorem set_any (b : Nat) (t : TypeId) (n cap : Nat) (v : List Int) (x : Int) (w : World) (hl : v.length = n) (hw : Whole w b t (v.map (Value.int .i64))) (hn : n ≤ 401) (hx : -(n : Int) < x ∧ x < n) :
    Calls Try.prog 52 #[.slice (some ⟨b, 0, none⟩) n cap, .int .i64 x] w fun e w' => e = .returned (.tuple #[]) ∧ Whole w' b t ((Qm.vset v x).map (Value.int .i64)) ∧ w.grownBy w' (some b) ∧ w'.heap.size = w.heap.size := by
  have Hl := Lib.hid hl; clear hl
  by_cases h0 : x < 0
  · obtain ⟨k, rfl⟩ : ∃ k : Nat, x = -(k : Int) := ⟨(-x).toNat, by omega⟩
    have Hr : Hid (Qm.vset v (-(k : Int)) = v.set k (-1)) := by show _ = _; unfold Qm.vset; rw [if_pos h0]; congr 2; omega
    have hk : (k : Int) < n := by omega
    have hc := hw.cell k
    rw [List.getElem?_map, List.getElem?_eq_getElem (by rw [Hl.out]; omega), Option.map_some] at hc
    have hf := hw.free k
    generalize v[k]'(by rw [Hl.out]; omega) = u at hc
    clear hx
    go_enter Try.func52, Try.ntmps52
    go_wp2
    go_end0
    refine ⟨rfl, ?_, grown_set (World.grownBy.refl w _) _ _, by simp [World.setCell]⟩
    rw [Hr.out, ← map_set_int]
    exact hw.set_ k _
  · obtain ⟨k, rfl⟩ : ∃ k : Nat, x = (k : Int) := ⟨x.toNat, by omega⟩
    have Hr : Hid (Qm.vset v (k : Int) = v.set k 1) := by show _ = _; unfold Qm.vset; rw [if_neg h0]; congr 1
    have hk : (k : Int) < n := by omega
    have hc := hw.cell k
    rw [List.getElem?_map, List.getElem?_eq_getElem (by rw [Hl.out]; omega), Option.map_some] at hc
    have hf := hw.free k
    generalize v[k]'(by rw [Hl.out]; omega) = u at hc
    clear hx
    go_enter Try.func52, Try.ntmps52
    go_wp2
    go_end0
    refine ⟨rfl, ?_, grown_set (World.grownBy.refl w _) _ _, by simp [World.setCell]⟩
    rw [Hr.out, ← map_set_int]
    exact hw.set_ k _
end Go.Proofs.Ytpkbncfnkgofmaa
