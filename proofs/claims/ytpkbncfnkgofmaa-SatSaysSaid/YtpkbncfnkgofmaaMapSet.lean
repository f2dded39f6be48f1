/-
  A map from ints to bools all of whose entries hold: a set of ints. What the operations on it give.
-/
import Derived.Test.YtpkbncfnkgofmaaBase
import Derived.Maps.RangeWalk
import Derived.Maps.OwnSet
namespace Go.Proofs.Ytpkbncfnkgofmaa
open Go.RowKit

/-- block b is a map that holds just the ints of K, each with true; there are m of them -/
def IntSet (P : Program) (w : World) (b : Nat) (K : Int → Bool) (m : Nat) : Prop :=
  ∃ D : DataW Unit, w.ownsMap P 3 (plainElem P 4) b m D ∧ Maps.size D = m ∧ ∀ x : Int, (Lit.int .i64 x).wf = true → Maps.has D (.int .i64 x) = K x ∧ D.atKey (.int .i64 x) (.lit (.bool false)) = .lit (.bool (K x))

section
variable {P : Program} {w w' : World} {b m : Nat} {K : Int → Bool}
theorem wf_of {x : Int} (h1 : -9223372036854775808 ≤ x) (h2 : x ≤ 9223372036854775807) : (Lit.int .i64 x).wf = true := WalkArith.wf_i64 (by omega)
theorem IntSet.made (P : Program) (w : World) : IntSet P (w.alloc (.map #[] 0)) w.heap.size (fun _ => false) 0 :=
  ⟨.map [], World.ownsMap_made w P 3 _, rfl, fun x _ => ⟨rfl, rfl⟩⟩
theorem IntSet.kept {row : Option Nat} (h : IntSet P w b K m) (hg : w.grownBy w' row) (hne : some b ≠ row) : IntSet P w' b K m := by
  obtain ⟨D, h1, h2⟩ := h
  exact ⟨D, h1.kept hg hne, h2⟩
theorem IntSet.lt (h : IntSet P w b K m) : b < w.heap.size := by obtain ⟨D, h1, _⟩ := h; exact h1.lt
theorem IntSet.congr {K' : Int → Bool} {m' : Nat} (h : IntSet P w b K m) (hm : m = m') (hK : ∀ x, (Lit.int .i64 x).wf = true → K x = K' x) : IntSet P w b K' m' := by
  subst hm
  obtain ⟨D, h1, h2, h3⟩ := h
  exact ⟨D, h1, h2, fun x hx => by rw [← hK x hx]; exact h3 x hx⟩
theorem IntSet.look (h : IntSet P w b K m) (hk : P.underlying 3 = some (.int .i64)) (he : P.underlying 4 = some .bool) (hz : (zeroValue 4).run P w = .ok (.bool false) w) {t : TypeId} (ht : P.underlying t = some (.map 3 4)) {x : Int} (hx : (Lit.int .i64 x).wf = true) :
    (Instr.lookup t (.map (some b)) (.int .i64 x) false).run P w = .ok (.bool (K x)) w := by
  obtain ⟨D, h1, _, h3⟩ := h
  obtain ⟨v, ps, hrun, hv⟩ := h1.lookup (Maps.int_keyed hk) ht hz (plainElem_bool he false) (Maps.keyOf_int_mk hk hx)
  rw [(h3 x hx).2] at hv
  have : v = .bool (K x) := by
    unfold plainElem at hv
    rw [he] at hv
    cases v <;> simp at hv
    rw [hv.1]
  rw [hrun, this]
theorem IntSet.len_ (h : IntSet P w b K m) {t : TypeId} (ht : P.underlying t = some (.map 3 4)) (ty : TypeId) : (Builtin.len_ #[t] ty #[.map (some b)]).run P w = .ok (.int .i64 m) w := by
  obtain ⟨D, h1, h2, _⟩ := h
  rw [h1.len ht ty, h2]
theorem IntSet.put (h : IntSet P w b K m) (hk : P.underlying 3 = some (.int .i64)) (he : P.underlying 4 = some .bool) {t : TypeId} (ht : P.underlying t = some (.map 3 4)) {x : Int} (hx : (Lit.int .i64 x).wf = true) (hm : m < maxLen) :
    ∃ w', (Instr.mapUpdate t (.map (some b)) (.int .i64 x) (.bool true)).run P w = .ok () w' ∧ IntSet P w' b (fun y => y == x || K y) (if K x then m else m + 1) ∧ w.grownBy w' (some b) ∧ w'.heap.size = w.heap.size := by
  obtain ⟨D, h1, h2, h3⟩ := h
  have Kd := Maps.int_keyed (P := P) hk
  have hkey := Maps.keyOf_int_mk (P := P) hk hx
  have hkl : WideAt.IsKeyLit (.int .i64 x) := Kd.key hkey
  obtain ⟨w', hrun, h4, h5⟩ := h1.store Kd ht hm hkey (plainElem_bool he true)
  have htd := h1.tidy Kd
  have hsz : Maps.size (D.put (.int .i64 x) (.lit (.bool true))) = if K x then m else m + 1 := by
    rw [Maps.size_put htd, (h3 x hx).1, h2]
  refine ⟨w', hrun, ⟨_, ?_, hsz, fun y hy => ?_⟩, h5.grown, ?_⟩
  · have e : Maps.size (D.put (.int .i64 x) (.lit (.bool true))) ≤ if K x then m else m + 1 := by rw [hsz]; exact Nat.le_refl _
    obtain ⟨es, clock, hb, F, hs, hD⟩ := h4
    refine ⟨es, clock, hb, F, ?_, hD⟩
    rw [hD] at e
    simpa [Maps.size, length_sorted] using e
  · by_cases hyx : y = x
    · subst hyx
      rw [Maps.has_put_same htd.isMap hkl, Maps.atKey_put_same htd.isMap hkl]
      simp
    · have hne : (Lit.int .i64 y) ≠ .int .i64 x := by intro e; injection e with _ e; exact hyx e
      rw [Maps.has_put_other hne, Maps.atKey_put_other hne]
      have : (y == x) = false := by simpa using hyx
      show _ = (y == x || K y) ∧ _ = DataW.lit (.bool (y == x || K y))
      rw [this, Bool.false_or]
      exact h3 y hy
  · obtain ⟨es, clock, es', clock', _, rfl⟩ := h5
    simp [ChangeMaps.setBlock]
/-- a range over a set of one: the first step gives it -/
theorem IntSet.range1 (h : IntSet P w b K 1) (hk : P.underlying 3 = some (.int .i64)) (he : P.underlying 4 = some .bool) {t : TypeId} (ht : P.underlying t = some (.map 3 4)) (ty : TypeId) :
    ∃ (w1 : World) (x : Int) (w2 : World) (D : DataW Unit) (lf : Lit → Bool) (c : Bool), (Instr.range t (.map (some b))).run P w = .ok (.pointer (some ⟨w.heap.size, 0, none⟩)) w1 ∧ (Instr.next (.pointer (some ⟨w.heap.size, 0, none⟩)) false ty).run P w1 = .ok (.tuple #[.bool true, .int .i64 x, .bool c]) w2 ∧
      K x = true ∧ (Lit.int .i64 x).wf = true ∧ (Instr.entry (.pointer (some ⟨w.heap.size, 0, none⟩))).run P w2 = .ok (.tuple #[.int .i64 x, .bool c]) w2 ∧ w2.ranges P 3 (plainElem P 4) b w.heap.size 1 D lf 0 ∧
      Below w.heap.size w w2 ∧ w.grownBy w1 none ∧ w2.heap.size = w.heap.size + 1 ∧ w1.heap.size = w.heap.size + 1 := by
  obtain ⟨D, h1, h2, h3⟩ := h
  have Kd := Maps.int_keyed (P := P) hk
  obtain ⟨w1, hrun, hrg, hg, hsz⟩ := h1.range Kd ht
  rw [h2] at hrg
  rcases hrg.next Kd ty with ⟨h0, _⟩ | ⟨key, v, kl, y, w2, cnt', hkey, hl, hv, hat, hn, hrg2, hlt, hg2, hsz2, hen⟩
  · omega
  · obtain ⟨x, rfl, rfl, hwf⟩ := Maps.keyOf_int_inv hk hkey
    obtain ⟨c, rfl⟩ : ∃ c, v = .bool c := by
      unfold plainElem at hv
      rw [he] at hv
      cases v <;> simp at hv
      exact ⟨_, rfl⟩
    obtain rfl : cnt' = 0 := by omega
    refine ⟨w1, x, w2, D, _, c, hrun, hn, ?_, hwf, hen, hrg2, ?_, hg, by omega, hsz⟩
    · rw [← (h3 x hwf).1]; exact hl
    · exact (below_of_grown hg (Nat.le_refl _) (fun k e => by cases e)).trans (below_of_grown hg2 (by omega) (fun k e => by injection e with e; omega))
theorem ranges_end {w : World} {b r n : Nat} {D : DataW Unit} {lf : Lit → Bool} (h : w.ranges P 3 (plainElem P 4) b r n D lf 0) (hk : P.underlying 3 = some (.int .i64)) (ty : TypeId) :
    (Instr.next (.pointer (some ⟨r, 0, none⟩)) false ty).run P w = .ok (.tuple #[.bool false]) w := by
  rcases h.next (Maps.int_keyed hk) ty with ⟨_, _, h⟩ | ⟨_, _, _, _, _, _, _, _, _, _, _, _, hlt, _⟩
  · exact h
  · omega
end
end Go.Proofs.Ytpkbncfnkgofmaa
