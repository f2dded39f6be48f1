/- The reach: what a slice that was read weighs. -/
import Derived.Test.YtpkbncfnkgofmaaOpen
import Derived.SizedLaws
namespace Go.Proofs.Ytpkbncfnkgofmaa
open Go.ChangeShapes Go.WideShapes Go.ChangeAt Go.RowKit Go.Joins Go.Deep
section
variable {H : Type} {enc : TypeId × Value → H} {P : Program} {w : World} {base : Nat} {held : Bool}
def Weighs (P : Program) (t : TypeId) (d : DataW H) : Prop := ∀ n ∈ d.weights P t, n ≤ reachBytes
theorem weighs_at {ts : List TypeId} {ds : List (DataW H)} (h : (DataW.weightsEach P ts ds).all (· ≤ reachBytes) = true) {j : Nat} {t : TypeId} {d : DataW H} (ht : ts[j]? = some t) (hd : ds[j]? = some d) : Weighs P t d := fun n hn => by
  have := List.all_eq_true.1 h _ (DataW.weights_mem_each ht hd n hn)
  simpa using this
theorem weighs_field {t : TypeId} {fs : Array Field} {ds : List (DataW H)} (hs : P.underlying t = some (.struct fs)) (h : Weighs P t (.agg ds)) {j : Nat} {u : TypeId} {d : DataW H} (hu : (fs.toList.map (·.type))[j]? = some u) (hd : ds[j]? = some d) : Weighs P u d := fun n hn => h n (by
  simp only [DataW.weights, hs]
  exact DataW.weights_mem_each hu hd n hn)
theorem weighs_slice {t e : TypeId} {fuel : Nat} {A : Option Addr} {n c : Nat} {x : DataW H × List MemPlace} (ht : P.underlying t = some (.slice e)) (h : DataW.trod enc P w base (fun _ => true) held fuel t [.slice A n c] = some x) (hw : Weighs P t x.1) {B : Nat} (hB : P.bytesOf e = B) : c * B ≤ 140737488351232 := by
  rcases DataW.trod_slice ht h with ⟨hcs, _⟩ | ⟨a, len, cap, elems, rest, m, _, hcs, rfl, _, hl, hm, hlen, _, hr, _⟩
  · injection hcs with hcs; injection hcs with h1 h2 h3; subst h3; omega
  · injection hcs with hcs; injection hcs with h1 h2 h3
    subst h1 h2 h3
    have hr' := (hr rfl).1
    have := hw ((((elems.map (·.1)).length + (rest.map (·.1)).length)) * P.bytesOf e) (by simp [DataW.weights, ht])
    rw [List.length_map, List.length_map, hlen, hr', hB] at this
    have e : n + (c - n) = c := by omega
    rw [e] at this
    exact this
theorem weighs_elem {t e : TypeId} {es sp : List (DataW H)} (ht : P.underlying t = some (.slice e)) (h : Weighs P t (.slice es sp)) {d : DataW H} (hd : d ∈ es) : Weighs P e d := fun n hn => h n (by
  simp only [DataW.weights, ht]
  refine List.mem_cons_of_mem _ (List.mem_append_left _ ?_)
  clear h
  induction es with
  | nil => simp at hd
  | cons a es ih =>
    simp only [DataW.weightsAll, List.mem_append]
    rcases List.mem_cons.1 hd with rfl | hd
    · exact .inl hn
    · exact .inr (ih hd))
end
end Go.Proofs.Ytpkbncfnkgofmaa
