/- need.Flags: the closure that gathers, walked. -/
import Derived.Test.YtnkmonmkhmcgaaaGreatDoorNW8
import Derived.Laws.EntriesVeiled
namespace Go.Proofs.YtnkmonmkhmcgaaaGreatDoor
open Go.RowKit Qm

mutual
def flagsN : Nd → List Qm.W
  | .mk k _ f _ ks => (if k = 5 then [f] else []) ++ flagsL ks
def flagsL : List Nd → List Qm.W
  | [] => []
  | k :: r => flagsN k ++ flagsL r
end
theorem flagsL_snoc : ∀ (ks : List Nd) (y : Nd), flagsL (ks ++ [y]) = flagsL ks ++ flagsN y
  | [], y => by simp [flagsL]
  | k :: r, y => by simp only [List.cons_append, flagsL, flagsL_snoc r y, List.append_assoc]
theorem flagsN_le : ∀ (y : Nd), (flagsN y).length ≤ y.nodes := by
  refine Nd.ind fun k a f no ks ih => ?_
  have hL : ∀ {l : List Nd}, (∀ y ∈ l, (flagsN y).length ≤ y.nodes) → (flagsL l).length ≤ nodesL l := by
    intro l
    induction l with
    | nil => intro _; simp [flagsL, nodesL]
    | cons y l ihl =>
      intro hl
      have h1 := hl y (List.mem_cons_self ..)
      have h2 := ihl fun z hz => hl z (List.mem_cons_of_mem _ hz)
      simp only [flagsL, nodesL, List.length_append]; omega
  have := hL ih
  simp only [flagsN, Nd.nodes, List.length_append]
  split <;> simp <;> omega

/-- The list that is gathered in block BL, the closure in BF. -/
structure Fl (base BL BF : Nat) (fs : List Qm.W) (A : Option Addr) (c : Nat) (w : World) : Prop where
  l : Whole w BL 35 [.slice A fs.length c]
  fn : Whole w BF 50 [.func (.func 22) #[] #[.pointer (some ⟨BL, 0, none⟩), .pointer (some ⟨BF, 0, none⟩)]]
  own : w.ownsRow base 9 1 (.slice A fs.length c) fs.length (strs fs)
  ltL : BL < base
  ltF : BF < base
  ne : BL ≠ BF
def FD (BL : Nat) (v : Value) (i : Nat) : Prop := i = BL ∨ v.ownBlock = some i
def FlPost (base BL BF : Nat) (fs : List Qm.W) (v : Value) (gs : List Qm.W) (w : World) (e : Ending) (w' : World) : Prop :=
  ∃ A' c', e = .returned (.tuple #[]) ∧ Fl base BL BF (fs ++ gs) A' c' w' ∧ Far (FD BL v) w w' ∧
    ((Value.slice A' (fs ++ gs).length c').ownBlock = v.ownBlock ∨ ∃ g, (Value.slice A' (fs ++ gs).length c').ownBlock = some g ∧ w.heap.size ≤ g)
/-- On the way: what is gathered since the world w, whose list was v. -/
structure Fw (w : World) (base BL BF : Nat) (v : Value) (fs : List Qm.W) (A : Option Addr) (c : Nat) (wx : World) : Prop where
  fl : Fl base BL BF fs A c wx
  far : Far (FD BL v) w wx
  at_ : (Value.slice A fs.length c).ownBlock = v.ownBlock ∨ ∃ g, (Value.slice A fs.length c).ownBlock = some g ∧ w.heap.size ≤ g
section
variable {w wx wy : World} {base BL BF : Nat} {v : Value} {fs gs : List Qm.W} {A : Option Addr} {c : Nat}
theorem Fl.below (h : Fl base BL BF fs A c wx) (hb : Below wx.heap.size wx wy) : Fl base BL BF fs A c wy :=
  ⟨h.l.below hb h.l.lt, h.fn.below hb h.fn.lt, own_below h.own hb, h.ltL, h.ltF, h.ne⟩
theorem Fw.below (h : Fw w base BL BF v fs A c wx) (hb : Below wx.heap.size wx wy) : Fw w base BL BF v fs A c wy :=
  ⟨h.fl.below hb, h.far.trans (Far.of_below (FD BL v) hb) fun _ _ h => h, h.at_⟩
theorem FD.back (h : Fw w base BL BF v fs A c wx) : ∀ i, i < w.heap.size → FD BL (.slice A fs.length c) i → FD BL v i := by
  intro i hi hd
  rcases hd with hd | hd
  · exact .inl hd
  · rcases h.at_ with e | ⟨g, e, hg⟩
    · exact .inr (e ▸ hd)
    · rw [e] at hd; injection hd with hd; omega
theorem Fw.call (h : Fw w base BL BF v fs A c wx) {A' : Option Addr} {c' : Nat} (hl : Fl base BL BF (fs ++ gs) A' c' wy) (hf : Far (FD BL (.slice A fs.length c)) wx wy)
    (ha : (Value.slice A' (fs ++ gs).length c').ownBlock = (Value.slice A fs.length c).ownBlock ∨ ∃ g, (Value.slice A' (fs ++ gs).length c').ownBlock = some g ∧ wx.heap.size ≤ g) : Fw w base BL BF v (fs ++ gs) A' c' wy := by
  refine ⟨hl, h.far.trans hf (FD.back h), ?_⟩
  rcases ha with e | ⟨g, e, hg⟩
  · rcases h.at_ with e2 | ⟨g, e2, hg⟩
    · exact .inl (e.trans e2)
    · exact .inr ⟨g, e.trans e2, hg⟩
  · exact .inr ⟨g, e, Nat.le_trans h.far.size hg⟩
theorem Fw.push (h : Fw w base BL BF v fs A c wx) {A' : Option Addr} {c' : Nat} {f : Qm.W} (hown : wy.ownsRow base 9 1 (.slice A' (fs.length + 1) c') (fs.length + 1) (strs fs ++ [.string ⟨f.toArray⟩])) (hg : wx.grownBy wy (Value.slice A fs.length c).ownBlock)
    (hv : (Value.slice A' (fs.length + 1) c').ownBlock = (Value.slice A fs.length c).ownBlock ∨ (Value.slice A' (fs.length + 1) c').ownBlock = some wx.heap.size) :
    Fw w base BL BF v (fs ++ [f]) A' c' (wy.setCell ⟨BL, 0, none⟩ (.slice A' (fs.length + 1) c')) := by
  have hD : ∀ i, some i = (Value.slice A fs.length c).ownBlock → base ≤ i := fun i hi => (h.fl.own.lt i hi.symm).1
  have hlen : (fs ++ [f]).length = fs.length + 1 := by simp
  have f1 : Far (FD BL (.slice A fs.length c)) wx wy := Far.of_grown hg fun i hi => .inr hi.symm
  have f2 : Far (fun i => i = BL) wy (wy.setCell ⟨BL, 0, none⟩ (.slice A' (fs.length + 1) c')) := Far.set_ (D := fun i => i = BL) rfl 0 _
  have n1 : ¬ FD BL (.slice A fs.length c) BF := by
    rintro (e | e)
    · exact h.fl.ne e.symm
    · have := hD _ e.symm; have := h.fl.ltF; omega
  refine ⟨⟨?_, ?_, ?_, h.fl.ltL, h.fl.ltF, h.fl.ne⟩, ?_, ?_⟩
  · rw [hlen]
    exact (h.fl.l.grown hg (fun e => by have := hD _ e; have := h.fl.ltL; omega)).set_ 0 _
  · exact f2.whole (f1.whole h.fl.fn n1) (fun e => h.fl.ne e.symm)
  · rw [hlen, strs_append]
    exact f2.own hown fun g hg => by have := (hown.lt g hg).1; have := h.fl.ltL; omega
  · exact (h.far.trans f1 (FD.back h)).trans f2 fun i _ e => .inl e
  · rw [hlen]
    rcases hv with e | e
    · rcases h.at_ with e2 | ⟨g, e2, hg⟩
      · exact .inl (e.trans e2)
      · exact .inr ⟨g, e.trans e2, hg⟩
    · exact .inr ⟨_, e, h.far.size⟩
end
end Go.Proofs.YtnkmonmkhmcgaaaGreatDoor
