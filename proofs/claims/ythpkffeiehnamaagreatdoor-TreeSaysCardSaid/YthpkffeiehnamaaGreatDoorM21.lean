/- Parts of the proof: walks and plain laws, side by side. -/
import Derived.Test.YthpkffeiehnamaaGreatDoorM20
import Derived.Test.YthpkffeiehnamaaGreatDoorM2
import Derived.Test.YthpkffeiehnamaaGreatDoorM5
import Derived.Test.YthpkffeiehnamaaGreatDoorM4
set_option linter.unusedVariables false
set_option linter.unusedSimpArgs false
set_option linter.unusedSectionVars false
/- quartermasterref.ReadNeed: what stands open, in memory. -/
namespace Go.Proofs.YthpkffeiehnamaaGreatDoor
open Go.RowKit Qm

abbrev Hd := Option Addr × Nat
def obs (A : Option Addr) (hs : List Hd) : List Nat := (A :: hs.map (·.1)).filterMap fun a => a.map (·.block)
def frow (g : Fr) (h : Hd) : List Value := ndRow g.k At.zero g.f g.no h.1 g.ys.length h.2
def frows : List Fr → List Hd → List Value
  | g :: gs, h :: hs => frows gs hs ++ frow g h
  | _, _ => []
def KidOk (wx : World) (B : Nat) (F : Nat → Prop) (g : Fr) (h : Hd) : Prop :=
  ∃ cs : List (List Value), cs.length = g.ys.length ∧ wx.ownsRow B 57 10 (.slice h.1 g.ys.length h.2) g.ys.length cs.flatten ∧
    (∀ (i : Nat) (x : List Value) (y : Nd), cs[i]? = some x → g.ys[i]? = some y → RNd wx F x y) ∧ g.f.length ≤ maxLen
def KidsOk (wx : World) (B : Nat) (F : Nat → Prop) : List Fr → List Hd → Prop
  | [], [] => True
  | g :: gs, h :: hs => KidOk wx B F g h ∧ KidsOk wx B F gs hs
  | _, _ => False
/-- the blocks that are no array of what stands open -/
def Fre (wx : World) (B : Nat) (A : Option Addr) (hs : List Hd) (i : Nat) : Prop := B ≤ i ∧ i < wx.heap.size ∧ i ∉ obs A hs
structure Op (B : Nat) (fs : List Fr) (hs : List Hd) (A : Option Addr) (c : Nat) (wx : World) : Prop where
  own : wx.ownsRow B 57 10 (.slice A fs.length c) fs.length (frows fs hs)
  kids : KidsOk wx B (Fre wx B A hs) fs hs
  nodup : (obs A hs).Nodup
section
variable {wx wy : World} {B : Nat} {F F' : Nat → Prop} {g : Fr} {gs fs : List Fr} {h : Hd} {hs : List Hd} {A : Option Addr} {c : Nat}
theorem ob_own {A : Option Addr} {n c i : Nat} : (Value.slice A n c).ownBlock = some i ↔ A.map (·.block) = some i := by
  cases A <;> simp [Value.ownBlock]
theorem obs_mem {i : Nat} : i ∈ obs A hs ↔ A.map (·.block) = some i ∨ ∃ h ∈ hs, h.1.map (·.block) = some i := by
  unfold obs
  rw [List.mem_filterMap]
  constructor
  · rintro ⟨a, ha, e⟩
    rcases List.mem_cons.1 ha with rfl | ha
    · exact .inl e
    · obtain ⟨h, hh, rfl⟩ := List.mem_map.1 ha
      exact .inr ⟨h, hh, e⟩
  · rintro (e | ⟨h, hh, e⟩)
    · exact ⟨A, List.mem_cons_self .., e⟩
    · exact ⟨h.1, List.mem_cons_of_mem _ (List.mem_map.2 ⟨h, hh, rfl⟩), e⟩
theorem KidOk.more (hk : KidOk wx B F g h) (hF : ∀ i, F i → F' i) : KidOk wx B F' g h := by
  obtain ⟨cs, h1, h2, h3, h4⟩ := hk
  exact ⟨cs, h1, h2, fun i x y a b => (h3 i x y a b).more hF, h4⟩
theorem KidsOk.more : ∀ {gs : List Fr} {hs : List Hd}, KidsOk wx B F gs hs → (∀ i, F i → F' i) → KidsOk wx B F' gs hs
  | [], [], _, _ => trivial
  | _ :: _, _ :: _, hk, hF => ⟨hk.1.more hF, KidsOk.more hk.2 hF⟩
theorem KidOk.far {D : Nat → Prop} (hk : KidOk wx B F g h) (hf : Far D wx wy) (hF : ∀ i, F i → i < wx.heap.size ∧ ¬ D i) (hD : ∀ i, h.1.map (·.block) = some i → ¬ D i) : KidOk wy B F g h := by
  obtain ⟨cs, h1, h2, h3, h4⟩ := hk
  exact ⟨cs, h1, hf.own h2 fun g e => hD g (ob_own.1 e), fun i x y a b => (h3 i x y a b).keep fun p hp => hf.cell (hF _ hp).1 (hF _ hp).2, h4⟩
theorem KidsOk.far {D : Nat → Prop} : ∀ {gs : List Fr} {hs : List Hd}, KidsOk wx B F gs hs → Far D wx wy → (∀ i, F i → i < wx.heap.size ∧ ¬ D i) → (∀ h ∈ hs, ∀ i, h.1.map (·.block) = some i → ¬ D i) → KidsOk wy B F gs hs
  | [], [], _, _, _, _ => trivial
  | _ :: _, _ :: _, hk, hf, hF, hD => ⟨hk.1.far hf hF (hD _ (List.mem_cons_self ..)), KidsOk.far hk.2 hf hF fun h hh => hD h (List.mem_cons_of_mem _ hh)⟩
theorem KidsOk.ge : ∀ {gs : List Fr} {hs : List Hd}, KidsOk wx B F gs hs → ∀ h ∈ hs, ∀ i, h.1.map (·.block) = some i → B ≤ i ∧ i < wx.heap.size
  | [], [], _, h, hh, _, _ => by simp at hh
  | _ :: _, h0 :: _, hk, h, hh, i, e => by
    rcases List.mem_cons.1 hh with rfl | hh
    · obtain ⟨cs, h1, h2, _⟩ := hk.1
      exact h2.lt i (ob_own.2 e)
    · exact hk.2.ge h hh i e
theorem KidsOk.len : ∀ {gs : List Fr} {hs : List Hd}, KidsOk wx B F gs hs → gs.length = hs.length
  | [], [], _ => rfl
  | _ :: _, _ :: _, hk => by simp [hk.2.len]
theorem frows_len : ∀ {gs : List Fr} {hs : List Hd}, gs.length = hs.length → (frows gs hs).length = gs.length * 10
  | [], [], _ => rfl
  | _ :: gs, _ :: hs, e => by
    simp only [List.length_cons, Nat.add_right_cancel_iff] at e
    simp only [frows, List.length_append, frows_len e, List.length_cons, frow, ndRow, List.length_nil]; omega
  | [], _ :: _, e => by simp at e
  | _ :: _, [], e => by simp at e
/-- Blocks below B, and new ones, may change. -/
theorem Op.far (ho : Op B fs hs A c wx) (hf : Far (fun i => i < B) wx wy) : Op B fs hs A c wy where
  own := hf.own ho.own fun i e => by have := (ho.own.lt i e).1; omega
  kids := (ho.kids.far hf (fun i hi => ⟨hi.2.1, by have := hi.1; omega⟩) fun h hh i e => by have := (ho.kids.ge h hh i e).1; omega).more fun i hi => ⟨hi.1, Nat.lt_of_lt_of_le hi.2.1 hf.size, hi.2.2⟩
  nodup := ho.nodup
theorem Op.below (ho : Op B fs hs A c wx) (hb : Below wx.heap.size wx wy) : Op B fs hs A c wy := ho.far (Far.of_below _ hb)
theorem Op.nil (w : World) : Op B [] [] none 0 w := ⟨⟨rfl, .inl ⟨rfl, rfl⟩⟩, trivial, by simp [obs]⟩
theorem own_take {base : Nat} {e : TypeId} {size n c : Nat} {A : Option Addr} {xs x : List Value} (ho : wx.ownsRow base e size (.slice A (n + 1) c) (n + 1) (xs ++ x)) (hx : xs.length = n * size) : wx.ownsRow base e size (.slice A n c) n xs := by
  rcases ho.2 with ⟨_, h0⟩ | ⟨g, cap, cur, hv, hb, hh, hc, hm, hs, ht⟩
  · omega
  · injection hv with e1 e2 e3
    subst e1 e3
    refine ⟨hx, .inr ⟨g, _, cur, rfl, hb, hh, by omega, hm, hs, ?_⟩⟩
    have := congrArg (List.take (n * size)) ht
    rw [List.take_take, Nat.min_eq_left (Nat.mul_le_mul_right _ (Nat.le_succ n)), ← hx, List.take_left] at this
    rw [← hx]; exact this
theorem own_set {base : Nat} {e : TypeId} {size n c b p : Nat} {xs : List Value} (ho : wx.ownsRow base e size (.slice (some ⟨b, 0, none⟩) n c) n xs) (hp : p < n * size) (u : Value) : (wx.setCell ⟨b, p, none⟩ u).ownsRow base e size (.slice (some ⟨b, 0, none⟩) n c) n (xs.set p u) := by
  rcases ho.2 with ⟨h0, _⟩ | ⟨g, cap, cur, hv, hb, hh, hc, hm, hs, ht⟩
  · cases h0
  · injection hv with e1 e2 e3
    injection e1 with e1; injection e1 with e1
    subst e1 e3
    have hW : Whole wx b e cur.toList := by unfold Whole; simpa using hh
    have hW2 := hW.set_ p u
    unfold Whole at hW2
    refine ⟨by simp [ho.1], .inr ⟨b, _, _, rfl, hb, hW2, hc, hm, by simp [hs], ?_⟩⟩
    rw [List.toList_toArray, ← ht, List.take_set]
theorem frow_push (g : Fr) (h : Hd) (n : Nd) (h' : Hd) : frow (g.push n) h' = (frow g h).set 9 (.slice h'.1 (g.ys.length + 1) h'.2) := by
  simp [frow, Fr.push, ndRow]
/-- The top one is taken off. -/
theorem Op.pop (ho : Op B (g :: gs) (h :: hs) A c wx) : Op B gs hs A c wx ∧ RNd wx (Fre wx B A hs) (frow g h) g.shut := by
  have hl := ho.kids.2.len
  have hF : ∀ i, Fre wx B A (h :: hs) i → Fre wx B A hs i := fun i hi => ⟨hi.1, hi.2.1, fun hm => hi.2.2 (by
    rcases obs_mem.1 hm with e | ⟨h', hh, e⟩
    · exact obs_mem.2 (.inl e)
    · exact obs_mem.2 (.inr ⟨h', List.mem_cons_of_mem _ hh, e⟩))⟩
  have hnd := ho.nodup
  refine ⟨⟨own_take ho.own (frows_len hl), ho.kids.2.more hF, ?_⟩, ?_⟩
  · refine List.Nodup.sublist ?_ hnd
    unfold obs
    exact List.Sublist.filterMap _ (List.Sublist.cons_cons _ (List.sublist_cons_self _ _))
  · obtain ⟨cs, h1, h2, h3, h4⟩ := ho.kids.1
    obtain ⟨A', c', he, k1, k2, hr⟩ := own_formK h2
    injection he with e1 _ e2
    subst e1 e2
    refine RNd.shut k1 k2 (Nat.zero_le _) (Nat.zero_le _) h4 ⟨cs, rfl, h1, hr.more fun i hi => ?_, fun i x y a b => (h3 i x y a b).more hF⟩
    have hlt := h2.lt i hi
    refine ⟨hlt.1, hlt.2, fun hm => ?_⟩
    have e := ob_own.1 hi
    unfold obs at hnd
    rw [List.map_cons, List.filterMap_cons, List.filterMap_cons] at hnd
    rcases obs_mem.1 hm with e' | ⟨h', hh, e'⟩
    · rw [e, e'] at hnd
      simp at hnd
    · rw [e] at hnd
      have hin : i ∈ (hs.map (·.1)).filterMap fun a => a.map (·.block) := List.mem_filterMap.2 ⟨h'.1, List.mem_map.2 ⟨h', hh, rfl⟩, e'⟩
      cases hA : A.map (·.block) with
      | none => rw [hA] at hnd; exact (List.nodup_cons.1 hnd).1 hin
      | some q => rw [hA] at hnd; exact (List.nodup_cons.1 (List.nodup_cons.1 hnd).2).1 hin
/-- A new one is opened. -/
theorem Op.open_ (ho : Op B fs hs A c wx) {A' : Option Addr} {c' : Nat} {k : Int} {f : Qm.W} {no : Bool} (hf : f.length ≤ maxLen)
    (hown : wy.ownsRow B 57 10 (.slice A' (fs.length + 1) c') (fs.length + 1) (frows fs hs ++ ndRow k At.zero f no none 0 0)) (hg : wx.grownBy wy (Value.slice A fs.length c).ownBlock)
    (hv : (Value.slice A' (fs.length + 1) c').ownBlock = (Value.slice A fs.length c).ownBlock ∨ (Value.slice A' (fs.length + 1) c').ownBlock = some wx.heap.size) :
    Op B (⟨k, f, no, []⟩ :: fs) ((none, 0) :: hs) A' c' wy := by
  have f1 : Far (fun i => A.map (·.block) = some i) wx wy := Far.of_grown hg fun i e => ob_own.1 e.symm
  have ho' : ∀ i, i ∈ obs A' ((none, 0) :: hs) → i ∈ obs A hs ∨ i = wx.heap.size := fun i hi => by
    rcases obs_mem.1 hi with e | ⟨h', hh, e⟩
    · have e2 := (ob_own (A := A') (n := fs.length + 1) (c := c')).2 e
      rcases hv with hv | hv
      · rw [hv] at e2; exact .inl (obs_mem.2 (.inl (ob_own.1 e2)))
      · rw [hv] at e2; injection e2 with e2; exact .inr e2.symm
    · rcases List.mem_cons.1 hh with rfl | hh
      · cases e
      · exact .inl (obs_mem.2 (.inr ⟨h', hh, e⟩))
  have hnd := ho.nodup
  have hnk : ∀ h ∈ hs, ∀ i, h.1.map (·.block) = some i → ¬ A.map (·.block) = some i := fun h hh i e e2 => by
    unfold obs at hnd
    rw [List.filterMap_cons, e2] at hnd
    exact (List.nodup_cons.1 hnd).1 (List.mem_filterMap.2 ⟨h.1, List.mem_map.2 ⟨h, hh, rfl⟩, e⟩)
  refine ⟨hown, ⟨⟨[], rfl, ⟨rfl, .inl ⟨rfl, rfl⟩⟩, fun i x y a => by simp at a, hf⟩, ?_⟩, ?_⟩
  · refine KidsOk.more (F := Fre wx B A hs) (ho.kids.far f1 (fun i hi => ⟨hi.2.1, fun e => hi.2.2 (obs_mem.2 (.inl e))⟩) hnk) fun i hi => ⟨hi.1, Nat.lt_of_lt_of_le hi.2.1 f1.size, fun hm => ?_⟩
    rcases ho' i hm with h1 | h1
    · exact hi.2.2 h1
    · have := hi.2.1; omega
  · unfold obs at hnd ⊢
    rw [List.map_cons, List.filterMap_cons, List.filterMap_cons]
    rw [List.filterMap_cons] at hnd
    have hrest : ((hs.map (·.1)).filterMap fun a => a.map (·.block)).Nodup := by
      cases hA : A.map (·.block) with
      | none => rw [hA] at hnd; exact hnd
      | some q => rw [hA] at hnd; exact (List.nodup_cons.1 hnd).2
    cases hA' : A'.map (·.block) with
    | none => exact hrest
    | some q =>
      refine List.nodup_cons.2 ⟨fun hin => ?_, hrest⟩
      obtain ⟨a, ha, e⟩ := List.mem_filterMap.1 hin
      obtain ⟨h', hh, rfl⟩ := List.mem_map.1 ha
      have e2 := (ob_own (A := A') (n := fs.length + 1) (c := c')).2 hA'
      rcases hv with hv | hv
      · rw [hv] at e2; exact hnk h' hh q e (ob_own.1 e2)
      · rw [hv] at e2; injection e2 with e2
        have := (ho.kids.ge h' hh q e).2; omega
theorem nd2 {a b : Option Nat} {l : List Nat} : ((a.toList ++ (b.toList ++ l)).Nodup) ↔ (a.toList ++ l).Nodup ∧ (b.toList ++ l).Nodup ∧ (∀ q, a = some q → ¬ b = some q) := by
  cases a <;> cases b <;> simp [List.nodup_cons, eq_comm] <;> grind
theorem obs_eq (A : Option Addr) (h : Hd) (hs : List Hd) : obs A (h :: hs) = (A.map (·.block)).toList ++ ((h.1.map (·.block)).toList ++ (hs.map (·.1)).filterMap fun a => a.map (·.block)) := by
  unfold obs
  rw [List.map_cons, List.filterMap_cons, List.filterMap_cons]
  cases A.map (·.block) <;> cases h.1.map (·.block) <;> simp_all
/-- The top one gets a kid. -/
theorem Op.push {b : Nat} (ho : Op B (g :: gs) (h :: hs) (some ⟨b, 0, none⟩) c wx) {x : List Value} {n : Nd} (hx : RNd wx (Fre wx B (some ⟨b, 0, none⟩) (h :: hs)) x n) {cs : List (List Value)} (hcs : cs.length = g.ys.length)
    (hkid : ∀ (i : Nat) (x : List Value) (y : Nd), cs[i]? = some x → g.ys[i]? = some y → RNd wx (Fre wx B (some ⟨b, 0, none⟩) (h :: hs)) x y) {A' : Option Addr} {c' : Nat}
    (hown : wy.ownsRow B 57 10 (.slice A' (g.ys.length + 1) c') (g.ys.length + 1) (cs.flatten ++ x)) (hg : wx.grownBy wy (Value.slice h.1 g.ys.length h.2).ownBlock)
    (hv : (Value.slice A' (g.ys.length + 1) c').ownBlock = (Value.slice h.1 g.ys.length h.2).ownBlock ∨ (Value.slice A' (g.ys.length + 1) c').ownBlock = some wx.heap.size) :
    Op B (g.push n :: gs) ((A', c') :: hs) (some ⟨b, 0, none⟩) c (wy.setCell ⟨b, gs.length * 10 + 9, none⟩ (.slice A' (g.ys.length + 1) c')) ∧
      (∀ {x : List Value} {y : Nd}, RNd wx (Fre wx B (some ⟨b, 0, none⟩) (h :: hs)) x y → RNd (wy.setCell ⟨b, gs.length * 10 + 9, none⟩ (.slice A' (g.ys.length + 1) c')) (Fre (wy.setCell ⟨b, gs.length * 10 + 9, none⟩ (.slice A' (g.ys.length + 1) c')) B (some ⟨b, 0, none⟩) ((A', c') :: hs)) x y) ∧ ¬ A'.map (·.block) = some b := by
  obtain ⟨_, _, _, _, hfl⟩ := ho.kids.1
  have hl := ho.kids.2.len
  have f1 : Far (fun i => h.1.map (·.block) = some i) wx wy := Far.of_grown hg fun i e => ob_own.1 e.symm
  have hb := ho.own.lt b rfl
  have hnd := ho.nodup
  rw [obs_eq, nd2] at hnd
  obtain ⟨n1, n2, n3⟩ := hnd
  have n4 : ¬ h.1.map (·.block) = some b := fun e => n3 b rfl e
  have ho' : ∀ i, A'.map (·.block) = some i → h.1.map (·.block) = some i ∨ i = wx.heap.size := fun i e => by
    have e2 := (ob_own (A := A') (n := g.ys.length + 1) (c := c')).2 e
    rcases hv with hv | hv
    · rw [hv] at e2; exact .inl (ob_own.1 e2)
    · rw [hv] at e2; injection e2 with e2; exact .inr e2.symm
  have n5 : ¬ A'.map (·.block) = some b := fun e => by
    rcases ho' b e with h1 | h1
    · exact n4 h1
    · omega
  have n6 : ∀ h' ∈ hs, ∀ i, h'.1.map (·.block) = some i → ¬ h.1.map (·.block) = some i := fun h' hh i e e2 => by
    rw [e2] at n2
    exact (List.nodup_cons.1 n2).1 (List.mem_filterMap.2 ⟨h'.1, List.mem_map.2 ⟨h', hh, rfl⟩, e⟩)
  have n7 : ∀ h' ∈ hs, ¬ h'.1.map (·.block) = some b := fun h' hh e => (List.nodup_cons.1 n1).1 (List.mem_filterMap.2 ⟨h'.1, List.mem_map.2 ⟨h', hh, rfl⟩, e⟩)
  have f2 : Far (fun i => i = b) wy (wy.setCell ⟨b, gs.length * 10 + 9, none⟩ (.slice A' (g.ys.length + 1) c')) := Far.set_ (D := fun i => i = b) rfl _ _
  have hF : ∀ i, Fre wx B (some ⟨b, 0, none⟩) (h :: hs) i → Fre (wy.setCell ⟨b, gs.length * 10 + 9, none⟩ (.slice A' (g.ys.length + 1) c')) B (some ⟨b, 0, none⟩) ((A', c') :: hs) i := fun i hi => by
    refine ⟨hi.1, Nat.lt_of_lt_of_le hi.2.1 (Nat.le_trans f1.size f2.size), fun hm => ?_⟩
    rcases obs_mem.1 hm with e | ⟨h', hh, e⟩
    · exact hi.2.2 (obs_mem.2 (.inl e))
    · rcases List.mem_cons.1 hh with rfl | hh
      · rcases ho' i e with h1 | h1
        · exact hi.2.2 (obs_mem.2 (.inr ⟨h, List.mem_cons_self .., h1⟩))
        · have := hi.2.1; omega
      · exact hi.2.2 (obs_mem.2 (.inr ⟨h', List.mem_cons_of_mem _ hh, e⟩))
  have k1 : ∀ i, Fre wx B (some ⟨b, 0, none⟩) (h :: hs) i → i < wx.heap.size ∧ ¬ h.1.map (·.block) = some i := fun i hi => ⟨hi.2.1, fun e => hi.2.2 (obs_mem.2 (.inr ⟨h, List.mem_cons_self .., e⟩))⟩
  have k2 : ∀ i, Fre wx B (some ⟨b, 0, none⟩) (h :: hs) i → i < wy.heap.size ∧ ¬ i = b := fun i hi => ⟨Nat.lt_of_lt_of_le hi.2.1 f1.size, fun e => hi.2.2 (obs_mem.2 (.inl (by rw [e]; rfl)))⟩
  have mv : ∀ {x : List Value} {y : Nd}, RNd wx (Fre wx B (some ⟨b, 0, none⟩) (h :: hs)) x y → RNd (wy.setCell ⟨b, gs.length * 10 + 9, none⟩ (.slice A' (g.ys.length + 1) c')) (Fre (wy.setCell ⟨b, gs.length * 10 + 9, none⟩ (.slice A' (g.ys.length + 1) c')) B (some ⟨b, 0, none⟩) ((A', c') :: hs)) x y := fun hr =>
    ((hr.keep fun p hp => f1.cell (k1 _ hp).1 (k1 _ hp).2).keep fun p hp => f2.cell (k2 _ hp).1 (k2 _ hp).2).more hF
  have hlen : (g.push n).ys.length = g.ys.length + 1 := by simp [Fr.push]
  refine ⟨⟨?_, ⟨⟨cs ++ [x], by simp [hcs, hlen], ?_, fun i x' y' h1 h2 => ?_, hfl⟩, ?_⟩, ?_⟩, mv, n5⟩
  · have e1 := f1.own ho.own (fun i e => by have := ob_own.1 e; simp at this; subst this; exact n4)
    have e2 := own_set e1 (p := gs.length * 10 + 9) (by simp; omega) (.slice A' (g.ys.length + 1) c')
    have e3 : (frows (g :: gs) (h :: hs)).set (gs.length * 10 + 9) (.slice A' (g.ys.length + 1) c') = frows (g.push n :: gs) ((A', c') :: hs) := by
      simp only [frows]
      rw [frow_push g h n (A', c'), List.set_append_right _ _ (by rw [frows_len hl]; omega), frows_len hl]
      congr 2; omega
    rw [e3] at e2
    exact e2
  · rw [hlen, List.flatten_append]
    have := f2.own hown fun i e => by have := ob_own.1 e; intro e'; subst e'; exact n5 this
    simpa using this
  · by_cases hj : i < cs.length
    · rw [List.getElem?_append_left hj] at h1
      have h2' : g.ys[i]? = some y' := by
        have : (g.push n).ys = g.ys ++ [n] := rfl
        rwa [this, List.getElem?_append_left (by omega)] at h2
      exact mv (hkid i x' y' h1 h2')
    · have hj' : i = cs.length := by have := (List.getElem?_eq_some_iff.1 h1).1; simp at this; omega
      subst hj'
      rw [List.getElem?_append_right (Nat.le_refl _), Nat.sub_self] at h1
      have : (g.push n).ys = g.ys ++ [n] := rfl
      rw [this, hcs, List.getElem?_append_right (Nat.le_refl _), Nat.sub_self] at h2
      simp only [List.getElem?_cons_zero, Option.some.injEq] at h1 h2
      subst h1 h2
      exact mv hx
  · exact ((ho.kids.2.far f1 k1 n6).far f2 k2 fun h' hh i e e' => by subst e'; exact n7 h' hh e).more hF
  · rw [obs_eq, nd2]
    refine ⟨n1, ?_, fun q e e2 => by simp at e; subst e; exact n5 e2⟩
    cases hA' : A'.map (·.block) with
    | none =>
      cases hh : h.1.map (·.block) with
      | none => rw [hh] at n2; exact n2
      | some q => rw [hh] at n2; exact (List.nodup_cons.1 n2).2
    | some q =>
      rcases ho' q hA' with h1 | h1
      · rw [h1] at n2; exact n2
      · refine List.nodup_cons.2 ⟨fun hin => ?_, ?_⟩
        · obtain ⟨a, ha, e⟩ := List.mem_filterMap.1 hin
          obtain ⟨h', hh, rfl⟩ := List.mem_map.1 ha
          have := (ho.kids.ge h' (List.mem_cons_of_mem _ hh) q e).2
          omega
        · cases hh : h.1.map (·.block) with
          | none => rw [hh] at n2; exact n2
          | some q => rw [hh] at n2; exact (List.nodup_cons.1 n2).2
/-- Ten stores into the last element of an owned row. -/
theorem own_set10 {base : Nat} {e : TypeId} {k c b : Nat} {ys z : List Value} (ho : wx.ownsRow base e 10 (.slice (some ⟨b, 0, none⟩) (k + 1) c) (k + 1) (ys ++ z)) (hy : ys.length = k * 10) (v0 v1 v2 v3 v4 v5 v6 v7 v8 v9 : Value) :
    ∃ wz, (((((((((((wx.setCell ⟨b, k * 10, none⟩ v0).setCell ⟨b, k * 10 + 1, none⟩ v1).setCell ⟨b, k * 10 + 2, none⟩ v2).setCell ⟨b, k * 10 + 3, none⟩ v3).setCell ⟨b, k * 10 + 4, none⟩ v4).setCell ⟨b, k * 10 + 5, none⟩ v5).setCell ⟨b, k * 10 + 6, none⟩ v6).setCell ⟨b, k * 10 + 7, none⟩ v7).setCell ⟨b, k * 10 + 8, none⟩ v8).setCell ⟨b, k * 10 + 9, none⟩ v9)) = wz ∧
      wz.ownsRow base e 10 (.slice (some ⟨b, 0, none⟩) (k + 1) c) (k + 1) (ys ++ [v0, v1, v2, v3, v4, v5, v6, v7, v8, v9]) ∧ Far (fun i => i = b) wx wz ∧ wz.heap.size = wx.heap.size := by
  have hz : z.length = 10 := by have := ho.1; simp only [List.length_append] at this; omega
  refine ⟨_, rfl, ?_, ?_, ?_⟩
  · have st : ∀ {w : World} {zs : List Value} (j : Nat) (u : Value), zs.length = 10 → j < 10 → w.ownsRow base e 10 (.slice (some ⟨b, 0, none⟩) (k + 1) c) (k + 1) (ys ++ zs) → (w.setCell ⟨b, k * 10 + j, none⟩ u).ownsRow base e 10 (.slice (some ⟨b, 0, none⟩) (k + 1) c) (k + 1) (ys ++ zs.set j u) := fun j u hl hj h => by
      have := own_set h (p := k * 10 + j) (by omega) u
      rwa [List.set_append_right _ _ (by omega), hy, Nat.add_sub_cancel_left] at this
    match z, hz with
    | [y0, y1, y2, y3, y4, y5, y6, y7, y8, y9], _ =>
      exact st 9 v9 rfl (by decide) (st 8 v8 rfl (by decide) (st 7 v7 rfl (by decide) (st 6 v6 rfl (by decide) (st 5 v5 rfl (by decide) (st 4 v4 rfl (by decide) (st 3 v3 rfl (by decide) (st 2 v2 rfl (by decide) (st 1 v1 rfl (by decide) (st 0 v0 rfl (by decide) ho)))))))))
  · have st : ∀ (wx : World) (i : Nat) (u : Value), Far (fun i => i = b) wx (wx.setCell ⟨b, i, none⟩ u) := fun wx i u => Far.set_ (D := fun i => i = b) rfl i u
    refine (st wx _ v0).trans ((st _ _ v1).trans ((st _ _ v2).trans ((st _ _ v3).trans ((st _ _ v4).trans ((st _ _ v5).trans ((st _ _ v6).trans ((st _ _ v7).trans ((st _ _ v8).trans (st _ _ v9) ?_) ?_) ?_) ?_) ?_) ?_) ?_) ?_) ?_ <;> exact fun _ _ h => h
  · simp only [World.setCell, Array.size_modify]
theorem fr_push_inj {g : Fr} {n : Nd} : (g.push n).ys.length = g.ys.length + 1 := by simp [Fr.push]
/-- The last kid of the top one is written anew. -/
theorem Op.refill {b : Nat} {n0 n : Nd} (ho : Op B (g.push n0 :: gs) ((some ⟨b, 0, none⟩, h.2) :: hs) A c wx) {v0 v1 v2 v3 v4 v5 v6 v7 v8 v9 : Value}
    (hx : RNd wx (Fre wx B A ((some ⟨b, 0, none⟩, h.2) :: hs)) [v0, v1, v2, v3, v4, v5, v6, v7, v8, v9] n) {wz : World}
    (hwz : (((((((((((wx.setCell ⟨b, g.ys.length * 10, none⟩ v0).setCell ⟨b, g.ys.length * 10 + 1, none⟩ v1).setCell ⟨b, g.ys.length * 10 + 2, none⟩ v2).setCell ⟨b, g.ys.length * 10 + 3, none⟩ v3).setCell ⟨b, g.ys.length * 10 + 4, none⟩ v4).setCell ⟨b, g.ys.length * 10 + 5, none⟩ v5).setCell ⟨b, g.ys.length * 10 + 6, none⟩ v6).setCell ⟨b, g.ys.length * 10 + 7, none⟩ v7).setCell ⟨b, g.ys.length * 10 + 8, none⟩ v8).setCell ⟨b, g.ys.length * 10 + 9, none⟩ v9)) = wz) :
    Op B (g.push n :: gs) ((some ⟨b, 0, none⟩, h.2) :: hs) A c wz ∧ Far (fun i => i = b) wx wz := by
  obtain ⟨cs, h1, h2, h3, h4⟩ := ho.kids.1
  have hnd := ho.nodup
  rw [obs_eq, nd2] at hnd
  obtain ⟨n1, n2, n3⟩ := hnd
  rw [fr_push_inj] at h1 h2
  obtain ⟨cs0, cl, rfl⟩ : ∃ cs0 cl, cs = cs0 ++ [cl] := by
    rcases List.eq_nil_or_concat cs with rfl | ⟨a, l, rfl⟩
    · simp at h1
    · exact ⟨a, l, by simp⟩
  have hc0 : cs0.length = g.ys.length := by simpa using h1
  have hten : ∀ x ∈ cs0, x.length = 10 := fun x hx => by
    obtain ⟨i, hi, e⟩ := List.mem_iff_getElem.1 hx
    exact (h3 i x ((g.push n0).ys[i]'(by rw [fr_push_inj]; omega)) (by rw [List.getElem?_append_left hi, ← e]; exact List.getElem?_eq_getElem hi) (List.getElem?_eq_getElem _)).ten
  have hfl : cs0.flatten.length = g.ys.length * 10 := by
    rw [← hc0]
    clear h1 h2 h3 hc0
    induction cs0 with
    | nil => rfl
    | cons x r ih => simp only [List.flatten_cons, List.length_append, hten x (List.mem_cons_self ..), ih fun y hy => hten y (List.mem_cons_of_mem _ hy), List.length_cons]; omega
  have ef : (cs0 ++ [cl]).flatten = cs0.flatten ++ cl := by simp
  rw [ef] at h2
  obtain ⟨wz', e1, o1, f1, z1⟩ := own_set10 h2 hfl v0 v1 v2 v3 v4 v5 v6 v7 v8 v9
  obtain rfl : wz' = wz := e1.symm.trans hwz
  have hF : ∀ i, Fre wx B A ((some ⟨b, 0, none⟩, h.2) :: hs) i → i < wx.heap.size ∧ ¬ i = b := fun i hi => ⟨hi.2.1, fun e => hi.2.2 (obs_mem.2 (.inr ⟨_, List.mem_cons_self .., by rw [e]; rfl⟩))⟩
  have hF2 : ∀ i, Fre wx B A ((some ⟨b, 0, none⟩, h.2) :: hs) i → Fre wz' B A ((some ⟨b, 0, none⟩, h.2) :: hs) i := fun i hi => ⟨hi.1, by rw [z1]; exact hi.2.1, hi.2.2⟩
  have mv : ∀ {x : List Value} {y : Nd}, RNd wx (Fre wx B A ((some ⟨b, 0, none⟩, h.2) :: hs)) x y → RNd wz' (Fre wz' B A ((some ⟨b, 0, none⟩, h.2) :: hs)) x y := fun hr => (hr.keep fun p hp => f1.cell (hF _ hp).1 (hF _ hp).2).more hF2
  refine ⟨⟨?_, ⟨⟨cs0 ++ [[v0, v1, v2, v3, v4, v5, v6, v7, v8, v9]], by rw [fr_push_inj]; simp [hc0], ?_, fun i x' y' a1 a2 => ?_, h4⟩, ?_⟩, ho.nodup⟩, f1⟩
  · have := f1.own ho.own fun i e => by
      have := ob_own.1 e
      intro e'; subst e'
      exact n3 _ this rfl
    have e : frows (g.push n0 :: gs) ((some ⟨b, 0, none⟩, h.2) :: hs) = frows (g.push n :: gs) ((some ⟨b, 0, none⟩, h.2) :: hs) := by
      simp only [frows]; congr 1; rw [frow_push g h n0, frow_push g h n]
    rw [e] at this
    exact this
  · rw [fr_push_inj]; simpa using o1
  · by_cases hj : i < cs0.length
    · have a1' : (cs0 ++ [cl])[i]? = some x' := by rw [List.getElem?_append_left hj] at a1 ⊢; exact a1
      have a2' : (g.push n0).ys[i]? = some y' := by
        have q : ∀ m : Nd, (g.push m).ys = g.ys ++ [m] := fun _ => rfl
        rw [q, List.getElem?_append_left (by omega)] at a2 ⊢
        exact a2
      exact mv (h3 i x' y' a1' a2')
    · have hj' : i = cs0.length := by have := (List.getElem?_eq_some_iff.1 a1).1; simp at this; omega
      subst hj'
      rw [List.getElem?_append_right (Nat.le_refl _), Nat.sub_self] at a1
      have q : ∀ m : Nd, (g.push m).ys = g.ys ++ [m] := fun _ => rfl
      rw [q, hc0, List.getElem?_append_right (Nat.le_refl _), Nat.sub_self] at a2
      simp only [List.getElem?_cons_zero, Option.some.injEq] at a1 a2
      subst a1 a2
      exact mv hx
  · refine (ho.kids.2.far f1 hF fun h' hh i e e' => ?_).more hF2
    subst e'
    exact (List.nodup_cons.1 n2).1 (List.mem_filterMap.2 ⟨h'.1, List.mem_map.2 ⟨h', hh, rfl⟩, e⟩)
/-- The top one's row is written anew. -/
theorem Op.retop {b : Nat} {k0 k : Int} {f0 f : Qm.W} {o0 no : Bool} (ho : Op B (⟨k0, f0, o0, []⟩ :: fs) ((none, 0) :: hs) (some ⟨b, 0, none⟩) c wx) (hf : f.length ≤ maxLen) {wz : World}
    (hwz : (((((((((((wx.setCell ⟨b, fs.length * 10, none⟩ (.int .i64 k)).setCell ⟨b, fs.length * 10 + 1, none⟩ (.string ⟨#[]⟩)).setCell ⟨b, fs.length * 10 + 2, none⟩ (.int .i64 0)).setCell ⟨b, fs.length * 10 + 3, none⟩ (.int .i64 0)).setCell ⟨b, fs.length * 10 + 4, none⟩ (.int .i64 0)).setCell ⟨b, fs.length * 10 + 5, none⟩ (.string ⟨#[]⟩)).setCell ⟨b, fs.length * 10 + 6, none⟩ (.bool false)).setCell ⟨b, fs.length * 10 + 7, none⟩ (.string ⟨f.toArray⟩)).setCell ⟨b, fs.length * 10 + 8, none⟩ (.bool no)).setCell ⟨b, fs.length * 10 + 9, none⟩ (.slice none 0 0))) = wz) :
    Op B (⟨k, f, no, []⟩ :: fs) ((none, 0) :: hs) (some ⟨b, 0, none⟩) c wz ∧ Far (fun i => i = b) wx wz := by
  have hl := ho.kids.2.len
  have hnd := ho.nodup
  rw [obs_eq, nd2] at hnd
  obtain ⟨n1, n2, n3⟩ := hnd
  obtain ⟨wz', e1, o1, f1, z1⟩ := own_set10 (k := fs.length) ho.own (frows_len hl) (.int .i64 k) (.string ⟨#[]⟩) (.int .i64 0) (.int .i64 0) (.int .i64 0) (.string ⟨#[]⟩) (.bool false) (.string ⟨f.toArray⟩) (.bool no) (.slice none 0 0)
  obtain rfl : wz' = wz := e1.symm.trans hwz
  have hF : ∀ i, Fre wx B (some ⟨b, 0, none⟩) ((none, 0) :: hs) i → i < wx.heap.size ∧ ¬ i = b := fun i hi => ⟨hi.2.1, fun e => hi.2.2 (obs_mem.2 (.inl (by rw [e]; rfl)))⟩
  refine ⟨⟨o1, ⟨⟨[], rfl, ⟨rfl, .inl ⟨rfl, rfl⟩⟩, fun i x y a => by simp at a, hf⟩, ?_⟩, ho.nodup⟩, f1⟩
  refine (ho.kids.2.far f1 hF fun h' hh i e e' => ?_).more fun i hi => ⟨hi.1, by rw [z1]; exact hi.2.1, hi.2.2⟩
  subst e'
  exact (List.nodup_cons.1 n1).1 (List.mem_filterMap.2 ⟨h'.1, List.mem_map.2 ⟨h', hh, rfl⟩, e⟩)
/-- append, in a region that draws its order. -/
theorem step_append_own {P : Program} {ops : Array Oper} {o : Oper} {a : Act} {w : World} {K : Act → World → Prop} {Q : Exit → Act → World → Prop} {E : Prop} (hgd : o.guard = none) (s x : Operand) (t : TypeId)
    (ho : o.op = .call { callee := .builtin .append, args := #[s, x], argTypes := #[t, t] })
    (base : Nat) (e : TypeId) (i : TypeInfo) (z : Value) (size bytes : Nat) (ht : P.underlying t = some (.slice e)) (hi : P.info? e = some i) (hz : i.zero = some z)
    (hsize : i.size = size) (hby : i.bytes = bytes) (hzs : z.cells.size = size) (hsz : 0 < size)
    (v : Value) (n : Nat) (xs : List Value) (hs : a.eval s = v) (hown : w.ownsRow base e size v n xs)
    (ad : Addr) (m c : Nat) (news : List Value) (hx : a.eval x = .slice (some ad) m c) (hl : news.length = m * size) (hnews : ∀ j u, news[j]? = some u → w.cell? (ad.add j) = some u) (h1 : ∀ u ∈ news, u.oneCell' = true)
    (h63 : n + m ≤ maxLen) (hbytes : (n + m) * bytes ≤ 140737488355328) (hbase : base ≤ w.heap.size)
    (h : ∀ v' w', w'.ownsRow base e size v' (n + m) (xs ++ news) → w.grownBy w' v.ownBlock → (v' = .slice none 0 0 ↔ v = .slice none 0 0 ∧ m = 0) → (v'.ownBlock = v.ownBlock ∨ v'.ownBlock = some w.heap.size) → K (a.put o.dst v') w') :
    if Region.wanted o (yielded ops a.tmps) = true then Oper.wp P o a w K Q else E := by
  have hw : Region.wanted o (yielded ops a.tmps) = true := by simp [Region.wanted, hgd]
  rw [if_pos hw]
  obtain ⟨v', w', hr, h2, h3, h4, h5⟩ := run_append_own_at (P := P) w base t o.type e i z size bytes ht hi hz hsize hby hzs hsz v n xs hown ad m c news hl hnews h1 h63 hbytes hbase
  unfold Oper.wp execOp
  simp only [ho, resolve, invoke, builtin, Sem.run_bind, Sem.run_pure, Result.andThen_ok, List.map_toArray, List.map_cons, List.map_nil, hs, hx, hr]
  exact h v' w' h2 h3 h4 h5
end
end Go.Proofs.YthpkffeiehnamaaGreatDoor
