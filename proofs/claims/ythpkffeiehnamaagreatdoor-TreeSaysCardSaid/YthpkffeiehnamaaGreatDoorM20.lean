/- Parts of the proof: walks and plain laws, side by side. -/
import Derived.Test.YthpkffeiehnamaaGreatDoorM19
import Derived.Laws.EntriesVeiled
import Derived.Maps.AppendAt
import Derived.Test.YthpkffeiehnamaaGreatDoorM1
set_option linter.unusedVariables false
set_option linter.unusedSimpArgs false
set_option linter.unusedSectionVars false
/- quartermasterref.FlagsOf: the state of its loop over the map. -/
namespace Go.Proofs.YthpkffeiehnamaaGreatDoor
open Go.RowKit Qm

/-- The words of K that have come are 'l', the others are still to come. -/
structure Gone (K : Qm.W → Bool) (l : List Qm.W) (left : Lit → Bool) : Prop where
  nodup : l.Nodup
  short : ∀ x ∈ l, x.length ≤ maxLen
  sub : ∀ x : Qm.W, x.length ≤ maxLen → left (.string x) = true → K x = true ∧ x ∉ l
  all : ∀ x : Qm.W, x.length ≤ maxLen → K x = true → x ∈ l ∨ left (.string x) = true
  got : ∀ x ∈ l, K x = true
theorem Gone.start {D : DataW Unit} {K : Qm.W → Bool} (h : ∀ x : Qm.W, x.length ≤ maxLen → Maps.has D (.string x) = K x) : Gone K [] (Maps.has D) :=
  ⟨List.nodup_nil, fun _ h => by simp at h, fun x hx e => ⟨by rw [← h x hx]; exact e, by simp⟩, fun x hx e => .inr (by rw [h x hx]; exact e), fun _ h => by simp at h⟩
theorem Gone.step {K : Qm.W → Bool} {l : List Qm.W} {left : Lit → Bool} (h : Gone K l left) {x : Qm.W} (hx : x.length ≤ maxLen) (hl : left (.string x) = true) : Gone K (l ++ [x]) (fun z => left z && !z.sameKey (.string x)) := by
  obtain ⟨hk, hn⟩ := h.sub x hx hl
  have hs : ∀ y : Qm.W, (Lit.string y).sameKey (.string x) = decide (y = x) := fun y => by
    by_cases e : y = x <;> simp [Lit.sameKey, e]
  refine ⟨List.nodup_append.2 ⟨h.nodup, by simp, fun a ha b hb => ?_⟩, fun y hy => ?_, fun y hy e => ?_, fun y hy e => ?_, fun y hy => ?_⟩
  · obtain rfl : b = x := by simpa using hb
    exact fun e => hn (e ▸ ha)
  · rcases List.mem_append.1 hy with h1 | h1
    · exact h.short y h1
    · obtain rfl : y = x := by simpa using h1
      exact hx
  · simp only [hs, Bool.and_eq_true, Bool.not_eq_true', decide_eq_false_iff_not] at e
    obtain ⟨k1, k2⟩ := h.sub y hy e.1
    exact ⟨k1, by simp [k2, e.2]⟩
  · rcases h.all y hy e with h1 | h1
    · exact .inl (List.mem_append.2 (.inl h1))
    · by_cases ex : y = x
      · exact .inl (by simp [ex])
      · exact .inr (by simp [hs, h1, ex])
  · rcases List.mem_append.1 hy with h1 | h1
    · exact h.got y h1
    · obtain rfl : y = x := by simpa using h1
      exact hk
theorem Gone.done {K : Qm.W → Bool} {l : List Qm.W} {left : Lit → Bool} (h : Gone K l left) (h0 : ∀ kl, left kl = false) {x : Qm.W} (hx : x.length ≤ maxLen) : x ∈ l ↔ K x = true :=
  ⟨h.got x, fun e => (h.all x hx e).resolve_right (by rw [h0]; simp)⟩
end Go.Proofs.YthpkffeiehnamaaGreatDoor

/- A step of a range over a map from strings to bools. -/
namespace Go.Proofs.YthpkffeiehnamaaGreatDoor
open Go.RowKit Qm
open Go.Maps (Keyed)

theorem wpList_next_ranges_sb {P : Program} (w : World) {ops : Array Oper} {rest : List Oper} {o : Oper} {a : Act} {Q : Exit → Act → World → Prop}
    (hg : o.guard = none) (it : Operand) (hop : o.op = Op.next it false) (k e : TypeId) (K : Keyed P k) (hk : P.underlying k = some .string) (he : P.underlying e = some .bool)
    (b r n : Nat) (D : DataW Unit) (left : Lit → Bool) (cnt : Nat) (hit : a.eval it = .pointer (some ⟨r, 0, none⟩)) (h : w.ranges P k (plainElem P e) b r n D left cnt)
    (hDone : cnt = 0 → (∀ kl, left kl = false) → wpList P ops Q rest (a.put o.dst (.tuple #[.bool false])) w)
    (hMore : ∀ (x : Qm.W) (c : Value) (w' : World) (cnt' : Nat), x.length ≤ maxLen → left (.string x) = true → w'.ranges P k (plainElem P e) b r n D (fun z => left z && !z.sameKey (.string x)) cnt' → cnt' < cnt →
      w.grownBy w' (some r) → w'.heap.size = w.heap.size → (Instr.entry (.pointer (some ⟨r, 0, none⟩))).run P w' = .ok (.tuple #[.string ⟨x.toArray⟩, c]) w' → wpList P ops Q rest (a.put o.dst (.tuple #[.bool true, .string ⟨x.toArray⟩, c])) w') :
    wpList P ops Q (o :: rest) a w :=
  wpList_next_ranges w hg it hop k K (plainElem P e) Value.string Value.bool (fun key kl hkey => by obtain ⟨x, rfl, _⟩ := WideMaps.string_of_keyOf hk hkey; exact ⟨x, rfl⟩)
    (fun v y hv => by
      unfold plainElem at hv
      rw [he] at hv
      cases v <;> simp at hv
      exact ⟨_, rfl⟩)
    b r n D left cnt hit h hDone (fun x c kl y w' cnt' hkey hlk hv hat hrg hlt hgr hsz hen => by
      obtain ⟨x', ex, rfl, hwx⟩ := WideMaps.string_of_keyOf hk hkey
      cases ex
      have e1 : (⟨x.data.toList.toArray⟩ : ByteArray) = x := by simp
      have hm := hMore x.data.toList (.bool c) w' cnt' (by rw [← Lib.size_eq]; exact hwx) hlk hrg hlt hgr hsz
      rw [e1] at hm
      exact hm hen)
end Go.Proofs.YthpkffeiehnamaaGreatDoor

/- quartermasterref.FlagsOf, walked. -/
namespace Go.Proofs.YthpkffeiehnamaaGreatDoor
open Go.RowKit Qm
open Go.Maps (Keyed)

structure Fz (w : World) (b r m : Nat) (D : DataW Unit) (K : Qm.W → Bool) (l : List Qm.W) (A : Option Addr) (c : Nat) (left : Lit → Bool) (cnt : Nat) (wr : World) : Prop where
  rg : wr.ranges Tryz.prog 9 (plainElem Tryz.prog 4) b r m D left cnt
  gone : Gone K l left
  own : wr.ownsRow (r + 1) 9 1 (.slice A l.length c) l.length (strs l)
  bel : Below w.heap.size w wr
  lb : w.heap.size ≤ b ∧ w.heap.size ≤ r
  cnt_ : l.length + cnt ≤ m
theorem strs_snoc (l : List Qm.W) (x : Qm.W) : strs (l ++ [x]) = strs l ++ [.string ⟨x.toArray⟩] := by simp [strs]
theorem Fz.step {w wr w1 w2 : World} {b r m : Nat} {D : DataW Unit} {K : Qm.W → Bool} {l : List Qm.W} {A A' : Option Addr} {c c' : Nat} {left : Lit → Bool} {cnt cnt' : Nat} (h : Fz w b r m D K l A c left cnt wr) {x : Qm.W} (hx : x.length ≤ maxLen) (hl : left (.string x) = true)
    (hrg : w1.ranges Tryz.prog 9 (plainElem Tryz.prog 4) b r m D (fun z => left z && !z.sameKey (.string x)) cnt') (hlt : cnt' < cnt) (hg : wr.grownBy w1 (some r)) (hsz : w1.heap.size = wr.heap.size)
    (hown : w2.ownsRow (r + 1) 9 1 (.slice A' (l.length + 1) c') (l.length + 1) (strs l ++ [.string ⟨x.toArray⟩])) (o : Obj) (hg2 : (w1.alloc o).grownBy w2 (Value.slice A l.length c).ownBlock) :
    Fz w b r m D K (l ++ [x]) A' c' (fun z => left z && !z.sameKey (.string x)) cnt' w2 := by
  have hr := h.rg.lt
  have hb := h.rg.owns.lt
  have hne := h.rg.ne
  have hob : ∀ i, (Value.slice A l.length c).ownBlock = some i → r + 1 ≤ i := fun i e => (h.own.lt i e).1
  have hbne : some b ≠ (Value.slice A l.length c).ownBlock := fun e => by
    rcases h.own.2 with ⟨e0, _⟩ | ⟨g, cap, cur, hv, hg1, hg2, _⟩
    · rw [e0] at e; cases e
    · rw [hv] at e
      simp only [Value.ownBlock] at e
      injection e with e
      subst e
      obtain ⟨es, clock, _, _, _, hbb, _⟩ := h.rg
      rw [hbb] at hg2
      cases hg2
  have hrne : some r ≠ (Value.slice A l.length c).ownBlock := fun e => by have := hob r e.symm; omega
  refine ⟨(hrg.alloc o).kept hg2 hbne hrne, h.gone.step hx hl, ?_, ?_, h.lb, ?_⟩
  · rw [strs_snoc]; simpa using hown
  · have b1 : Below w.heap.size wr w1 := below_of_grown hg (Nat.le_trans h.bel.size (Nat.le_refl _)) fun i e => by injection e with e; have := h.lb.2; omega
    have b2 : Below w.heap.size w1 (w1.alloc o) := (Below.refl _ _).alloc (by have := h.bel.size; omega) _
    have b3 : Below w.heap.size (w1.alloc o) w2 := below_of_grown hg2 (by simp; have := h.bel.size; omega) fun i e => by have := hob i e; have := h.lb.2; omega
    exact ((h.bel.trans b1).trans b2).trans b3
  · simp only [List.length_append, List.length_cons, List.length_nil]; have := h.cnt_; omega
theorem new1 (w : World) (x : Value) (t : TypeId) : ∀ j u, [x][j]? = some u → (w.alloc (.cells #[x] t)).cell? ((⟨w.heap.size, 0, none⟩ : Addr).add j) = some u := by
  intro j u hj
  have h := (Whole.new w w.heap.size t [x] rfl).cell j
  have hadd : (⟨w.heap.size, 0, none⟩ : Addr).add j = ⟨w.heap.size, j, none⟩ := by unfold Addr.add; split <;> simp_all
  rw [hadd, ← hj, ← h]
theorem RKids.each {w : World} {S : Nat → Prop} {A : Option Addr} {n : Nat} {ks : List Nd} (h : RKids w S A n ks) : ∀ y ∈ ks, ∃ x, RNd w S x y := by
  intro y hy
  obtain ⟨j, hj, e⟩ := List.mem_iff_getElem.1 hy
  obtain ⟨b, o, x, y', _, _, hy', hr, _⟩ := h.at_ (j := j) (by rw [← h.len]; exact hj)
  rw [List.getElem?_eq_getElem hj, e] at hy'
  injection hy' with hy'
  subst hy'
  exact ⟨x, hr⟩
theorem RNd.flags_len {w : World} {S : Nat → Prop} : ∀ (y : Nd) (x : List Value), RNd w S x y → ∀ f ∈ flagsN y, f.length ≤ maxLen := by
  refine Nd.ind fun k a f no ks ih => ?_
  intro x h
  obtain ⟨A, n, c, rfl, _, _, _, _, h3, hK⟩ := h.open_
  have hL : ∀ (l : List Nd), (∀ y ∈ l, ∀ g ∈ flagsN y, g.length ≤ maxLen) → ∀ g ∈ flagsL l, g.length ≤ maxLen := by
    intro l
    induction l with
    | nil => intro _ g hg; simp [flagsL] at hg
    | cons k r ihr =>
      intro hh g hg
      simp only [flagsL, List.mem_append] at hg
      rcases hg with hg | hg
      · exact hh k (List.mem_cons_self ..) g hg
      · exact ihr (fun y hy => hh y (List.mem_cons_of_mem _ hy)) g hg
  intro g hg
  have hfn : flagsN (.mk k a f no ks) = (if k = 5 then [f] else []) ++ flagsL ks := rfl
  rw [hfn, List.mem_append] at hg
  rcases hg with hg | hg
  · split at hg
    · simp only [List.mem_singleton] at hg; subst hg; exact h3
    · simp at hg
  · exact hL ks (fun y hy => by obtain ⟨x, hx⟩ := hK.each y hy; exact ih y hy x hx) g hg
theorem sortStrings_nil (w : World) : Calls Tryz.prog 91 #[.slice none 0 0] w fun e w' => e = .returned (.tuple #[]) ∧ w' = w := by
  have hs1 := Tryz.slices_Sort_string_none none 0 w
  go_enter Tryz.func91, Tryz.ntmps91
  go_wp2_with (first | (go_at_call 129; refine hs1.mono ?_; rintro e w1 ⟨rfl, rfl⟩))
  go_end0
  exact ⟨rfl, rfl⟩
def RFlagsPost (w : World) (y : Nd) (e : Ending) (w' : World) : Prop :=
  ∃ A c, e = .returned (.slice A (Lib.compact (sortW (flagsN y))).length c) ∧ Row w' (fun i => w.heap.size ≤ i ∧ i < w'.heap.size) A (Lib.compact (sortW (flagsN y))).length (strs (Lib.compact (sortW (flagsN y)))) ∧ (Lib.compact (sortW (flagsN y))).length ≤ c ∧ c ≤ maxLen ∧ Below w.heap.size w w'
theorem str_info : (Tryz.prog.info? 9).map (fun i => (i.zero, i.size, i.bytes)) = some (some (.string ⟨#[]⟩), 1, 16) := by kernel_rfl
set_option maxRecDepth 100000 in
set_option maxHeartbeats 3200000 in
theorem rflags_any (y : Nd) (S : Nat → Prop) (x : List Value) (w : World) (hR : RNd w S x y) (hS : ∀ k, S k → k < w.heap.size) (hlen : (flagsN y).length ≤ 10000) :
    Calls Tryz.prog 54 #[.agg x.toArray] w (RFlagsPost w y) := by
  have Hfc := Lib.hid (fun BM BF b wx h1 h2 h3 => rflagsC_any y S x BM BF b (fun _ => false) 0 wx h1 h2 h3 (by omega))
  unfold RFlagsPost
  have HFL := Lib.hid (hR.flags_len)
  obtain ⟨fs, hfs⟩ : ∃ fs, flagsN y = fs := ⟨_, rfl⟩
  rw [hfs] at Hfc hlen HFL ⊢
  obtain ⟨k, a, f, no, ks⟩ := y
  obtain ⟨A, n, c, rfl, -⟩ := hR.open_
  have HR := Lib.hid hR; have HS := Lib.hid hS
  clear hR hS hfs
  obtain ⟨nm, op, ver, slot, fl, on⟩ := a
  unfold ndRow at Hfc HR ⊢
  have henter : ∀ (args : Array Value) (W : World), (callFunc 90 args).run Tryz.prog W = .ok (.enter 90 args) W := fun args W => by kernel_rfl
  obtain ⟨i0, hi, hz0, hz1, hz2⟩ : ∃ i0, Tryz.prog.info? 9 = some i0 ∧ i0.zero = some (.string ⟨#[]⟩) ∧ i0.size = 1 ∧ i0.bytes = 16 := by
    have h := str_info
    cases hh : Tryz.prog.info? 9 with
    | none => rw [hh] at h; simp at h
    | some i => rw [hh] at h; simp at h; exact ⟨i, rfl, h.1, h.2.1, h.2.2⟩
  have Hi := Lib.hid hi; have Hz0 := Lib.hid hz0; have Hz1 := Lib.hid hz1; have Hz2 := Lib.hid hz2
  clear hi hz0 hz1 hz2
  have hmm := @run_makeMap Tryz.prog
  have hb4 : Below w.heap.size w ((((w.alloc (.cells #[.int .i64 k, .string ⟨nm.toArray⟩, .int .i64 op, .int .i64 ver, .int .i64 slot, .string ⟨fl.toArray⟩, .bool on, .string ⟨f.toArray⟩, .bool no, .slice A n c] 57)).alloc (.map #[] 0)).alloc (.cells #[.map (some (w.heap.size + 1))] 131)).alloc (.cells #[.func (.func 90) #[] #[.pointer (some ⟨w.heap.size + 1 + 1, 0, none⟩), .pointer (some ⟨w.heap.size + 1 + 1 + 1, 0, none⟩)]] 132)) := (((Below.refl _ w).alloc (Nat.le_refl _) _).alloc (by simp) _).alloc (by simp; omega) _ |>.alloc (by simp; omega) _
  have hF0 : Fm (w.heap.size + 1 + 1) (w.heap.size + 1 + 1 + 1) (w.heap.size + 1) (fun _ => false) 0 ((((w.alloc (.cells #[.int .i64 k, .string ⟨nm.toArray⟩, .int .i64 op, .int .i64 ver, .int .i64 slot, .string ⟨fl.toArray⟩, .bool on, .string ⟨f.toArray⟩, .bool no, .slice A n c] 57)).alloc (.map #[] 0)).alloc (.cells #[.map (some (w.heap.size + 1))] 131)).alloc (.cells #[.func (.func 90) #[] #[.pointer (some ⟨w.heap.size + 1 + 1, 0, none⟩), .pointer (some ⟨w.heap.size + 1 + 1 + 1, 0, none⟩)]] 132)) := by
    refine ⟨(Whole.new _ _ _ [.map (some (w.heap.size + 1))] (by simp)).alloc _, Whole.new _ _ _ [_] (by simp), ?_, by omega, by omega⟩
    have hset := StrSet.made Tryz.prog (w.alloc (.cells #[.int .i64 k, .string ⟨nm.toArray⟩, .int .i64 op, .int .i64 ver, .int .i64 slot, .string ⟨fl.toArray⟩, .bool on, .string ⟨f.toArray⟩, .bool no, .slice A n c] 57))
    rw [show (w.alloc (.cells #[.int .i64 k, .string ⟨nm.toArray⟩, .int .i64 op, .int .i64 ver, .int .i64 slot, .string ⟨fl.toArray⟩, .bool on, .string ⟨f.toArray⟩, .bool no, .slice A n c] 57)).heap.size = w.heap.size + 1 by simp] at hset
    exact (hset.kept (World.grownBy_alloc _ _ none) (by simp)).kept (World.grownBy_alloc _ _ none) (by simp)
  have Hcall := Lib.hid (Hfc.out _ _ _ _ (HR.out.under hb4 HS.out) (fun q hq => ⟨Nat.lt_of_lt_of_le (HS.out q hq) hb4.size, by have := HS.out q hq; omega⟩) hF0)
  have HB4 := Lib.hid hb4
  clear hb4 hF0 Hfc HR
  go_enter Tryz.func54, Tryz.ntmps54
  go_wp2_with (first | (go_at_call 90; refine Hcall.out.mono ?_; rintro e w1 ⟨K, m, rfl, hF1, hf1, hk1, hm1⟩; refine Hid.out ?_))
  refine Lib.hid ?_
  have HB1 : Hid (Below w.heap.size w w1) := Lib.hid (HB4.out.trans (hf1.below HB4.out.size fun i e => by omega))
  have HK1 := Lib.hid hk1
  obtain ⟨D, hown, hsz, hD⟩ := hF1.set
  have HO := Lib.hid hown
  have HG : Hid (Gone K [] (Maps.has D)) := Lib.hid (Gone.start fun x hx => (hD x hx).1)
  have HZ := Lib.hid hsz
  have HM1 := Lib.hid hm1
  have m0 := hF1.mp.cell 0
  have m1 := hF1.mp.lt
  simp only [List.getElem?_cons_zero] at m0
  clear Hcall HB4 hF1 hf1 hk1 hm1 hown hsz hD hmm henter
  go_wp2_with (first
    | (at_range; refine wpList_range_own _ rfl _ 131 rfl 9 4 (Maps.string_keyed Tryz.underlying9) Tryz.underlying131 _ (w.heap.size + 1) m D rfl HO.out ?_; intro w0 hrg0 hg0 hs0)
    | go_in)
  go_frame
  have HRG := Lib.hid hrg0
  have HB0 : Hid (Below w.heap.size w w0) := Lib.hid (HB1.out.trans (below_of_grown hg0 HB1.out.size fun i e => by cases e))
  clear hrg0 hg0 hs0 m0 m1
  go_loopw [5, 6] (fun lv _ wr => ∃ (l : List Qm.W) (A' : Option Addr) (c' : Nat) (left : Lit → Bool) (cnt : Nat), Hid (Fz w (w.heap.size + 1) w1.heap.size m D K l A' c' left cnt wr) ∧ lv = .slice A' l.length c') (fun _ _ wr => wr.rangeLeft (w.heap.size + 1) w1.heap.size)
  case atStart =>
    refine ⟨[], none, 0, _, _, Lib.hid ⟨HRG.out, HG.out, World.ownsRow_nil _ _ _ _, HB0.out, ⟨by omega, HB1.out.size⟩, ?_⟩, rfl⟩
    rw [HZ.out]; simp
  case round =>
    obtain ⟨l, A', c', left, cnt, HF, rfl⟩ := hrel
    have hrg := HF.out.rg
    have hrlt := hrg.lt
    go_wp2_with (first
      | (at_next; refine wpList_next_ranges_sb _ rfl _ rfl 9 4 (Maps.string_keyed Tryz.underlying9) Tryz.underlying9 Tryz.underlying4 (w.heap.size + 1) w1.heap.size m D left cnt rfl hrg ?_ ?_)
      | go_in)
    · intro hc0 hl0
      have hdone : Hid (∀ x : Qm.W, x.length ≤ maxLen → (x ∈ l ↔ K x = true)) := Lib.hid fun x hx => HF.out.gone.done hl0 hx
      have hcl : Hid (l.length ≤ m) := Lib.hid (by have := HF.out.cnt_; omega)
      have hsame : Hid (Lib.compact (sortW fs) = sortW l) := Lib.hid (flags_same HF.out.gone.nodup fun x => ⟨fun h => by
        have h1 := HF.out.gone.got x h
        rw [HK1.out] at h1
        simpa using h1, fun h => (hdone.out x (HFL.out x h)).2 (by rw [HK1.out]; simpa using h)⟩).symm
      have hsl : (sortW l).length = l.length := by unfold sortW; rw [List.length_mergeSort]
      clear hrg
      rcases HF.out.own.2 with ⟨hv, hn0⟩ | ⟨g, cap, cur, hv, hg1, hg2, hg3⟩
      · injection hv with e1 e2 e3
        subst e1 e3
        obtain rfl : l = [] := List.eq_nil_of_length_eq_zero e2
        clear hn0 e2
        have hs1 := sortStrings_nil wr
        simp only [List.length_nil]
        go_wp2_with (first | (go_at_call 91; refine hs1.mono ?_; rintro e w5 ⟨rfl, rfl⟩))
        go_ret
        refine ⟨none, 0, ?_, ?_, ?_, Nat.zero_le _, ?_⟩
        · rw [hsame.out, hsl]; rfl
        · have h0 : sortW ([] : List Qm.W) = [] := List.eq_nil_of_length_eq_zero hsl
          rw [hsame.out, h0]; exact Row.nil_
        · rw [hsame.out, hsl]; exact Nat.le_refl _
        · exact HF.out.bel
      · injection hv with e1 e2 e3
        subst e1 e3
        clear hg2 hg3
        have Hso := Lib.hid (sortStrings_any (w1.heap.size + 1) g l.length c' l wr HF.out.own (by have := hcl.out; have := HM1.out; simp at this; omega))
        go_wp2_with (first | (go_at_call 91; refine Hso.out.mono ?_; rintro e w5 ⟨rfl, hown5, hf5⟩; refine Hid.out ?_))
        refine Lib.hid ?_
        go_wp2
        go_ret
        obtain ⟨_, _, he, h1, h2, _⟩ := own_form hown5
        injection he with _ _ he
        subst he
        have hb5 : Below w.heap.size w w5 := HF.out.bel.trans (hf5.below HF.out.bel.size fun i e => by have := HF.out.lb.2; omega)
        refine ⟨some ⟨g, 0, none⟩, c', ?_, ?_, ?_, h2, hb5⟩
        · rw [hsame.out, hsl]; rfl
        · rw [hsame.out, hsl]; exact (own_row hown5).more fun i hi => by have := HF.out.lb.2; omega
        · rw [hsame.out, hsl]; exact h1
    · intro x cv w2 cnt2 hx hlx hrg2 hlt2 hg2 hs2 hen
      have HO2 : Hid (w2.ownsRow (w1.heap.size + 1) 9 1 (.slice A' l.length c') l.length (strs l)) := Lib.hid (HF.out.own.kept hg2 (by
        by_cases h : (Value.slice A' l.length c').ownBlock = some w1.heap.size
        · have := (HF.out.own.lt _ h).1; omega
        · exact .inr h))
      have hl10 : l.length + 1 ≤ 100000 := by have := HF.out.cnt_; have := HM1.out; simp at this; omega
      have HRG2 := Lib.hid hrg2; have HLX := Lib.hid hlx; have HG2 := Lib.hid hg2; have HS2 := Lib.hid hs2; have HX := Lib.hid hx
      have hw2 : w1.heap.size + 1 ≤ w2.heap.size := by omega
      clear hrg2 hrg hg2 hs2 hlx hx
      go_wp2_with (first
        | (at_builtin; refine wpList_append_own_at _ rfl (.tmp 18) (.tmp 20) 54 rfl (w1.heap.size + 1) 9 i0 (.string ⟨#[]⟩) 1 16 Tryz.underlying54 Hi.out Hz0.out Hz1.out Hz2.out rfl (by decide) (.slice A' l.length c') l.length (strs l) rfl (HO2.out.kept (World.grownBy_alloc _ _ none) (by cases hv : (Value.slice A' l.length c').ownBlock <;> simp)) ⟨w2.heap.size, 0, none⟩ 1 1 [.string ⟨x.toArray⟩] rfl rfl (new1 _ _ _) (by simp [Value.oneCell']) (by unfold maxLen; omega) (by omega) (by simp; omega) ?_)
        | go_in)
      intro v' w3 hown3 hg3 _ _
      obtain ⟨A3, c3, rfl, _⟩ := own_formK hown3
      have HF3 := Lib.hid (HF.out.step HX.out HLX.out HRG2.out hlt2 HG2.out HS2.out hown3 _ hg3)
      clear hown3 hg3
      go_wp2_with fail
      go_roundw
      case rel => exact ⟨l ++ [x], A3, c3, _, cnt2, HF3, by simp⟩
      case measure => rw [HF3.out.rg.left_eq, HF.out.rg.left_eq]; exact hlt2
end Go.Proofs.YthpkffeiehnamaaGreatDoor

/- The document's reader with a stack answers as the program's, in plain words. -/
namespace Qm
open Go

/-- What stands open: its kind, flag, whether it has a bang, the kids so far. -/
structure Fr where
  k : Int
  f : W
  no : Bool
  ys : List Nd
def Fr.push (g : Fr) (n : Nd) : Fr := ⟨g.k, g.f, g.no, g.ys ++ [n]⟩
def Fr.shut (g : Fr) : Nd := .mk g.k At.zero g.f g.no g.ys
def putS (rc : List Fr → List W → Option Nd) (n : Nd) : List Fr → List W → Option Nd
  | [], r => if r = [] then some n else none
  | g :: gs, r => rc (g.push n :: gs) r
def openS (rc : List Fr → List W → Option Nd) (g : Fr) (fs : List Fr) : List W → Option Nd
  | [] => none
  | v :: r => if v = [40] then rc (g :: fs) r else none
def shutS (rc : List Fr → List W → Option Nd) : List Fr → List W → Option Nd
  | [], _ => none
  | g :: gs, r => putS rc g.shut gs r
def leafN_ (w : W) : Nd := .mk (if (cutBang w).2 then 2 else 1) (parseAt (cutBang w).1).1 [] false []
def itemS (rc : List Fr → List W → Option Nd) (fs : List Fr) (w : W) (r : List W) : Option Nd :=
  if w = [40] then rc (⟨3, [], false, []⟩ :: fs) r
  else if w = [124, 124] then openS rc ⟨4, [], false, []⟩ fs r
  else if w.getLast? = some 63 then
    (if isName (cutBang w.dropLast).1 then openS rc ⟨5, (cutBang w.dropLast).1, (cutBang w.dropLast).2, []⟩ fs r else none)
  else if (parseAt (cutBang w).1).2 = 0 then putS rc (leafN_ w) fs r else none
def stk : Nat → List Fr → List W → Option Nd
  | 0, _, _ => none
  | _ + 1, _, [] => none
  | f + 1, fs, w :: r => if w = [41] then shutS (stk f) fs r else if fs.length = 4 then none else itemS (stk f) fs w r

theorem stk_fuel : ∀ (f f' : Nat) (fs : List Fr) (ws : List W), ws.length < f → ws.length < f' → stk f fs ws = stk f' fs ws
  | 0, _, _, _, h, _ => by omega
  | _, 0, _, _, _, h => by omega
  | f + 1, f' + 1, fs, [], _, _ => rfl
  | f + 1, f' + 1, fs, w :: r, h, h' => by
    simp only [List.length_cons] at h h'
    have ih := fun fs => stk_fuel f f' fs r (by omega) (by omega)
    have io : ∀ g, openS (stk f) g fs r = openS (stk f') g fs r := fun g => by
      cases r with
      | nil => rfl
      | cons v r2 =>
        simp only [List.length_cons] at h h'
        simp only [openS]; rw [stk_fuel f f' _ r2 (by omega) (by omega)]
    have ip : ∀ n gs, putS (stk f) n gs r = putS (stk f') n gs r := fun n gs => by cases gs <;> simp [putS, ih]
    have is : shutS (stk f) fs r = shutS (stk f') fs r := by cases fs <;> simp [shutS, ip]
    have ii : itemS (stk f) fs w r = itemS (stk f') fs w r := by unfold itemS; rw [ih, io, io, ip]
    simp only [stk, is, ii]

/-- With fuel enough. -/
def STK (fs : List Fr) (ws : List W) : Option Nd := stk (ws.length + 1) fs ws
theorem openS_STK (g : Fr) (fs : List Fr) (r : List W) {f : Nat} (h : r.length ≤ f) : openS (stk f) g fs r = openS STK g fs r := by
  cases r with
  | nil => rfl
  | cons v r2 => simp only [openS]; simp only [List.length_cons] at h; rw [STK, stk_fuel f (r2.length + 1) _ r2 (by omega) (by omega)]
theorem putS_STK (n : Nd) (fs : List Fr) (r : List W) {f : Nat} (h : r.length < f) : putS (stk f) n fs r = putS STK n fs r := by
  cases fs with
  | nil => rfl
  | cons g gs => simp only [putS]; rw [STK, stk_fuel f (r.length + 1) _ r (by omega) (by omega)]
theorem STK_cons (fs : List Fr) (w : W) (r : List W) : STK fs (w :: r) = if w = [41] then shutS STK fs r else if fs.length = 4 then none else itemS STK fs w r := by
  have e1 : shutS (stk (r.length + 1)) fs r = shutS STK fs r := by
    cases fs with
    | nil => rfl
    | cons g gs => exact putS_STK _ _ _ (by omega)
  have e2 : itemS (stk (r.length + 1)) fs w r = itemS STK fs w r := by
    unfold itemS
    rw [openS_STK _ _ _ (by omega), openS_STK _ _ _ (by omega), putS_STK _ _ _ (by omega)]; rfl
  show stk (r.length + 1 + 1) fs (w :: r) = _
  simp only [stk, e1, e2]
def contS (gs : List Fr) (g : Fr) : Option (List Nd × List W) → Option Nd
  | none => none
  | some (ks, ws') => match ws' with
    | [] => none
    | v :: r => if v = [41] then putS STK (Fr.shut ⟨g.k, g.f, g.no, g.ys ++ ks⟩) gs r else none
def contB (fs : List Fr) : Option (Nd × List W) → Option Nd
  | none => none
  | some (n, r) => putS STK n fs r
theorem contS_close (g : Fr) (gs : List Fr) (h : g.ys = []) (o : Option (List Nd × List W)) : contS gs g o = contB gs (closeB g.k g.f g.no o) := by
  rcases o with _ | ⟨ks, _ | ⟨v, r⟩⟩
  · rfl
  · rfl
  · simp only [contS, closeB]
    by_cases e : v = [41]
    · rw [if_pos e, if_pos e]; simp [contB, Fr.shut, h]
    · rw [if_neg e, if_neg e]; rfl
theorem readN_less {d : Nat} {ws us' : List W} {y : Nd} (h : readN d ws = some (y, us')) : us'.length < ws.length := by
  obtain ⟨e, _, _⟩ := of_readN _ _ _ _ h
  have hw := words_ne y
  rw [e]
  cases hq : wordsN y with
  | nil => exact absurd hq hw
  | cons a r => simp; omega

theorem stk_read : ∀ (L : Nat), (∀ (gs : List Fr) (g : Fr) (ws : List W) (F : Nat), ws.length ≤ L → gs.length < 4 → ws.length < F → STK (g :: gs) ws = contS gs g (readKids (readN (3 - gs.length)) F ws)) ∧
    (∀ (fs : List Fr) (w : W) (r : List W), r.length < L → fs.length < 4 → w ≠ [41] → STK fs (w :: r) = contB fs (readN (4 - fs.length) (w :: r))) := by
  intro L
  induction L with
  | zero =>
    refine ⟨fun gs g ws F hl hg hF => ?_, fun fs w r h => by omega⟩
    obtain rfl : ws = [] := List.eq_nil_of_length_eq_zero (by omega)
    obtain ⟨F', rfl⟩ : ∃ F', F = F' + 1 := ⟨F - 1, by omega⟩
    rfl
  | succ L ih =>
    obtain ⟨ihA, ihB⟩ := ih
    have hB : ∀ (fs : List Fr) (w : W) (r : List W), r.length < L + 1 → fs.length < 4 → w ≠ [41] → STK fs (w :: r) = contB fs (readN (4 - fs.length) (w :: r)) := by
      intro fs w r hr hf hw
      obtain ⟨d, hd⟩ : ∃ d, 4 - fs.length = d + 1 := ⟨3 - fs.length, by omega⟩
      have hd' : d = 3 - fs.length := by omega
      rw [hd, readN_cons, STK_cons, if_neg hw, if_neg (by omega)]
      have body : ∀ (k : Int) (f : W) (no : Bool) (us : List W), us.length ≤ L → STK (⟨k, f, no, []⟩ :: fs) us = contB fs (readBody (readN d) k f no us) := fun k f no us hu => by
        rw [ihA fs ⟨k, f, no, []⟩ us (us.length + 1) hu hf (by omega), contS_close _ _ rfl, ← hd']; rfl
      have opn : ∀ (k : Int) (f : W) (no : Bool), openS STK ⟨k, f, no, []⟩ fs r = contB fs (openB (readN d) k f no r) := fun k f no => by
        cases r with
        | nil => rfl
        | cons v r2 =>
          simp only [List.length_cons] at hr
          simp only [openS, openB]
          by_cases e : v = [40]
          · rw [if_pos e, if_pos e, body _ _ _ _ (by omega)]
          · rw [if_neg e, if_neg e]; rfl
      unfold itemS readS
      by_cases h1 : w = [40]
      · rw [if_pos h1, if_pos h1, body _ _ _ _ (by omega)]
      rw [if_neg h1, if_neg h1]
      by_cases h2 : w = [124, 124]
      · rw [if_pos h2, if_pos h2, opn]
      rw [if_neg h2, if_neg h2]
      by_cases h3 : w.getLast? = some 63
      · rw [if_pos h3, if_pos h3]
        by_cases h4 : isName (cutBang w.dropLast).1 = true
        · rw [if_pos h4, if_pos h4, opn]
        · rw [if_neg h4, if_neg h4]; rfl
      rw [if_neg h3, if_neg h3]
      unfold leafB
      by_cases h4 : (parseAt (cutBang w).1).2 = 0
      · rw [if_pos h4, if_pos h4]; rfl
      · rw [if_neg h4, if_neg h4]; rfl
    refine ⟨fun gs g ws F hl hg hF => ?_, hB⟩
    obtain ⟨F', rfl⟩ : ∃ F', F = F' + 1 := ⟨F - 1, by omega⟩
    cases ws with
    | nil => rfl
    | cons w r =>
      simp only [List.length_cons] at hl hF
      unfold readKids
      by_cases hw : w = [41]
      · rw [STK_cons, if_pos hw]; simp [shutS, contS, hw]
      · simp only [if_neg hw]
        by_cases h4 : gs.length = 3
        · rw [STK_cons, if_neg hw, if_pos (by simp [h4]), h4]; rfl
        · have hb := hB (g :: gs) w r (by omega) (by simp; omega) hw
          rw [hb]
          have e : 4 - (g :: gs).length = 3 - gs.length := by rw [List.length_cons]; omega
          rw [e]
          have hless := fun y us' => readN_less (d := 3 - gs.length) (ws := w :: r) (us' := us') (y := y)
          cases hq : readN (3 - gs.length) (w :: r) with
          | none => rfl
          | some p =>
            obtain ⟨n, r'⟩ := p
            have hl' := hless n r' hq
            simp only [List.length_cons] at hl'
            simp only [contB, putS]
            rw [ihA gs (g.push n) r' F' (by omega) hg (by omega)]
            cases readKids (readN (3 - gs.length)) F' r' with
            | none => rfl
            | some q =>
              obtain ⟨ks, ws'⟩ := q
              cases ws' with
              | nil => rfl
              | cons v r2 => simp [contS, Fr.push, Fr.shut]

def stkTold : Option Nd → Nd × Int
  | none => (Nd.zero, 1)
  | some n => finNd n
theorem shut_none (r : List W) : ∃ q, readN 4 ([41] :: r) = none ∧ q = () := by
  refine ⟨(), ?_, rfl⟩
  rw [readN_cons]
  unfold readS leafB
  rw [if_neg (by decide), if_neg (by decide), if_neg (by decide), if_neg (by decide +kernel)]
theorem stk_told (l : W) (h : l.length ≤ 20000) : stkTold (STK [] (splitB 32 l)) = parseNd l := by
  unfold parseNd
  rw [if_neg (by omega)]
  cases hs : splitB 32 l with
  | nil => exact absurd hs (by unfold splitB; exact splitGo_ne)
  | cons w r =>
    by_cases hw : w = [41]
    · subst hw
      obtain ⟨_, h1, _⟩ := shut_none r
      rw [h1, STK_cons, if_pos rfl]; rfl
    · rw [(stk_read (r.length + 1)).2 [] w r (by omega) (by simp) hw]
      show stkTold (contB [] (readN 4 (w :: r))) = _
      rcases readN 4 (w :: r) with _ | ⟨n, _ | ⟨v, u⟩⟩
      · rfl
      · simp [contB, putS, stkTold, toldNd]
      · simp [contB, putS, stkTold, toldNd]
end Qm
