/- Parts of the proof: walks and plain laws, side by side. -/
import Derived.Test.YtokibfankmjphaaGreatDoorM21
import Derived.Test.YtokibfankmjphaaGreatDoorM23
import Derived.Laws.EntriesVeiled
import Derived.Maps.AppendAt
import Derived.Test.YtokibfankmjphaaGreatDoorM1
import Derived.Test.YtokibfankmjphaaGreatDoorM2
import Derived.Test.YtokibfankmjphaaGreatDoorM4
import Derived.Test.YtokibfankmjphaaGreatDoorM3
import Derived.Test.YtokibfankmjphaaGreatDoorProg
import Derived.Deep.RegionLaw
import Derived.Deep.Cut
import Derived.Test.YtokibfankmjphaaGreatDoorM20
import Derived.Maps.OwnSet
import Derived.Lib.ParseIntBTie
import Derived.Test.YtokibfankmjphaaGreatDoorM6
import Derived.Deep.CutBlock
import Derived.Lib.IndexBytes
import Derived.Lib.IndexMore
import Derived.Test.YtokibfankmjphaaGreatDoorM9
import Derived.Test.YtokibfankmjphaaGreatDoorM12
import Derived.Test.YtokibfankmjphaaGreatDoorM19
set_option linter.unusedVariables false
set_option linter.unusedSimpArgs false
set_option linter.unusedSectionVars false
/- A step of a range over a map from strings to bools. -/
namespace Go.Proofs.YtokibfankmjphaaGreatDoor
open Go.RowKit Qm
open Go.Maps (Keyed)

theorem wpList_next_ranges_sb {P : Program} (w : World) {ops : Array Oper} {rest : List Oper} {o : Oper} {a : Act} {Q : Exit → Act → World → Prop}
    (hg : o.guard = none) (it : Operand) (hop : o.op = Op.next it false) (k e : TypeId) (K : Keyed P k) (hk : P.underlying k = some .string) (he : P.underlying e = some .bool)
    (b r n : Nat) (D : DataW Unit) (left : Lit → Bool) (cnt : Nat) (hit : a.eval it = .pointer (some ⟨r, 0, none⟩)) (h : w.ranges P k (plainElem P e) b r n D left cnt)
    (hDone : cnt = 0 → (∀ kl, left kl = false) → wpList P ops Q rest (a.put o.dst (.tuple #[.bool false])) w)
    (hMore : ∀ (x : Qm.W) (c : Value) (w' : World) (cnt' : Nat), x.length ≤ maxLen → left (.string x) = true → w'.ranges P k (plainElem P e) b r n D (fun z => left z && !z.sameKey (.string x)) cnt' → cnt' < cnt →
      w.grownBy w' (some r) → w'.heap.size = w.heap.size → (Instr.entry (.pointer (some ⟨r, 0, none⟩))).run P w' = .ok (.tuple #[.string ⟨x.toArray⟩, c]) w' → wpList P ops Q rest (a.put o.dst (.tuple #[.bool true, .string ⟨x.toArray⟩, c])) w') :
    wpList P ops Q (o :: rest) a w :=
  wpList_next_ranges w hg it hop k K (plainElem P e) Value.string Value.bool (fun key kl hkey => by obtain ⟨x, rfl, _⟩ := WideMaps.string_of_keyOf hk hkey; exact ⟨x, rfl⟩)
    (fun v y hv => by
      unfold plainElem at hv
      rw [he] at hv
      cases v <;> simp at hv
      exact ⟨_, rfl⟩)
    b r n D left cnt hit h hDone (fun x c kl y w' cnt' hkey hlk hv hat hrg hlt hgr hsz hen => by
      obtain ⟨x', ex, rfl, hwx⟩ := WideMaps.string_of_keyOf hk hkey
      cases ex
      have e1 : (⟨x.data.toList.toArray⟩ : ByteArray) = x := by simp
      have hm := hMore x.data.toList (.bool c) w' cnt' (by rw [← Lib.size_eq]; exact hwx) hlk hrg hlt hgr hsz
      rw [e1] at hm
      exact hm hen)
end Go.Proofs.YtokibfankmjphaaGreatDoor

/- quartermasterref.FlagsOf, walked. -/
namespace Go.Proofs.YtokibfankmjphaaGreatDoor
open Go.RowKit Qm
open Go.Maps (Keyed)

structure Fz (w : World) (b r m : Nat) (D : DataW Unit) (K : Qm.W → Bool) (l : List Qm.W) (A : Option Addr) (c : Nat) (left : Lit → Bool) (cnt : Nat) (wr : World) : Prop where
  rg : wr.ranges Tryz.prog 9 (plainElem Tryz.prog 4) b r m D left cnt
  gone : Gone K l left
  own : wr.ownsRow (r + 1) 9 1 (.slice A l.length c) l.length (strs l)
  bel : Below w.heap.size w wr
  lb : w.heap.size ≤ b ∧ w.heap.size ≤ r
  cnt_ : l.length + cnt ≤ m
theorem strs_snoc (l : List Qm.W) (x : Qm.W) : strs (l ++ [x]) = strs l ++ [.string ⟨x.toArray⟩] := by simp [strs]
theorem Fz.step {w wr w1 w2 : World} {b r m : Nat} {D : DataW Unit} {K : Qm.W → Bool} {l : List Qm.W} {A A' : Option Addr} {c c' : Nat} {left : Lit → Bool} {cnt cnt' : Nat} (h : Fz w b r m D K l A c left cnt wr) {x : Qm.W} (hx : x.length ≤ maxLen) (hl : left (.string x) = true)
    (hrg : w1.ranges Tryz.prog 9 (plainElem Tryz.prog 4) b r m D (fun z => left z && !z.sameKey (.string x)) cnt') (hlt : cnt' < cnt) (hg : wr.grownBy w1 (some r)) (hsz : w1.heap.size = wr.heap.size)
    (hown : w2.ownsRow (r + 1) 9 1 (.slice A' (l.length + 1) c') (l.length + 1) (strs l ++ [.string ⟨x.toArray⟩])) (o : Obj) (hg2 : (w1.alloc o).grownBy w2 (Value.slice A l.length c).ownBlock) :
    Fz w b r m D K (l ++ [x]) A' c' (fun z => left z && !z.sameKey (.string x)) cnt' w2 := by
  have hr := h.rg.lt
  have hb := h.rg.owns.lt
  have hne := h.rg.ne
  have hob : ∀ i, (Value.slice A l.length c).ownBlock = some i → r + 1 ≤ i := fun i e => (h.own.lt i e).1
  have hbne : some b ≠ (Value.slice A l.length c).ownBlock := fun e => by
    rcases h.own.2 with ⟨e0, _⟩ | ⟨g, cap, cur, hv, hg1, hg2, _⟩
    · rw [e0] at e; cases e
    · rw [hv] at e
      simp only [Value.ownBlock] at e
      injection e with e
      subst e
      obtain ⟨es, clock, _, _, _, hbb, _⟩ := h.rg
      rw [hbb] at hg2
      cases hg2
  have hrne : some r ≠ (Value.slice A l.length c).ownBlock := fun e => by have := hob r e.symm; omega
  refine ⟨(hrg.alloc o).kept hg2 hbne hrne, h.gone.step hx hl, ?_, ?_, h.lb, ?_⟩
  · rw [strs_snoc]; simpa using hown
  · have b1 : Below w.heap.size wr w1 := below_of_grown hg (Nat.le_trans h.bel.size (Nat.le_refl _)) fun i e => by injection e with e; have := h.lb.2; omega
    have b2 : Below w.heap.size w1 (w1.alloc o) := (Below.refl _ _).alloc (by have := h.bel.size; omega) _
    have b3 : Below w.heap.size (w1.alloc o) w2 := below_of_grown hg2 (by simp; have := h.bel.size; omega) fun i e => by have := hob i e; have := h.lb.2; omega
    exact ((h.bel.trans b1).trans b2).trans b3
  · simp only [List.length_append, List.length_cons, List.length_nil]; have := h.cnt_; omega
theorem new1 (w : World) (x : Value) (t : TypeId) : ∀ j u, [x][j]? = some u → (w.alloc (.cells #[x] t)).cell? ((⟨w.heap.size, 0, none⟩ : Addr).add j) = some u := by
  intro j u hj
  have h := (Whole.new w w.heap.size t [x] rfl).cell j
  have hadd : (⟨w.heap.size, 0, none⟩ : Addr).add j = ⟨w.heap.size, j, none⟩ := by unfold Addr.add; split <;> simp_all
  rw [hadd, ← hj, ← h]
theorem RKids.each {w : World} {S : Nat → Prop} {A : Option Addr} {n : Nat} {ks : List Nd} (h : RKids w S A n ks) : ∀ y ∈ ks, ∃ x, RNd w S x y := by
  intro y hy
  obtain ⟨j, hj, e⟩ := List.mem_iff_getElem.1 hy
  obtain ⟨b, o, x, y', _, _, hy', hr, _⟩ := h.at_ (j := j) (by rw [← h.len]; exact hj)
  rw [List.getElem?_eq_getElem hj, e] at hy'
  injection hy' with hy'
  subst hy'
  exact ⟨x, hr⟩
theorem RNd.flags_len {w : World} {S : Nat → Prop} : ∀ (y : Nd) (x : List Value), RNd w S x y → ∀ f ∈ flagsN y, f.length ≤ maxLen := by
  refine Nd.ind fun k a f no ks ih => ?_
  intro x h
  obtain ⟨A, n, c, rfl, _, _, _, _, h3, hK⟩ := h.open_
  have hL : ∀ (l : List Nd), (∀ y ∈ l, ∀ g ∈ flagsN y, g.length ≤ maxLen) → ∀ g ∈ flagsL l, g.length ≤ maxLen := by
    intro l
    induction l with
    | nil => intro _ g hg; simp [flagsL] at hg
    | cons k r ihr =>
      intro hh g hg
      simp only [flagsL, List.mem_append] at hg
      rcases hg with hg | hg
      · exact hh k (List.mem_cons_self ..) g hg
      · exact ihr (fun y hy => hh y (List.mem_cons_of_mem _ hy)) g hg
  intro g hg
  have hfn : flagsN (.mk k a f no ks) = (if k = 5 then [f] else []) ++ flagsL ks := rfl
  rw [hfn, List.mem_append] at hg
  rcases hg with hg | hg
  · split at hg
    · simp only [List.mem_singleton] at hg; subst hg; exact h3
    · simp at hg
  · exact hL ks (fun y hy => by obtain ⟨x, hx⟩ := hK.each y hy; exact ih y hy x hx) g hg
theorem sortStrings_nil (w : World) : Calls Tryz.prog 44 #[.slice none 0 0] w fun e w' => e = .returned (.tuple #[]) ∧ w' = w := by
  have hs1 := Tryz.slices_Sort_string_none none 0 w
  go_enter Tryz.func44, Tryz.ntmps44
  go_wp2_with (first | (go_at_call 67; refine hs1.mono ?_; rintro e w1 ⟨rfl, rfl⟩))
  go_end0
  exact ⟨rfl, rfl⟩
def RFlagsPost (w : World) (y : Nd) (e : Ending) (w' : World) : Prop :=
  ∃ A c, e = .returned (.slice A (Lib.compact (sortW (flagsN y))).length c) ∧ Row w' (fun i => w.heap.size ≤ i ∧ i < w'.heap.size) A (Lib.compact (sortW (flagsN y))).length (strs (Lib.compact (sortW (flagsN y)))) ∧ (Lib.compact (sortW (flagsN y))).length ≤ c ∧ c ≤ maxLen ∧ Below w.heap.size w w'
theorem str_info : (Tryz.prog.info? 9).map (fun i => (i.zero, i.size, i.bytes)) = some (some (.string ⟨#[]⟩), 1, 16) := by kernel_rfl
set_option maxRecDepth 100000 in
set_option maxHeartbeats 3200000 in
theorem rflags_any (y : Nd) (S : Nat → Prop) (x : List Value) (w : World) (hR : RNd w S x y) (hS : ∀ k, S k → k < w.heap.size) (hlen : (flagsN y).length ≤ 10000) :
    Calls Tryz.prog 20 #[.agg x.toArray] w (RFlagsPost w y) := by
  have Hfc := Lib.hid (fun BM BF b wx h1 h2 h3 => rflagsC_any y S x BM BF b (fun _ => false) 0 wx h1 h2 h3 (by omega))
  unfold RFlagsPost
  have HFL := Lib.hid (hR.flags_len)
  obtain ⟨fs, hfs⟩ : ∃ fs, flagsN y = fs := ⟨_, rfl⟩
  rw [hfs] at Hfc hlen HFL ⊢
  obtain ⟨k, a, f, no, ks⟩ := y
  obtain ⟨A, n, c, rfl, -⟩ := hR.open_
  have HR := Lib.hid hR; have HS := Lib.hid hS
  clear hR hS hfs
  obtain ⟨nm, op, ver, slot, fl, on⟩ := a
  unfold ndRow at Hfc HR ⊢
  have henter : ∀ (args : Array Value) (W : World), (callFunc 43 args).run Tryz.prog W = .ok (.enter 43 args) W := fun args W => by kernel_rfl
  obtain ⟨i0, hi, hz0, hz1, hz2⟩ : ∃ i0, Tryz.prog.info? 9 = some i0 ∧ i0.zero = some (.string ⟨#[]⟩) ∧ i0.size = 1 ∧ i0.bytes = 16 := by
    have h := str_info
    cases hh : Tryz.prog.info? 9 with
    | none => rw [hh] at h; simp at h
    | some i => rw [hh] at h; simp at h; exact ⟨i, rfl, h.1, h.2.1, h.2.2⟩
  have Hi := Lib.hid hi; have Hz0 := Lib.hid hz0; have Hz1 := Lib.hid hz1; have Hz2 := Lib.hid hz2
  clear hi hz0 hz1 hz2
  have hmm := @run_makeMap Tryz.prog
  have hb4 : Below w.heap.size w ((((w.alloc (.cells #[.int .i64 k, .string ⟨nm.toArray⟩, .int .i64 op, .int .i64 ver, .int .i64 slot, .string ⟨fl.toArray⟩, .bool on, .string ⟨f.toArray⟩, .bool no, .slice A n c] 46)).alloc (.map #[] 0)).alloc (.cells #[.map (some (w.heap.size + 1))] 64)).alloc (.cells #[.func (.func 43) #[] #[.pointer (some ⟨w.heap.size + 1 + 1, 0, none⟩), .pointer (some ⟨w.heap.size + 1 + 1 + 1, 0, none⟩)]] 77)) := (((Below.refl _ w).alloc (Nat.le_refl _) _).alloc (by simp) _).alloc (by simp; omega) _ |>.alloc (by simp; omega) _
  have hF0 : Fm (w.heap.size + 1 + 1) (w.heap.size + 1 + 1 + 1) (w.heap.size + 1) (fun _ => false) 0 ((((w.alloc (.cells #[.int .i64 k, .string ⟨nm.toArray⟩, .int .i64 op, .int .i64 ver, .int .i64 slot, .string ⟨fl.toArray⟩, .bool on, .string ⟨f.toArray⟩, .bool no, .slice A n c] 46)).alloc (.map #[] 0)).alloc (.cells #[.map (some (w.heap.size + 1))] 64)).alloc (.cells #[.func (.func 43) #[] #[.pointer (some ⟨w.heap.size + 1 + 1, 0, none⟩), .pointer (some ⟨w.heap.size + 1 + 1 + 1, 0, none⟩)]] 77)) := by
    refine ⟨(Whole.new _ _ _ [.map (some (w.heap.size + 1))] (by simp)).alloc _, Whole.new _ _ _ [_] (by simp), ?_, by omega, by omega⟩
    have hset := StrSet.made Tryz.prog (w.alloc (.cells #[.int .i64 k, .string ⟨nm.toArray⟩, .int .i64 op, .int .i64 ver, .int .i64 slot, .string ⟨fl.toArray⟩, .bool on, .string ⟨f.toArray⟩, .bool no, .slice A n c] 46))
    rw [show (w.alloc (.cells #[.int .i64 k, .string ⟨nm.toArray⟩, .int .i64 op, .int .i64 ver, .int .i64 slot, .string ⟨fl.toArray⟩, .bool on, .string ⟨f.toArray⟩, .bool no, .slice A n c] 46)).heap.size = w.heap.size + 1 by simp] at hset
    exact (hset.kept (World.grownBy_alloc _ _ none) (by simp)).kept (World.grownBy_alloc _ _ none) (by simp)
  have Hcall := Lib.hid (Hfc.out _ _ _ _ (HR.out.under hb4 HS.out) (fun q hq => ⟨Nat.lt_of_lt_of_le (HS.out q hq) hb4.size, by have := HS.out q hq; omega⟩) hF0)
  have HB4 := Lib.hid hb4
  clear hb4 hF0 Hfc HR
  go_enter Tryz.func20, Tryz.ntmps20
  go_wp2_with (first | (go_at_call 43; refine Hcall.out.mono ?_; rintro e w1 ⟨K, m, rfl, hF1, hf1, hk1, hm1⟩; refine Hid.out ?_))
  refine Lib.hid ?_
  have HB1 : Hid (Below w.heap.size w w1) := Lib.hid (HB4.out.trans (hf1.below HB4.out.size fun i e => by omega))
  have HK1 := Lib.hid hk1
  obtain ⟨D, hown, hsz, hD⟩ := hF1.set
  have HO := Lib.hid hown
  have HG : Hid (Gone K [] (Maps.has D)) := Lib.hid (Gone.start fun x hx => (hD x hx).1)
  have HZ := Lib.hid hsz
  have HM1 := Lib.hid hm1
  have m0 := hF1.mp.cell 0
  have m1 := hF1.mp.lt
  simp only [List.getElem?_cons_zero] at m0
  clear Hcall HB4 hF1 hf1 hk1 hm1 hown hsz hD hmm henter
  go_wp2_with (first
    | (at_range; refine wpList_range_own _ rfl _ 64 rfl 9 4 (Maps.string_keyed Tryz.underlying9) Tryz.underlying64 _ (w.heap.size + 1) m D rfl HO.out ?_; intro w0 hrg0 hg0 hs0)
    | go_in)
  go_frame
  have HRG := Lib.hid hrg0
  have HB0 : Hid (Below w.heap.size w w0) := Lib.hid (HB1.out.trans (below_of_grown hg0 HB1.out.size fun i e => by cases e))
  clear hrg0 hg0 hs0 m0 m1
  go_loopw [5, 6] (fun lv _ wr => ∃ (l : List Qm.W) (A' : Option Addr) (c' : Nat) (left : Lit → Bool) (cnt : Nat), Hid (Fz w (w.heap.size + 1) w1.heap.size m D K l A' c' left cnt wr) ∧ lv = .slice A' l.length c') (fun _ _ wr => wr.rangeLeft (w.heap.size + 1) w1.heap.size)
  case atStart =>
    refine ⟨[], none, 0, _, _, Lib.hid ⟨HRG.out, HG.out, World.ownsRow_nil _ _ _ _, HB0.out, ⟨by omega, HB1.out.size⟩, ?_⟩, rfl⟩
    rw [HZ.out]; simp
  case round =>
    obtain ⟨l, A', c', left, cnt, HF, rfl⟩ := hrel
    have hrg := HF.out.rg
    have hrlt := hrg.lt
    go_wp2_with (first
      | (at_next; refine wpList_next_ranges_sb _ rfl _ rfl 9 4 (Maps.string_keyed Tryz.underlying9) Tryz.underlying9 Tryz.underlying4 (w.heap.size + 1) w1.heap.size m D left cnt rfl hrg ?_ ?_)
      | go_in)
    · intro hc0 hl0
      have hdone : Hid (∀ x : Qm.W, x.length ≤ maxLen → (x ∈ l ↔ K x = true)) := Lib.hid fun x hx => HF.out.gone.done hl0 hx
      have hcl : Hid (l.length ≤ m) := Lib.hid (by have := HF.out.cnt_; omega)
      have hsame : Hid (Lib.compact (sortW fs) = sortW l) := Lib.hid (flags_same HF.out.gone.nodup fun x => ⟨fun h => by
        have h1 := HF.out.gone.got x h
        rw [HK1.out] at h1
        simpa using h1, fun h => (hdone.out x (HFL.out x h)).2 (by rw [HK1.out]; simpa using h)⟩).symm
      have hsl : (sortW l).length = l.length := by unfold sortW; rw [List.length_mergeSort]
      clear hrg
      rcases HF.out.own.2 with ⟨hv, hn0⟩ | ⟨g, cap, cur, hv, hg1, hg2, hg3⟩
      · injection hv with e1 e2 e3
        subst e1 e3
        obtain rfl : l = [] := List.eq_nil_of_length_eq_zero e2
        clear hn0 e2
        have hs1 := sortStrings_nil wr
        simp only [List.length_nil]
        go_wp2_with (first | (go_at_call 44; refine hs1.mono ?_; rintro e w5 ⟨rfl, rfl⟩))
        go_ret
        refine ⟨none, 0, ?_, ?_, ?_, Nat.zero_le _, ?_⟩
        · rw [hsame.out, hsl]; rfl
        · have h0 : sortW ([] : List Qm.W) = [] := List.eq_nil_of_length_eq_zero hsl
          rw [hsame.out, h0]; exact Row.nil_
        · rw [hsame.out, hsl]; exact Nat.le_refl _
        · exact HF.out.bel
      · injection hv with e1 e2 e3
        subst e1 e3
        clear hg2 hg3
        have Hso := Lib.hid (sortStrings_any (w1.heap.size + 1) g l.length c' l wr HF.out.own (by have := hcl.out; have := HM1.out; simp at this; omega))
        go_wp2_with (first | (go_at_call 44; refine Hso.out.mono ?_; rintro e w5 ⟨rfl, hown5, hf5⟩; refine Hid.out ?_))
        refine Lib.hid ?_
        go_wp2
        go_ret
        obtain ⟨_, _, he, h1, h2, _⟩ := own_form hown5
        injection he with _ _ he
        subst he
        have hb5 : Below w.heap.size w w5 := HF.out.bel.trans (hf5.below HF.out.bel.size fun i e => by have := HF.out.lb.2; omega)
        refine ⟨some ⟨g, 0, none⟩, c', ?_, ?_, ?_, h2, hb5⟩
        · rw [hsame.out, hsl]; rfl
        · rw [hsame.out, hsl]; exact (own_row hown5).more fun i hi => by have := HF.out.lb.2; omega
        · rw [hsame.out, hsl]; exact h1
    · intro x cv w2 cnt2 hx hlx hrg2 hlt2 hg2 hs2 hen
      have HO2 : Hid (w2.ownsRow (w1.heap.size + 1) 9 1 (.slice A' l.length c') l.length (strs l)) := Lib.hid (HF.out.own.kept hg2 (by
        by_cases h : (Value.slice A' l.length c').ownBlock = some w1.heap.size
        · have := (HF.out.own.lt _ h).1; omega
        · exact .inr h))
      have hl10 : l.length + 1 ≤ 100000 := by have := HF.out.cnt_; have := HM1.out; simp at this; omega
      have HRG2 := Lib.hid hrg2; have HLX := Lib.hid hlx; have HG2 := Lib.hid hg2; have HS2 := Lib.hid hs2; have HX := Lib.hid hx
      have hw2 : w1.heap.size + 1 ≤ w2.heap.size := by omega
      clear hrg2 hrg hg2 hs2 hlx hx
      go_wp2_with (first
        | (at_builtin; refine wpList_append_own_at _ rfl (.tmp 18) (.tmp 20) 41 rfl (w1.heap.size + 1) 9 i0 (.string ⟨#[]⟩) 1 16 Tryz.underlying41 Hi.out Hz0.out Hz1.out Hz2.out rfl (by decide) (.slice A' l.length c') l.length (strs l) rfl (HO2.out.kept (World.grownBy_alloc _ _ none) (by cases hv : (Value.slice A' l.length c').ownBlock <;> simp)) ⟨w2.heap.size, 0, none⟩ 1 1 [.string ⟨x.toArray⟩] rfl rfl (new1 _ _ _) (by simp [Value.oneCell']) (by unfold maxLen; omega) (by omega) (by simp; omega) ?_)
        | go_in)
      intro v' w3 hown3 hg3 _ _
      obtain ⟨A3, c3, rfl, _⟩ := own_formK hown3
      have HF3 := Lib.hid (HF.out.step HX.out HLX.out HRG2.out hlt2 HG2.out HS2.out hown3 _ hg3)
      clear hown3 hg3
      go_wp2_with fail
      go_roundw
      case rel => exact ⟨l ++ [x], A3, c3, _, cnt2, HF3, by simp⟩
      case measure => rw [HF3.out.rg.left_eq, HF.out.rg.left_eq]; exact hlt2
end Go.Proofs.YtokibfankmjphaaGreatDoor

/- The document's reader with a stack answers as the program's, in plain words. -/
namespace Qm
open Go

/-- What stands open: its kind, flag, whether it has a bang, the kids so far. -/
structure Fr where
  k : Int
  f : W
  no : Bool
  ys : List Nd
def Fr.push (g : Fr) (n : Nd) : Fr := ⟨g.k, g.f, g.no, g.ys ++ [n]⟩
def Fr.shut (g : Fr) : Nd := .mk g.k At.zero g.f g.no g.ys
end Qm

/- quartermasterref.ReadNeed: what stands open, in memory. -/
namespace Go.Proofs.YtokibfankmjphaaGreatDoor
open Go.RowKit Qm

abbrev Hd := Option Addr × Nat
def obs (A : Option Addr) (hs : List Hd) : List Nat := (A :: hs.map (·.1)).filterMap fun a => a.map (·.block)
def frow (g : Fr) (h : Hd) : List Value := ndRow g.k At.zero g.f g.no h.1 g.ys.length h.2
def frows : List Fr → List Hd → List Value
  | g :: gs, h :: hs => frows gs hs ++ frow g h
  | _, _ => []
def KidOk (wx : World) (B : Nat) (F : Nat → Prop) (g : Fr) (h : Hd) : Prop :=
  ∃ cs : List (List Value), cs.length = g.ys.length ∧ wx.ownsRow B 46 10 (.slice h.1 g.ys.length h.2) g.ys.length cs.flatten ∧
    (∀ (i : Nat) (x : List Value) (y : Nd), cs[i]? = some x → g.ys[i]? = some y → RNd wx F x y) ∧ g.f.length ≤ maxLen
def KidsOk (wx : World) (B : Nat) (F : Nat → Prop) : List Fr → List Hd → Prop
  | [], [] => True
  | g :: gs, h :: hs => KidOk wx B F g h ∧ KidsOk wx B F gs hs
  | _, _ => False
/-- the blocks that are no array of what stands open -/
def Fre (wx : World) (B : Nat) (A : Option Addr) (hs : List Hd) (i : Nat) : Prop := B ≤ i ∧ i < wx.heap.size ∧ i ∉ obs A hs
structure Op (B : Nat) (fs : List Fr) (hs : List Hd) (A : Option Addr) (c : Nat) (wx : World) : Prop where
  own : wx.ownsRow B 46 10 (.slice A fs.length c) fs.length (frows fs hs)
  kids : KidsOk wx B (Fre wx B A hs) fs hs
  nodup : (obs A hs).Nodup
section
variable {wx wy : World} {B : Nat} {F F' : Nat → Prop} {g : Fr} {gs fs : List Fr} {h : Hd} {hs : List Hd} {A : Option Addr} {c : Nat}
theorem ob_own {A : Option Addr} {n c i : Nat} : (Value.slice A n c).ownBlock = some i ↔ A.map (·.block) = some i := by
  cases A <;> simp [Value.ownBlock]
theorem obs_mem {i : Nat} : i ∈ obs A hs ↔ A.map (·.block) = some i ∨ ∃ h ∈ hs, h.1.map (·.block) = some i := by
  unfold obs
  rw [List.mem_filterMap]
  constructor
  · rintro ⟨a, ha, e⟩
    rcases List.mem_cons.1 ha with rfl | ha
    · exact .inl e
    · obtain ⟨h, hh, rfl⟩ := List.mem_map.1 ha
      exact .inr ⟨h, hh, e⟩
  · rintro (e | ⟨h, hh, e⟩)
    · exact ⟨A, List.mem_cons_self .., e⟩
    · exact ⟨h.1, List.mem_cons_of_mem _ (List.mem_map.2 ⟨h, hh, rfl⟩), e⟩
theorem KidOk.more (hk : KidOk wx B F g h) (hF : ∀ i, F i → F' i) : KidOk wx B F' g h := by
  obtain ⟨cs, h1, h2, h3, h4⟩ := hk
  exact ⟨cs, h1, h2, fun i x y a b => (h3 i x y a b).more hF, h4⟩
theorem KidsOk.more : ∀ {gs : List Fr} {hs : List Hd}, KidsOk wx B F gs hs → (∀ i, F i → F' i) → KidsOk wx B F' gs hs
  | [], [], _, _ => trivial
  | _ :: _, _ :: _, hk, hF => ⟨hk.1.more hF, KidsOk.more hk.2 hF⟩
theorem KidOk.far {D : Nat → Prop} (hk : KidOk wx B F g h) (hf : Far D wx wy) (hF : ∀ i, F i → i < wx.heap.size ∧ ¬ D i) (hD : ∀ i, h.1.map (·.block) = some i → ¬ D i) : KidOk wy B F g h := by
  obtain ⟨cs, h1, h2, h3, h4⟩ := hk
  exact ⟨cs, h1, hf.own h2 fun g e => hD g (ob_own.1 e), fun i x y a b => (h3 i x y a b).keep fun p hp => hf.cell (hF _ hp).1 (hF _ hp).2, h4⟩
theorem KidsOk.far {D : Nat → Prop} : ∀ {gs : List Fr} {hs : List Hd}, KidsOk wx B F gs hs → Far D wx wy → (∀ i, F i → i < wx.heap.size ∧ ¬ D i) → (∀ h ∈ hs, ∀ i, h.1.map (·.block) = some i → ¬ D i) → KidsOk wy B F gs hs
  | [], [], _, _, _, _ => trivial
  | _ :: _, _ :: _, hk, hf, hF, hD => ⟨hk.1.far hf hF (hD _ (List.mem_cons_self ..)), KidsOk.far hk.2 hf hF fun h hh => hD h (List.mem_cons_of_mem _ hh)⟩
theorem KidsOk.ge : ∀ {gs : List Fr} {hs : List Hd}, KidsOk wx B F gs hs → ∀ h ∈ hs, ∀ i, h.1.map (·.block) = some i → B ≤ i ∧ i < wx.heap.size
  | [], [], _, h, hh, _, _ => by simp at hh
  | _ :: _, h0 :: _, hk, h, hh, i, e => by
    rcases List.mem_cons.1 hh with rfl | hh
    · obtain ⟨cs, h1, h2, _⟩ := hk.1
      exact h2.lt i (ob_own.2 e)
    · exact hk.2.ge h hh i e
theorem KidsOk.len : ∀ {gs : List Fr} {hs : List Hd}, KidsOk wx B F gs hs → gs.length = hs.length
  | [], [], _ => rfl
  | _ :: _, _ :: _, hk => by simp [hk.2.len]
theorem frows_len : ∀ {gs : List Fr} {hs : List Hd}, gs.length = hs.length → (frows gs hs).length = gs.length * 10
  | [], [], _ => rfl
  | _ :: gs, _ :: hs, e => by
    simp only [List.length_cons, Nat.add_right_cancel_iff] at e
    simp only [frows, List.length_append, frows_len e, List.length_cons, frow, ndRow, List.length_nil]; omega
  | [], _ :: _, e => by simp at e
  | _ :: _, [], e => by simp at e
/-- Blocks below B, and new ones, may change. -/
theorem Op.far (ho : Op B fs hs A c wx) (hf : Far (fun i => i < B) wx wy) : Op B fs hs A c wy where
  own := hf.own ho.own fun i e => by have := (ho.own.lt i e).1; omega
  kids := (ho.kids.far hf (fun i hi => ⟨hi.2.1, by have := hi.1; omega⟩) fun h hh i e => by have := (ho.kids.ge h hh i e).1; omega).more fun i hi => ⟨hi.1, Nat.lt_of_lt_of_le hi.2.1 hf.size, hi.2.2⟩
  nodup := ho.nodup
theorem Op.below (ho : Op B fs hs A c wx) (hb : Below wx.heap.size wx wy) : Op B fs hs A c wy := ho.far (Far.of_below _ hb)
theorem Op.nil (w : World) : Op B [] [] none 0 w := ⟨⟨rfl, .inl ⟨rfl, rfl⟩⟩, trivial, by simp [obs]⟩
theorem own_set {base : Nat} {e : TypeId} {size n c b p : Nat} {xs : List Value} (ho : wx.ownsRow base e size (.slice (some ⟨b, 0, none⟩) n c) n xs) (hp : p < n * size) (u : Value) : (wx.setCell ⟨b, p, none⟩ u).ownsRow base e size (.slice (some ⟨b, 0, none⟩) n c) n (xs.set p u) := by
  rcases ho.2 with ⟨h0, _⟩ | ⟨g, cap, cur, hv, hb, hh, hc, hm, hs, ht⟩
  · cases h0
  · injection hv with e1 e2 e3
    injection e1 with e1; injection e1 with e1
    subst e1 e3
    have hW : Whole wx b e cur.toList := by unfold Whole; simpa using hh
    have hW2 := hW.set_ p u
    unfold Whole at hW2
    refine ⟨by simp [ho.1], .inr ⟨b, _, _, rfl, hb, hW2, hc, hm, by simp [hs], ?_⟩⟩
    rw [List.toList_toArray, ← ht, List.take_set]
theorem frow_push (g : Fr) (h : Hd) (n : Nd) (h' : Hd) : frow (g.push n) h' = (frow g h).set 9 (.slice h'.1 (g.ys.length + 1) h'.2) := by
  simp [frow, Fr.push, ndRow]
/-- A new one is opened. -/
theorem Op.open_ (ho : Op B fs hs A c wx) {A' : Option Addr} {c' : Nat} {k : Int} {f : Qm.W} {no : Bool} (hf : f.length ≤ maxLen)
    (hown : wy.ownsRow B 46 10 (.slice A' (fs.length + 1) c') (fs.length + 1) (frows fs hs ++ ndRow k At.zero f no none 0 0)) (hg : wx.grownBy wy (Value.slice A fs.length c).ownBlock)
    (hv : (Value.slice A' (fs.length + 1) c').ownBlock = (Value.slice A fs.length c).ownBlock ∨ (Value.slice A' (fs.length + 1) c').ownBlock = some wx.heap.size) :
    Op B (⟨k, f, no, []⟩ :: fs) ((none, 0) :: hs) A' c' wy := by
  have f1 : Far (fun i => A.map (·.block) = some i) wx wy := Far.of_grown hg fun i e => ob_own.1 e.symm
  have ho' : ∀ i, i ∈ obs A' ((none, 0) :: hs) → i ∈ obs A hs ∨ i = wx.heap.size := fun i hi => by
    rcases obs_mem.1 hi with e | ⟨h', hh, e⟩
    · have e2 := (ob_own (A := A') (n := fs.length + 1) (c := c')).2 e
      rcases hv with hv | hv
      · rw [hv] at e2; exact .inl (obs_mem.2 (.inl (ob_own.1 e2)))
      · rw [hv] at e2; injection e2 with e2; exact .inr e2.symm
    · rcases List.mem_cons.1 hh with rfl | hh
      · cases e
      · exact .inl (obs_mem.2 (.inr ⟨h', hh, e⟩))
  have hnd := ho.nodup
  have hnk : ∀ h ∈ hs, ∀ i, h.1.map (·.block) = some i → ¬ A.map (·.block) = some i := fun h hh i e e2 => by
    unfold obs at hnd
    rw [List.filterMap_cons, e2] at hnd
    exact (List.nodup_cons.1 hnd).1 (List.mem_filterMap.2 ⟨h.1, List.mem_map.2 ⟨h, hh, rfl⟩, e⟩)
  refine ⟨hown, ⟨⟨[], rfl, ⟨rfl, .inl ⟨rfl, rfl⟩⟩, fun i x y a => by simp at a, hf⟩, ?_⟩, ?_⟩
  · refine KidsOk.more (F := Fre wx B A hs) (ho.kids.far f1 (fun i hi => ⟨hi.2.1, fun e => hi.2.2 (obs_mem.2 (.inl e))⟩) hnk) fun i hi => ⟨hi.1, Nat.lt_of_lt_of_le hi.2.1 f1.size, fun hm => ?_⟩
    rcases ho' i hm with h1 | h1
    · exact hi.2.2 h1
    · have := hi.2.1; omega
  · unfold obs at hnd ⊢
    rw [List.map_cons, List.filterMap_cons, List.filterMap_cons]
    rw [List.filterMap_cons] at hnd
    have hrest : ((hs.map (·.1)).filterMap fun a => a.map (·.block)).Nodup := by
      cases hA : A.map (·.block) with
      | none => rw [hA] at hnd; exact hnd
      | some q => rw [hA] at hnd; exact (List.nodup_cons.1 hnd).2
    cases hA' : A'.map (·.block) with
    | none => exact hrest
    | some q =>
      refine List.nodup_cons.2 ⟨fun hin => ?_, hrest⟩
      obtain ⟨a, ha, e⟩ := List.mem_filterMap.1 hin
      obtain ⟨h', hh, rfl⟩ := List.mem_map.1 ha
      have e2 := (ob_own (A := A') (n := fs.length + 1) (c := c')).2 hA'
      rcases hv with hv | hv
      · rw [hv] at e2; exact hnk h' hh q e (ob_own.1 e2)
      · rw [hv] at e2; injection e2 with e2
        have := (ho.kids.ge h' hh q e).2; omega
theorem nd2 {a b : Option Nat} {l : List Nat} : ((a.toList ++ (b.toList ++ l)).Nodup) ↔ (a.toList ++ l).Nodup ∧ (b.toList ++ l).Nodup ∧ (∀ q, a = some q → ¬ b = some q) := by
  cases a <;> cases b <;> simp [List.nodup_cons, eq_comm] <;> grind
theorem obs_eq (A : Option Addr) (h : Hd) (hs : List Hd) : obs A (h :: hs) = (A.map (·.block)).toList ++ ((h.1.map (·.block)).toList ++ (hs.map (·.1)).filterMap fun a => a.map (·.block)) := by
  unfold obs
  rw [List.map_cons, List.filterMap_cons, List.filterMap_cons]
  cases A.map (·.block) <;> cases h.1.map (·.block) <;> simp_all
/-- The top one gets a kid. -/
theorem Op.push {b : Nat} (ho : Op B (g :: gs) (h :: hs) (some ⟨b, 0, none⟩) c wx) {x : List Value} {n : Nd} (hx : RNd wx (Fre wx B (some ⟨b, 0, none⟩) (h :: hs)) x n) {cs : List (List Value)} (hcs : cs.length = g.ys.length)
    (hkid : ∀ (i : Nat) (x : List Value) (y : Nd), cs[i]? = some x → g.ys[i]? = some y → RNd wx (Fre wx B (some ⟨b, 0, none⟩) (h :: hs)) x y) {A' : Option Addr} {c' : Nat}
    (hown : wy.ownsRow B 46 10 (.slice A' (g.ys.length + 1) c') (g.ys.length + 1) (cs.flatten ++ x)) (hg : wx.grownBy wy (Value.slice h.1 g.ys.length h.2).ownBlock)
    (hv : (Value.slice A' (g.ys.length + 1) c').ownBlock = (Value.slice h.1 g.ys.length h.2).ownBlock ∨ (Value.slice A' (g.ys.length + 1) c').ownBlock = some wx.heap.size) :
    Op B (g.push n :: gs) ((A', c') :: hs) (some ⟨b, 0, none⟩) c (wy.setCell ⟨b, gs.length * 10 + 9, none⟩ (.slice A' (g.ys.length + 1) c')) ∧
      (∀ {x : List Value} {y : Nd}, RNd wx (Fre wx B (some ⟨b, 0, none⟩) (h :: hs)) x y → RNd (wy.setCell ⟨b, gs.length * 10 + 9, none⟩ (.slice A' (g.ys.length + 1) c')) (Fre (wy.setCell ⟨b, gs.length * 10 + 9, none⟩ (.slice A' (g.ys.length + 1) c')) B (some ⟨b, 0, none⟩) ((A', c') :: hs)) x y) ∧ ¬ A'.map (·.block) = some b := by
  obtain ⟨_, _, _, _, hfl⟩ := ho.kids.1
  have hl := ho.kids.2.len
  have f1 : Far (fun i => h.1.map (·.block) = some i) wx wy := Far.of_grown hg fun i e => ob_own.1 e.symm
  have hb := ho.own.lt b rfl
  have hnd := ho.nodup
  rw [obs_eq, nd2] at hnd
  obtain ⟨n1, n2, n3⟩ := hnd
  have n4 : ¬ h.1.map (·.block) = some b := fun e => n3 b rfl e
  have ho' : ∀ i, A'.map (·.block) = some i → h.1.map (·.block) = some i ∨ i = wx.heap.size := fun i e => by
    have e2 := (ob_own (A := A') (n := g.ys.length + 1) (c := c')).2 e
    rcases hv with hv | hv
    · rw [hv] at e2; exact .inl (ob_own.1 e2)
    · rw [hv] at e2; injection e2 with e2; exact .inr e2.symm
  have n5 : ¬ A'.map (·.block) = some b := fun e => by
    rcases ho' b e with h1 | h1
    · exact n4 h1
    · omega
  have n6 : ∀ h' ∈ hs, ∀ i, h'.1.map (·.block) = some i → ¬ h.1.map (·.block) = some i := fun h' hh i e e2 => by
    rw [e2] at n2
    exact (List.nodup_cons.1 n2).1 (List.mem_filterMap.2 ⟨h'.1, List.mem_map.2 ⟨h', hh, rfl⟩, e⟩)
  have n7 : ∀ h' ∈ hs, ¬ h'.1.map (·.block) = some b := fun h' hh e => (List.nodup_cons.1 n1).1 (List.mem_filterMap.2 ⟨h'.1, List.mem_map.2 ⟨h', hh, rfl⟩, e⟩)
  have f2 : Far (fun i => i = b) wy (wy.setCell ⟨b, gs.length * 10 + 9, none⟩ (.slice A' (g.ys.length + 1) c')) := Far.set_ (D := fun i => i = b) rfl _ _
  have hF : ∀ i, Fre wx B (some ⟨b, 0, none⟩) (h :: hs) i → Fre (wy.setCell ⟨b, gs.length * 10 + 9, none⟩ (.slice A' (g.ys.length + 1) c')) B (some ⟨b, 0, none⟩) ((A', c') :: hs) i := fun i hi => by
    refine ⟨hi.1, Nat.lt_of_lt_of_le hi.2.1 (Nat.le_trans f1.size f2.size), fun hm => ?_⟩
    rcases obs_mem.1 hm with e | ⟨h', hh, e⟩
    · exact hi.2.2 (obs_mem.2 (.inl e))
    · rcases List.mem_cons.1 hh with rfl | hh
      · rcases ho' i e with h1 | h1
        · exact hi.2.2 (obs_mem.2 (.inr ⟨h, List.mem_cons_self .., h1⟩))
        · have := hi.2.1; omega
      · exact hi.2.2 (obs_mem.2 (.inr ⟨h', List.mem_cons_of_mem _ hh, e⟩))
  have k1 : ∀ i, Fre wx B (some ⟨b, 0, none⟩) (h :: hs) i → i < wx.heap.size ∧ ¬ h.1.map (·.block) = some i := fun i hi => ⟨hi.2.1, fun e => hi.2.2 (obs_mem.2 (.inr ⟨h, List.mem_cons_self .., e⟩))⟩
  have k2 : ∀ i, Fre wx B (some ⟨b, 0, none⟩) (h :: hs) i → i < wy.heap.size ∧ ¬ i = b := fun i hi => ⟨Nat.lt_of_lt_of_le hi.2.1 f1.size, fun e => hi.2.2 (obs_mem.2 (.inl (by rw [e]; rfl)))⟩
  have mv : ∀ {x : List Value} {y : Nd}, RNd wx (Fre wx B (some ⟨b, 0, none⟩) (h :: hs)) x y → RNd (wy.setCell ⟨b, gs.length * 10 + 9, none⟩ (.slice A' (g.ys.length + 1) c')) (Fre (wy.setCell ⟨b, gs.length * 10 + 9, none⟩ (.slice A' (g.ys.length + 1) c')) B (some ⟨b, 0, none⟩) ((A', c') :: hs)) x y := fun hr =>
    ((hr.keep fun p hp => f1.cell (k1 _ hp).1 (k1 _ hp).2).keep fun p hp => f2.cell (k2 _ hp).1 (k2 _ hp).2).more hF
  have hlen : (g.push n).ys.length = g.ys.length + 1 := by simp [Fr.push]
  refine ⟨⟨?_, ⟨⟨cs ++ [x], by simp [hcs, hlen], ?_, fun i x' y' h1 h2 => ?_, hfl⟩, ?_⟩, ?_⟩, mv, n5⟩
  · have e1 := f1.own ho.own (fun i e => by have := ob_own.1 e; simp at this; subst this; exact n4)
    have e2 := own_set e1 (p := gs.length * 10 + 9) (by simp; omega) (.slice A' (g.ys.length + 1) c')
    have e3 : (frows (g :: gs) (h :: hs)).set (gs.length * 10 + 9) (.slice A' (g.ys.length + 1) c') = frows (g.push n :: gs) ((A', c') :: hs) := by
      simp only [frows]
      rw [frow_push g h n (A', c'), List.set_append_right _ _ (by rw [frows_len hl]; omega), frows_len hl]
      congr 2; omega
    rw [e3] at e2
    exact e2
  · rw [hlen, List.flatten_append]
    have := f2.own hown fun i e => by have := ob_own.1 e; intro e'; subst e'; exact n5 this
    simpa using this
  · by_cases hj : i < cs.length
    · rw [List.getElem?_append_left hj] at h1
      have h2' : g.ys[i]? = some y' := by
        have : (g.push n).ys = g.ys ++ [n] := rfl
        rwa [this, List.getElem?_append_left (by omega)] at h2
      exact mv (hkid i x' y' h1 h2')
    · have hj' : i = cs.length := by have := (List.getElem?_eq_some_iff.1 h1).1; simp at this; omega
      subst hj'
      rw [List.getElem?_append_right (Nat.le_refl _), Nat.sub_self] at h1
      have : (g.push n).ys = g.ys ++ [n] := rfl
      rw [this, hcs, List.getElem?_append_right (Nat.le_refl _), Nat.sub_self] at h2
      simp only [List.getElem?_cons_zero, Option.some.injEq] at h1 h2
      subst h1 h2
      exact mv hx
  · exact ((ho.kids.2.far f1 k1 n6).far f2 k2 fun h' hh i e e' => by subst e'; exact n7 h' hh e).more hF
  · rw [obs_eq, nd2]
    refine ⟨n1, ?_, fun q e e2 => by simp at e; subst e; exact n5 e2⟩
    cases hA' : A'.map (·.block) with
    | none =>
      cases hh : h.1.map (·.block) with
      | none => rw [hh] at n2; exact n2
      | some q => rw [hh] at n2; exact (List.nodup_cons.1 n2).2
    | some q =>
      rcases ho' q hA' with h1 | h1
      · rw [h1] at n2; exact n2
      · refine List.nodup_cons.2 ⟨fun hin => ?_, ?_⟩
        · obtain ⟨a, ha, e⟩ := List.mem_filterMap.1 hin
          obtain ⟨h', hh, rfl⟩ := List.mem_map.1 ha
          have := (ho.kids.ge h' (List.mem_cons_of_mem _ hh) q e).2
          omega
        · cases hh : h.1.map (·.block) with
          | none => rw [hh] at n2; exact n2
          | some q => rw [hh] at n2; exact (List.nodup_cons.1 n2).2
end
end Go.Proofs.YtokibfankmjphaaGreatDoor

/- The closures of quartermasterref.ReadNeed, walked. -/
namespace Go.Proofs.YtokibfankmjphaaGreatDoor
open Go.RowKit Qm

section
variable {B BO BW c : Nat} {fs : List Fr} {hs : List Hd} {A : Option Addr} {wh : Value} {w w' : World}
end
/-- Behind the append to the top one's kids. -/
structure Aft (B BO BW : Nat) (g : Fr) (gs : List Fr) (hd : Hd) (hs : List Hd) (b c : Nat) (wh : Value) (w wx w8 : World) : Prop where
  op : Op B (g :: gs) (hd :: hs) (some ⟨b, 0, none⟩) c wx
  lt : b < w8.heap.size
  cell : w8.cell? ⟨b, gs.length * 10 + 9, none⟩ = some (.slice hd.1 g.ys.length hd.2)
  free : w8.frozen? ⟨b, gs.length * 10 + 9, none⟩ = false
  far : Far (fun i => B ≤ i) w w8
end Go.Proofs.YtokibfankmjphaaGreatDoor

/- The other telling of an atom's text, walked. -/
namespace Go.Proofs.YtokibfankmjphaaGreatDoor
open Go.RowKit Qm Go.ChangeMaps

end Go.Proofs.YtokibfankmjphaaGreatDoor

/- The other telling of a number, walked. -/
namespace Go.Proofs.YtokibfankmjphaaGreatDoor
open Go.RowKit Qm

end Go.Proofs.YtokibfankmjphaaGreatDoor

/- The other telling of what a text says: quartermasterref.ReadAtom, walked. -/
namespace Go.Proofs.YtokibfankmjphaaGreatDoor
open Go.RowKit Qm

/-- A variable of the library's own that holds some integer. -/
def MaxV (w : World) : Prop := ∃ m, w.cell? ⟨0, 0, none⟩ = some (.int .i64 m)
theorem MaxV.below {w w' : World} (h : MaxV w) (hb : Below w.heap.size w w') : MaxV w' := by
  obtain ⟨m, hm⟩ := h
  exact ⟨m, (hb.cell (World.block_lt_of_cell? _ _ hm)).trans hm⟩

section
variable {w wx : World} {op ver slot : Int} {f : ByteArray} {on : Bool}
end
end Go.Proofs.YtokibfankmjphaaGreatDoor

/- quartermasterref.ReadNeed: the state of its loop. (Of the shelf: Tryz.strings_TrimSuffix Tryz.strings_HasPrefix Tryz.strings_HasSuffix) -/
namespace Go.Proofs.YtokibfankmjphaaGreatDoor
open Go.RowKit Qm

/-- What stands still in the loop: the result's box, the words. -/
structure Rw (w : World) (ws : List Qm.W) (wx : World) : Prop where
  res : Whole wx w.heap.size 46 [.int .i64 0, .string ⟨#[]⟩, .int .i64 0, .int .i64 0, .int .i64 0, .string ⟨#[]⟩, .bool false, .string ⟨#[]⟩, .bool false, .slice none 0 0]
  words : Whole wx (w.heap.size + 1 + 1 + 1) 9 (strs ws)
  bel : Below w.heap.size w wx
  sz : w.heap.size + 1 + 1 + 1 + 1 ≤ wx.heap.size
section
variable {w wx wy : World} {ws : List Qm.W}
theorem Rw.far (h : Rw w ws wx) (hf : Far (fun i => i = w.heap.size + 1 ∨ i = w.heap.size + 1 + 1 ∨ w.heap.size + 1 + 1 + 1 + 1 ≤ i) wx wy) : Rw w ws wy :=
  ⟨hf.whole h.res (by omega), hf.whole h.words (by omega), h.bel.trans (hf.below h.bel.size fun i hi => by omega), Nat.le_trans h.sz hf.size⟩
theorem Rw.below (h : Rw w ws wx) (hb : Below wx.heap.size wx wy) : Rw w ws wy := h.far (Far.of_below _ hb)
end
/-- What is known behind the append to 'open'. -/
structure Oaf (BO b8 m nb : Nat) (v : Value) (row : List Value) (w8 : World) : Prop where
  cell : ∀ i, i < 10 → w8.cell? ⟨b8, m * 10 + i, none⟩ = ([.int .i64 0, .string ⟨#[]⟩, .int .i64 0, .int .i64 0, .int .i64 0, .string ⟨#[]⟩, .bool false, .string ⟨#[]⟩, .bool false, .slice none 0 0] : List Value)[i]? ∧ w8.frozen? ⟨b8, m * 10 + i, none⟩ = false
  lt : b8 < w8.heap.size
  n : Whole w8 nb 46 row
  o : Whole w8 BO 44 [v]
  ne : b8 ≠ BO
end Go.Proofs.YtokibfankmjphaaGreatDoor

/- quartermasterref.ReadNeed: the round of its loop. (Of the shelf: Tryz.strings_TrimSuffix Tryz.strings_HasPrefix Tryz.strings_HasSuffix) -/
namespace Go.Proofs.YtokibfankmjphaaGreatDoor
open Go.RowKit Qm

/-- The first loop in a piece of code. -/
def loopIn : Code → Option Code
  | .loop b => some b
  | .seq a b => match loopIn a with | some x => some x | none => loopIn b
  | .block _ c => loopIn c
  | .cond _ a b => match loopIn a with | some x => some x | none => loopIn b
  | .scope c => loopIn c
  | _ => none
def roundOf (f : Func) : Code := match f.body with | some c => (match loopIn c with | some b => b | none => .skip) | none => .skip
end Go.Proofs.YtokibfankmjphaaGreatDoor

/- quartermasterref.CheckTree: the round of its loop. -/
namespace Go.Proofs.YtokibfankmjphaaGreatDoor
open Go.RowKit Qm

def ctFrame (w : World) (A : Option Addr) (n c : Nat) (u2 u3 u4 u5 u6 u7 u8 u10 u11 u19 u20 u21 u22 u23 u24 u25 u26 u27 u28 u29 u30 u31 u32 u33 u34 u35 u36 u37 u38 u39 u40 u41 u42 u43 u44 u45 u46 u47 u48 u49 u50 u51 u52 u53 u54 u55 u56 u57 u58 u59 u60 u61 u62 u63 u64 u65 u66 u67 u68 u69 u70 u71 u72 u73 u74 u75 u76 u77 u78 u79 u80 u81 u82 u83 u84 u85 u86 u87 u88 u89 u90 u91 u92 u93 u94 u95 u96 u97 u98 u99 u100 u101 u102 u103 u104 u105 u106 u107 u108 u109 u110 u111 u112 u113 u114 u115 u116 u117 u118 u119 u120 u121 u122 u123 u124 u125 u126 u127 u128 u129 u130 u131 u132 u133 u134 u135 u136 u137 u138 u139 : Value) : Act := { tmps := #[Value.agg #[Value.slice A n c], Value.pointer (some { block := w.heap.size, off := 0 }), u2, u3, u4, u5, u6, u7, u8, undef, u10, u11, Value.pointer (some { block := w.heap.size, off := 0 }), Value.slice A n c, Value.int IntKind.i64 ↑n, Value.bool false, Value.pointer (some { block := w.heap.size, off := 0 }), Value.slice A n c, Value.int IntKind.i64 ↑n, u19, u20, u21, u22, u23, u24, u25, u26, u27, u28, u29, u30, u31, u32, u33, u34, u35, u36, u37, u38, u39, u40, u41, u42, u43, u44, u45, u46, u47, u48, u49, u50, u51, u52, u53, u54, u55, u56, u57, u58, u59, u60, u61, u62, u63, u64, u65, u66, u67, u68, u69, u70, u71, u72, u73, u74, u75, u76, u77, u78, u79, u80, u81, u82, u83, u84, u85, u86, u87, u88, u89, u90, u91, u92, u93, u94, u95, u96, u97, u98, u99, u100, u101, u102, u103, u104, u105, u106, u107, u108, u109, u110, u111, u112, u113, u114, u115, u116, u117, u118, u119, u120, u121, u122, u123, u124, u125, u126, u127, u128, u129, u130, u131, u132, u133, u134, u135, u136, u137, u138, u139], defers := [] }
def ctJ (w : World) (A : Option Addr) (n c : Nat) (ps : List Pk) (J : Nat → Act → World → Prop) : Prop := ∀ (k : Nat) (a' : Act) (w' : World), (∃ u2 u3 u4 u5 u6 u7 u8 u10 u11 u19 u20 u21 u22 u23 u24 u25 u26 u27 u28 u29 u30 u31 u32 u33 u34 u35 u36 u37 u38 u39 u40 u41 u42 u43 u44 u45 u46 u47 u48 u49 u50 u51 u52 u53 u54 u55 u56 u57 u58 u59 u60 u61 u62 u63 u64 u65 u66 u67 u68 u69 u70 u71 u72 u73 u74 u75 u76 u77 u78 u79 u80 u81 u82 u83 u84 u85 u86 u87 u88 u89 u90 u91 u92 u93 u94 u95 u96 u97 u98 u99 u100 u101 u102 u103 u104 u105 u106 u107 u108 u109 u110 u111 u112 u113 u114 u115 u116 u117 u118 u119 u120 u121 u122 u123 u124 u125 u126 u127 u128 u129 u130 u131 u132 u133 u134 u135 u136 u137 u138 u139 : Value, (∃ j m : Nat, Hid (j + k = n) ∧ u19 = Value.int IntKind.i64 ↑j ∧ u3 = Value.int IntKind.i64 ↑m ∧ n + m ≤ 14 ∧ Hid (ckT none n ps = ckT (prevOf ps j) (n + m) (ps.drop j)) ∧ Hid (Tx w A n c w')) ∧ a' = ctFrame w A n c u2 u3 u4 u5 u6 u7 u8 u10 u11 u19 u20 u21 u22 u23 u24 u25 u26 u27 u28 u29 u30 u31 u32 u33 u34 u35 u36 u37 u38 u39 u40 u41 u42 u43 u44 u45 u46 u47 u48 u49 u50 u51 u52 u53 u54 u55 u56 u57 u58 u59 u60 u61 u62 u63 u64 u65 u66 u67 u68 u69 u70 u71 u72 u73 u74 u75 u76 u77 u78 u79 u80 u81 u82 u83 u84 u85 u86 u87 u88 u89 u90 u91 u92 u93 u94 u95 u96 u97 u98 u99 u100 u101 u102 u103 u104 u105 u106 u107 u108 u109 u110 u111 u112 u113 u114 u115 u116 u117 u118 u119 u120 u121 u122 u123 u124 u125 u126 u127 u128 u129 u130 u131 u132 u133 u134 u135 u136 u137 u138 u139) → J k a' w'
theorem badPk_lt {u p : Pk} (h : p.nm < u.nm) : badPk (some u) p = true := by
  have h1 : ¬ u.nm < p.nm := List.not_lt.2 (List.le_of_lt h)
  have h2 : u.nm ≠ p.nm := fun e => List.lt_irrefl _ (e ▸ h)
  simp [badPk, beforeP, h1, h2]
theorem badPk_eq {u p : Pk} (h : p.nm = u.nm) : badPk (some u) p = decide (p.ver ≤ u.ver) := by
  have h1 : ¬ u.nm < p.nm := by rw [h]; exact List.lt_irrefl _
  have e : decide (u.nm = p.nm) = true := decide_eq_true h.symm
  simp only [badPk, beforeP, e, decide_eq_false h1, Bool.false_or, Bool.true_and]
  by_cases hv : u.ver < p.ver
  · rw [decide_eq_true hv, decide_eq_false (by omega)]; rfl
  · rw [decide_eq_false hv, decide_eq_true (by omega)]; rfl
theorem badPk_gt {u p : Pk} (h1 : ¬ p.nm < u.nm) (h2 : p.nm ≠ u.nm) : badPk (some u) p = false := by
  have h : u.nm < p.nm := by
    refine Classical.byContradiction fun hn => h2 (List.le_antisymm (List.not_lt.1 hn) (List.not_lt.1 h1))
  simp [badPk, beforeP, h]
end Go.Proofs.YtokibfankmjphaaGreatDoor
