/- Parts of the proof: walks and plain laws, side by side. -/
import Derived.Test.YtnkmonmkhmcgaaaGreatDoorM17
import Derived.Laws.EntriesVeiled
import Derived.Maps.AppendAt
import Derived.Test.YtnkmonmkhmcgaaaGreatDoorM2
import Derived.Test.YtnkmonmkhmcgaaaGreatDoorM3
import Derived.Test.YtnkmonmkhmcgaaaGreatDoorM13
import Derived.Test.YtnkmonmkhmcgaaaGreatDoorM4
import Derived.Test.YtnkmonmkhmcgaaaGreatDoorM1
import Derived.Test.YtnkmonmkhmcgaaaGreatDoorM5
import Derived.Test.YtnkmonmkhmcgaaaGreatDoorM6
import Derived.Test.YtnkmonmkhmcgaaaGreatDoorM7
import Derived.Test.YtnkmonmkhmcgaaaGreatDoorM8
import Derived.Test.YtnkmonmkhmcgaaaGreatDoorM9
import Derived.Test.YtnkmonmkhmcgaaaGreatDoorM10
import Derived.Test.YtnkmonmkhmcgaaaGreatDoorM11
import Derived.Test.YtnkmonmkhmcgaaaGreatDoorM12
import Derived.Test.YtnkmonmkhmcgaaaGreatDoorM14
import Derived.Test.YtnkmonmkhmcgaaaGreatDoorM15
import Derived.Test.YtnkmonmkhmcgaaaGreatDoorM16
set_option linter.unusedVariables false
set_option linter.unusedSimpArgs false
set_option linter.unusedSectionVars false
/- quartermasterref.FlagsOf, walked. -/
namespace Go.Proofs.YtnkmonmkhmcgaaaGreatDoor
open Go.RowKit Qm
open Go.Maps (Keyed)

structure Fz (w : World) (b r m : Nat) (D : DataW Unit) (K : Qm.W → Bool) (l : List Qm.W) (A : Option Addr) (c : Nat) (left : Lit → Bool) (cnt : Nat) (wr : World) : Prop where
  rg : wr.ranges Tryz.prog 9 (plainElem Tryz.prog 4) b r m D left cnt
  gone : Gone K l left
  own : wr.ownsRow (r + 1) 9 1 (.slice A l.length c) l.length (strs l)
  bel : Below w.heap.size w wr
  lb : w.heap.size ≤ b ∧ w.heap.size ≤ r
  cnt_ : l.length + cnt ≤ m
theorem strs_snoc (l : List Qm.W) (x : Qm.W) : strs (l ++ [x]) = strs l ++ [.string ⟨x.toArray⟩] := by simp [strs]
theorem Fz.step {w wr w1 w2 : World} {b r m : Nat} {D : DataW Unit} {K : Qm.W → Bool} {l : List Qm.W} {A A' : Option Addr} {c c' : Nat} {left : Lit → Bool} {cnt cnt' : Nat} (h : Fz w b r m D K l A c left cnt wr) {x : Qm.W} (hx : x.length ≤ maxLen) (hl : left (.string x) = true)
    (hrg : w1.ranges Tryz.prog 9 (plainElem Tryz.prog 4) b r m D (fun z => left z && !z.sameKey (.string x)) cnt') (hlt : cnt' < cnt) (hg : wr.grownBy w1 (some r)) (hsz : w1.heap.size = wr.heap.size)
    (hown : w2.ownsRow (r + 1) 9 1 (.slice A' (l.length + 1) c') (l.length + 1) (strs l ++ [.string ⟨x.toArray⟩])) (o : Obj) (hg2 : (w1.alloc o).grownBy w2 (Value.slice A l.length c).ownBlock) :
    Fz w b r m D K (l ++ [x]) A' c' (fun z => left z && !z.sameKey (.string x)) cnt' w2 := by
  have hr := h.rg.lt
  have hb := h.rg.owns.lt
  have hne := h.rg.ne
  have hob : ∀ i, (Value.slice A l.length c).ownBlock = some i → r + 1 ≤ i := fun i e => (h.own.lt i e).1
  have hbne : some b ≠ (Value.slice A l.length c).ownBlock := fun e => by
    rcases h.own.2 with ⟨e0, _⟩ | ⟨g, cap, cur, hv, hg1, hg2, _⟩
    · rw [e0] at e; cases e
    · rw [hv] at e
      simp only [Value.ownBlock] at e
      injection e with e
      subst e
      obtain ⟨es, clock, _, _, _, hbb, _⟩ := h.rg
      rw [hbb] at hg2
      cases hg2
  have hrne : some r ≠ (Value.slice A l.length c).ownBlock := fun e => by have := hob r e.symm; omega
  refine ⟨(hrg.alloc o).kept hg2 hbne hrne, h.gone.step hx hl, ?_, ?_, h.lb, ?_⟩
  · rw [strs_snoc]; simpa using hown
  · have b1 : Below w.heap.size wr w1 := below_of_grown hg (Nat.le_trans h.bel.size (Nat.le_refl _)) fun i e => by injection e with e; have := h.lb.2; omega
    have b2 : Below w.heap.size w1 (w1.alloc o) := (Below.refl _ _).alloc (by have := h.bel.size; omega) _
    have b3 : Below w.heap.size (w1.alloc o) w2 := below_of_grown hg2 (by simp; have := h.bel.size; omega) fun i e => by have := hob i e; have := h.lb.2; omega
    exact ((h.bel.trans b1).trans b2).trans b3
  · simp only [List.length_append, List.length_cons, List.length_nil]; have := h.cnt_; omega
theorem new1 (w : World) (x : Value) (t : TypeId) : ∀ j u, [x][j]? = some u → (w.alloc (.cells #[x] t)).cell? ((⟨w.heap.size, 0, none⟩ : Addr).add j) = some u := by
  intro j u hj
  have h := (Whole.new w w.heap.size t [x] rfl).cell j
  have hadd : (⟨w.heap.size, 0, none⟩ : Addr).add j = ⟨w.heap.size, j, none⟩ := by unfold Addr.add; split <;> simp_all
  rw [hadd, ← hj, ← h]
theorem RKids.each {w : World} {S : Nat → Prop} {A : Option Addr} {n : Nat} {ks : List Nd} (h : RKids w S A n ks) : ∀ y ∈ ks, ∃ x, RNd w S x y := by
  intro y hy
  obtain ⟨j, hj, e⟩ := List.mem_iff_getElem.1 hy
  obtain ⟨b, o, x, y', _, _, hy', hr, _⟩ := h.at_ (j := j) (by rw [← h.len]; exact hj)
  rw [List.getElem?_eq_getElem hj, e] at hy'
  injection hy' with hy'
  subst hy'
  exact ⟨x, hr⟩
theorem RNd.flags_len {w : World} {S : Nat → Prop} : ∀ (y : Nd) (x : List Value), RNd w S x y → ∀ f ∈ flagsN y, f.length ≤ maxLen := by
  refine Nd.ind fun k a f no ks ih => ?_
  intro x h
  obtain ⟨A, n, c, rfl, _, _, _, _, h3, hK⟩ := h.open_
  have hL : ∀ (l : List Nd), (∀ y ∈ l, ∀ g ∈ flagsN y, g.length ≤ maxLen) → ∀ g ∈ flagsL l, g.length ≤ maxLen := by
    intro l
    induction l with
    | nil => intro _ g hg; simp [flagsL] at hg
    | cons k r ihr =>
      intro hh g hg
      simp only [flagsL, List.mem_append] at hg
      rcases hg with hg | hg
      · exact hh k (List.mem_cons_self ..) g hg
      · exact ihr (fun y hy => hh y (List.mem_cons_of_mem _ hy)) g hg
  intro g hg
  have hfn : flagsN (.mk k a f no ks) = (if k = 5 then [f] else []) ++ flagsL ks := rfl
  rw [hfn, List.mem_append] at hg
  rcases hg with hg | hg
  · split at hg
    · simp only [List.mem_singleton] at hg; subst hg; exact h3
    · simp at hg
  · exact hL ks (fun y hy => by obtain ⟨x, hx⟩ := hK.each y hy; exact ih y hy x hx) g hg
theorem sortStrings_nil (w : World) : Calls Tryz.prog 33 #[.slice none 0 0] w fun e w' => e = .returned (.tuple #[]) ∧ w' = w := by
  have hs1 := Tryz.slices_Sort_string_none none 0 w
  go_enter Tryz.func33, Tryz.ntmps33
  go_wp2_with (first | (go_at_call 23; refine hs1.mono ?_; rintro e w1 ⟨rfl, rfl⟩))
  go_end0
  exact ⟨rfl, rfl⟩
def RFlagsPost (w : World) (y : Nd) (e : Ending) (w' : World) : Prop :=
  ∃ A c, e = .returned (.slice A (Lib.compact (sortW (flagsN y))).length c) ∧ Row w' (fun i => w.heap.size ≤ i ∧ i < w'.heap.size) A (Lib.compact (sortW (flagsN y))).length (strs (Lib.compact (sortW (flagsN y)))) ∧ (Lib.compact (sortW (flagsN y))).length ≤ c ∧ c ≤ maxLen ∧ Below w.heap.size w w'
theorem str_info : (Tryz.prog.info? 9).map (fun i => (i.zero, i.size, i.bytes)) = some (some (.string ⟨#[]⟩), 1, 16) := by kernel_rfl
set_option maxRecDepth 100000 in
set_option maxHeartbeats 3200000 in
theorem rflags_any (y : Nd) (S : Nat → Prop) (x : List Value) (w : World) (hR : RNd w S x y) (hS : ∀ k, S k → k < w.heap.size) (hlen : (flagsN y).length ≤ 10000) :
    Calls Tryz.prog 15 #[.agg x.toArray] w (RFlagsPost w y) := by
  have Hfc := Lib.hid (fun BM BF b wx h1 h2 h3 => rflagsC_any y S x BM BF b (fun _ => false) 0 wx h1 h2 h3 (by omega))
  unfold RFlagsPost
  have HFL := Lib.hid (hR.flags_len)
  obtain ⟨fs, hfs⟩ : ∃ fs, flagsN y = fs := ⟨_, rfl⟩
  rw [hfs] at Hfc hlen HFL ⊢
  obtain ⟨k, a, f, no, ks⟩ := y
  obtain ⟨A, n, c, rfl, -⟩ := hR.open_
  have HR := Lib.hid hR; have HS := Lib.hid hS
  clear hR hS hfs
  obtain ⟨nm, op, ver, slot, fl, on⟩ := a
  unfold ndRow at Hfc HR ⊢
  have henter : ∀ (args : Array Value) (W : World), (callFunc 32 args).run Tryz.prog W = .ok (.enter 32 args) W := fun args W => by kernel_rfl
  obtain ⟨i0, hi, hz0, hz1, hz2⟩ : ∃ i0, Tryz.prog.info? 9 = some i0 ∧ i0.zero = some (.string ⟨#[]⟩) ∧ i0.size = 1 ∧ i0.bytes = 16 := by
    have h := str_info
    cases hh : Tryz.prog.info? 9 with
    | none => rw [hh] at h; simp at h
    | some i => rw [hh] at h; simp at h; exact ⟨i, rfl, h.1, h.2.1, h.2.2⟩
  have Hi := Lib.hid hi; have Hz0 := Lib.hid hz0; have Hz1 := Lib.hid hz1; have Hz2 := Lib.hid hz2
  clear hi hz0 hz1 hz2
  have hmm := @run_makeMap Tryz.prog
  have hb4 : Below w.heap.size w ((((w.alloc (.cells #[.int .i64 k, .string ⟨nm.toArray⟩, .int .i64 op, .int .i64 ver, .int .i64 slot, .string ⟨fl.toArray⟩, .bool on, .string ⟨f.toArray⟩, .bool no, .slice A n c] 26)).alloc (.map #[] 0)).alloc (.cells #[.map (some (w.heap.size + 1))] 60)).alloc (.cells #[.func (.func 32) #[] #[.pointer (some ⟨w.heap.size + 1 + 1, 0, none⟩), .pointer (some ⟨w.heap.size + 1 + 1 + 1, 0, none⟩)]] 50)) := (((Below.refl _ w).alloc (Nat.le_refl _) _).alloc (by simp) _).alloc (by simp; omega) _ |>.alloc (by simp; omega) _
  have hF0 : Fm (w.heap.size + 1 + 1) (w.heap.size + 1 + 1 + 1) (w.heap.size + 1) (fun _ => false) 0 ((((w.alloc (.cells #[.int .i64 k, .string ⟨nm.toArray⟩, .int .i64 op, .int .i64 ver, .int .i64 slot, .string ⟨fl.toArray⟩, .bool on, .string ⟨f.toArray⟩, .bool no, .slice A n c] 26)).alloc (.map #[] 0)).alloc (.cells #[.map (some (w.heap.size + 1))] 60)).alloc (.cells #[.func (.func 32) #[] #[.pointer (some ⟨w.heap.size + 1 + 1, 0, none⟩), .pointer (some ⟨w.heap.size + 1 + 1 + 1, 0, none⟩)]] 50)) := by
    refine ⟨(Whole.new _ _ _ [.map (some (w.heap.size + 1))] (by simp)).alloc _, Whole.new _ _ _ [_] (by simp), ?_, by omega, by omega⟩
    have hset := StrSet.made Tryz.prog (w.alloc (.cells #[.int .i64 k, .string ⟨nm.toArray⟩, .int .i64 op, .int .i64 ver, .int .i64 slot, .string ⟨fl.toArray⟩, .bool on, .string ⟨f.toArray⟩, .bool no, .slice A n c] 26))
    rw [show (w.alloc (.cells #[.int .i64 k, .string ⟨nm.toArray⟩, .int .i64 op, .int .i64 ver, .int .i64 slot, .string ⟨fl.toArray⟩, .bool on, .string ⟨f.toArray⟩, .bool no, .slice A n c] 26)).heap.size = w.heap.size + 1 by simp] at hset
    exact (hset.kept (World.grownBy_alloc _ _ none) (by simp)).kept (World.grownBy_alloc _ _ none) (by simp)
  have Hcall := Lib.hid (Hfc.out _ _ _ _ (HR.out.under hb4 HS.out) (fun q hq => ⟨Nat.lt_of_lt_of_le (HS.out q hq) hb4.size, by have := HS.out q hq; omega⟩) hF0)
  have HB4 := Lib.hid hb4
  clear hb4 hF0 Hfc HR
  go_enter Tryz.func15, Tryz.ntmps15
  go_wp2_with (first | (go_at_call 32; refine Hcall.out.mono ?_; rintro e w1 ⟨K, m, rfl, hF1, hf1, hk1, hm1⟩; refine Hid.out ?_))
  refine Lib.hid ?_
  have HB1 : Hid (Below w.heap.size w w1) := Lib.hid (HB4.out.trans (hf1.below HB4.out.size fun i e => by omega))
  have HK1 := Lib.hid hk1
  obtain ⟨D, hown, hsz, hD⟩ := hF1.set
  have HO := Lib.hid hown
  have HG : Hid (Gone K [] (Maps.has D)) := Lib.hid (Gone.start fun x hx => (hD x hx).1)
  have HZ := Lib.hid hsz
  have HM1 := Lib.hid hm1
  have m0 := hF1.mp.cell 0
  have m1 := hF1.mp.lt
  simp only [List.getElem?_cons_zero] at m0
  clear Hcall HB4 hF1 hf1 hk1 hm1 hown hsz hD hmm henter
  go_wp2_with (first
    | (at_range; refine wpList_range_own _ rfl _ 60 rfl 9 4 (Maps.string_keyed Tryz.underlying9) Tryz.underlying60 _ (w.heap.size + 1) m D rfl HO.out ?_; intro w0 hrg0 hg0 hs0)
    | go_in)
  go_frame
  have HRG := Lib.hid hrg0
  have HB0 : Hid (Below w.heap.size w w0) := Lib.hid (HB1.out.trans (below_of_grown hg0 HB1.out.size fun i e => by cases e))
  clear hrg0 hg0 hs0 m0 m1
  go_loopw [5, 6] (fun lv _ wr => ∃ (l : List Qm.W) (A' : Option Addr) (c' : Nat) (left : Lit → Bool) (cnt : Nat), Hid (Fz w (w.heap.size + 1) w1.heap.size m D K l A' c' left cnt wr) ∧ lv = .slice A' l.length c') (fun _ _ wr => wr.rangeLeft (w.heap.size + 1) w1.heap.size)
  case atStart =>
    refine ⟨[], none, 0, _, _, Lib.hid ⟨HRG.out, HG.out, World.ownsRow_nil _ _ _ _, HB0.out, ⟨by omega, HB1.out.size⟩, ?_⟩, rfl⟩
    rw [HZ.out]; simp
  case round =>
    obtain ⟨l, A', c', left, cnt, HF, rfl⟩ := hrel
    have hrg := HF.out.rg
    have hrlt := hrg.lt
    go_wp2_with (first
      | (at_next; refine wpList_next_ranges_sb _ rfl _ rfl 9 4 (Maps.string_keyed Tryz.underlying9) Tryz.underlying9 Tryz.underlying4 (w.heap.size + 1) w1.heap.size m D left cnt rfl hrg ?_ ?_)
      | go_in)
    · intro hc0 hl0
      have hdone : Hid (∀ x : Qm.W, x.length ≤ maxLen → (x ∈ l ↔ K x = true)) := Lib.hid fun x hx => HF.out.gone.done hl0 hx
      have hcl : Hid (l.length ≤ m) := Lib.hid (by have := HF.out.cnt_; omega)
      have hsame : Hid (Lib.compact (sortW fs) = sortW l) := Lib.hid (flags_same HF.out.gone.nodup fun x => ⟨fun h => by
        have h1 := HF.out.gone.got x h
        rw [HK1.out] at h1
        simpa using h1, fun h => (hdone.out x (HFL.out x h)).2 (by rw [HK1.out]; simpa using h)⟩).symm
      have hsl : (sortW l).length = l.length := by unfold sortW; rw [List.length_mergeSort]
      clear hrg
      rcases HF.out.own.2 with ⟨hv, hn0⟩ | ⟨g, cap, cur, hv, hg1, hg2, hg3⟩
      · injection hv with e1 e2 e3
        subst e1 e3
        obtain rfl : l = [] := List.eq_nil_of_length_eq_zero e2
        clear hn0 e2
        have hs1 := sortStrings_nil wr
        simp only [List.length_nil]
        go_wp2_with (first | (go_at_call 33; refine hs1.mono ?_; rintro e w5 ⟨rfl, rfl⟩))
        go_ret
        refine ⟨none, 0, ?_, ?_, ?_, Nat.zero_le _, ?_⟩
        · rw [hsame.out, hsl]; rfl
        · have h0 : sortW ([] : List Qm.W) = [] := List.eq_nil_of_length_eq_zero hsl
          rw [hsame.out, h0]; exact Row.nil_
        · rw [hsame.out, hsl]; exact Nat.le_refl _
        · exact HF.out.bel
      · injection hv with e1 e2 e3
        subst e1 e3
        clear hg2 hg3
        have Hso := Lib.hid (sortStrings_any (w1.heap.size + 1) g l.length c' l wr HF.out.own (by have := hcl.out; have := HM1.out; simp at this; omega))
        go_wp2_with (first | (go_at_call 33; refine Hso.out.mono ?_; rintro e w5 ⟨rfl, hown5, hf5⟩; refine Hid.out ?_))
        refine Lib.hid ?_
        go_wp2
        go_ret
        obtain ⟨_, _, he, h1, h2, _⟩ := own_form hown5
        injection he with _ _ he
        subst he
        have hb5 : Below w.heap.size w w5 := HF.out.bel.trans (hf5.below HF.out.bel.size fun i e => by have := HF.out.lb.2; omega)
        refine ⟨some ⟨g, 0, none⟩, c', ?_, ?_, ?_, h2, hb5⟩
        · rw [hsame.out, hsl]; rfl
        · rw [hsame.out, hsl]; exact (own_row hown5).more fun i hi => by have := HF.out.lb.2; omega
        · rw [hsame.out, hsl]; exact h1
    · intro x cv w2 cnt2 hx hlx hrg2 hlt2 hg2 hs2 hen
      have HO2 : Hid (w2.ownsRow (w1.heap.size + 1) 9 1 (.slice A' l.length c') l.length (strs l)) := Lib.hid (HF.out.own.kept hg2 (by
        by_cases h : (Value.slice A' l.length c').ownBlock = some w1.heap.size
        · have := (HF.out.own.lt _ h).1; omega
        · exact .inr h))
      have hl10 : l.length + 1 ≤ 100000 := by have := HF.out.cnt_; have := HM1.out; simp at this; omega
      have HRG2 := Lib.hid hrg2; have HLX := Lib.hid hlx; have HG2 := Lib.hid hg2; have HS2 := Lib.hid hs2; have HX := Lib.hid hx
      have hw2 : w1.heap.size + 1 ≤ w2.heap.size := by omega
      clear hrg2 hrg hg2 hs2 hlx hx
      go_wp2_with (first
        | (at_builtin; refine wpList_append_own_at _ rfl (.tmp 18) (.tmp 20) 35 rfl (w1.heap.size + 1) 9 i0 (.string ⟨#[]⟩) 1 16 Tryz.underlying35 Hi.out Hz0.out Hz1.out Hz2.out rfl (by decide) (.slice A' l.length c') l.length (strs l) rfl (HO2.out.kept (World.grownBy_alloc _ _ none) (by cases hv : (Value.slice A' l.length c').ownBlock <;> simp)) ⟨w2.heap.size, 0, none⟩ 1 1 [.string ⟨x.toArray⟩] rfl rfl (new1 _ _ _) (by simp [Value.oneCell']) (by unfold maxLen; omega) (by omega) (by simp; omega) ?_)
        | go_in)
      intro v' w3 hown3 hg3 _ _
      obtain ⟨A3, c3, rfl, _⟩ := own_formK hown3
      have HF3 := Lib.hid (HF.out.step HX.out HLX.out HRG2.out hlt2 HG2.out HS2.out hown3 _ hg3)
      clear hown3 hg3
      go_wp2_with fail
      go_roundw
      case rel => exact ⟨l ++ [x], A3, c3, _, cnt2, HF3, by simp⟩
      case measure => rw [HF3.out.rg.left_eq, HF.out.rg.left_eq]; exact hlt2
end Go.Proofs.YtnkmonmkhmcgaaaGreatDoor

/- The document's text of a need, in plain words. -/
namespace Qm
open Go
def rhead (k : Int) (f : W) (no : Bool) : W := if k = 4 then [124, 124, 32, 40] else if k = 5 then (if no then [33] else []) ++ (f ++ [63, 32, 40]) else [40]
mutual
def rtx : Nd → W
  | .mk k a f no ks => if k = 1 then textOf a else if k = 2 then 33 :: textOf a else rhead k f no ++ (rtxL ks ++ [32, 41])
def rtxL : List Nd → W
  | [] => []
  | k :: r => 32 :: (rtx k ++ rtxL r)
end
def preW (ws : List W) : W := ws.flatMap fun w => 32 :: w
theorem preW_app (a b : List W) : preW (a ++ b) = preW a ++ preW b := by simp [preW]
theorem joinB_pre (w : W) : ∀ (r : List W), joinB 32 (w :: r) = w ++ preW r := by
  intro r
  induction r generalizing w with
  | nil => simp [joinB, preW]
  | cons v r ih =>
    have : joinB 32 (w :: v :: r) = w ++ 32 :: joinB 32 (v :: r) := rfl
    rw [this, ih]; simp [preW]
theorem ckNd_kids {k : Int} {a : At} {f : W} {no : Bool} {ks : List Nd} (h : ckNd (.mk k a f no ks) = 0) (hk : ¬ k = 1) (hk2 : ¬ k = 2) : (∀ x ∈ ks, ckNd x = 0) ∧ (k = 5 → isName f = true) ∧ 3 ≤ k ∧ k ≤ 5 := by
  simp only [ckNd] at h
  have hl : leafK k = false := by simp [leafK, hk, hk2]
  split at h
  · cases h
  · split at h
    · cases h
    · split at h
      · cases h
      · split at h
        · cases h
        · split at h
          · cases h
          · rename_i h1 _ _ _ h5
            rw [if_neg (by simp [hl])] at h
            refine ⟨ckKids_zero.1 h, fun e => ?_, by omega, by omega⟩
            cases hn : isName f
            · exact absurd ⟨e, hn⟩ h5
            · rfl
theorem ckNd_leaf {k : Int} {a : At} {f : W} {no : Bool} {ks : List Nd} (h : ckNd (.mk k a f no ks) = 0) (hk : k = 1 ∨ k = 2) : ckAtom a = 0 := by
  simp only [ckNd] at h
  have hl : leafK k = true := by simp [leafK, hk]
  split at h
  · cases h
  · split at h
    · cases h
    · split at h
      · cases h
      · split at h
        · cases h
        · split at h
          · cases h
          · first | exact h | (rw [if_pos hl] at h; exact h) | (simpa [hl] using h)
theorem preW_words : ∀ (y : Nd), ckNd y = 0 → preW (wordsN y) = 32 :: rtx y := by
  refine Nd.ind fun k a f no ks ih => ?_
  intro h
  simp only [wordsN, rtx]
  by_cases h1 : k = 1
  · have := ckNd_leaf h (.inl h1)
    rw [if_pos h1, if_pos h1]
    simp [preW, prAtom, this]
  rw [if_neg h1, if_neg h1]
  by_cases h2 : k = 2
  · have := ckNd_leaf h (.inr h2)
    rw [if_pos h2, if_pos h2]
    simp [preW, prAtom, this]
  rw [if_neg h2, if_neg h2]
  obtain ⟨hks, _, k3, k5⟩ := ckNd_kids h h1 h2
  have hL : ∀ (l : List Nd), (∀ x ∈ l, preW (wordsN x) = 32 :: rtx x) → preW (wordsL l) = rtxL l := by
    intro l
    induction l with
    | nil => intro _; rfl
    | cons x r ihr => intro hx; simp only [wordsL, rtxL]; rw [preW_app, hx x (List.mem_cons_self ..), ihr fun z hz => hx z (List.mem_cons_of_mem _ hz)]; rfl
  have e := hL ks fun x hx => ih x hx (hks x hx)
  rw [preW_app, show preW ([40] :: (wordsL ks ++ [[41]])) = 32 :: 40 :: (preW (wordsL ks) ++ [32, 41]) from by simp [preW], e]
  rcases (show k = 3 ∨ k = 4 ∨ k = 5 by omega) with rfl | rfl | rfl
  · simp [headW, rhead, preW]
  · simp [headW, rhead, preW]
  · cases no <;> simp [headW, rhead, preW]
theorem ndText_rtx {y : Nd} (h : ckNd y = 0) : ndText y = rtx y := by
  have e := preW_words y h
  unfold ndText
  cases hw : wordsN y with
  | nil => rw [hw] at e; simp [preW] at e
  | cons w r =>
    rw [joinB_pre]
    rw [hw] at e
    simp only [preW, List.flatMap_cons, List.cons_append, List.cons.injEq, true_and] at e
    exact e
theorem rhead_len {k : Int} {f : W} {no : Bool} (h : k = 5 → isName f = true) : (rhead k f no).length ≤ 12 := by
  unfold rhead
  split
  · simp
  · split
    · rename_i h5; have := (isName_len (h h5)).2; cases no <;> simp <;> omega
    · simp
theorem rtx_len : ∀ (y : Nd), ckNd y = 0 → (rtx y).length + 1 ≤ 120 * y.nodes := by
  refine Nd.ind fun k a f no ks ih => ?_
  intro h
  simp only [rtx, Nd.nodes]
  by_cases h1 : k = 1
  · have := textOf_len (atOk (ckNd_leaf h (.inl h1)))
    rw [if_pos h1]; omega
  rw [if_neg h1]
  by_cases h2 : k = 2
  · have := textOf_len (atOk (ckNd_leaf h (.inr h2)))
    rw [if_pos h2, List.length_cons]; omega
  rw [if_neg h2]
  obtain ⟨hks, hn, _, _⟩ := ckNd_kids h h1 h2
  have hL : ∀ (l : List Nd), (∀ x ∈ l, (rtx x).length + 1 ≤ 120 * x.nodes) → (rtxL l).length ≤ 120 * nodesL l := by
    intro l
    induction l with
    | nil => intro _; simp [rtxL]
    | cons x r ihr =>
      intro hx
      have := hx x (List.mem_cons_self ..)
      have := ihr fun z hz => hx z (List.mem_cons_of_mem _ hz)
      simp only [rtxL, nodesL, List.length_cons, List.length_append]; omega
  have := hL ks fun x hx => ih x hx (hks x hx)
  have := rhead_len (no := no) hn
  simp only [List.length_append, List.length_cons, List.length_nil]; omega
theorem rtxL_app (a b : List Nd) : rtxL (a ++ b) = rtxL a ++ rtxL b := by
  induction a with
  | nil => rfl
  | cons x r ih => simp [rtxL, ih]
theorem rtxL_take {ks : List Nd} {j : Nat} {y : Nd} (h : ks[j]? = some y) : rtxL (ks.take (j + 1)) = rtxL (ks.take j) ++ 32 :: rtx y := by
  rw [List.take_add_one, h, rtxL_app]; simp [rtxL]
theorem rtxL_take_len {ks : List Nd} (h : ∀ x ∈ ks, ckNd x = 0) (j : Nat) : (rtxL (ks.take j)).length ≤ 120 * nodesL ks := by
  induction ks generalizing j with
  | nil => simp [rtxL]
  | cons x r ih =>
    cases j with
    | zero => simp [rtxL]
    | succ j =>
      have := rtx_len x (h x (List.mem_cons_self ..))
      have := ih (fun z hz => h z (List.mem_cons_of_mem _ hz)) j
      simp only [List.take_succ_cons, rtxL, nodesL, List.length_cons, List.length_append]; omega
theorem nodes_kid {ks : List Nd} {x : Nd} (h : x ∈ ks) : x.nodes ≤ nodesL ks := by
  induction ks with
  | nil => cases h
  | cons y r ih =>
    simp only [nodesL]
    rcases List.mem_cons.1 h with rfl | h
    · omega
    · have := ih h; omega
end Qm

/- quartermasterref.NeedText, walked. -/
namespace Go.Proofs.YtnkmonmkhmcgaaaGreatDoor
open Go.RowKit Qm

theorem rsadd (a b : Qm.W) (h : a.length + b.length ≤ 1000000) (wx : World) : (Op.stringOp .add ⟨a.toArray⟩ ⟨b.toArray⟩).run Tryz.prog wx = .ok (.string ⟨(a ++ b).toArray⟩) wx := by
  rw [run_string_add_sum wx _ _ (by rw [bsz, bsz]; omega)]
  exact congrArg (fun z => Result.ok (Value.string z) wx) (bapp a b)
theorem ret_str {a b : Qm.W} (h : a = b) : Ending.returned (.string ⟨a.toArray⟩) = .returned (.string ⟨b.toArray⟩) := by rw [h]
def RTexts (ks : List Nd) : Prop := ∀ x ∈ ks, ∀ (S : Nat → Prop) (cx : List Value) (w : World), RNd w S cx x → (∀ k, S k → k < w.heap.size) → ckNd x = 0 → x.nodes ≤ 20 →
    Calls Tryz.prog 13 #[.agg cx.toArray] w fun e w' => e = .returned (.string ⟨(rtx x).toArray⟩) ∧ Below w.heap.size w w'
set_option maxRecDepth 100000 in
set_option maxHeartbeats 1600000 in
theorem rntext_leaf1 (nm fl f : Qm.W) (op ver slot : Int) (on no : Bool) (A : Option Addr) (n c : Nat) (ks : List Nd) (w : World) (h : ckNd (.mk 1 ⟨nm, op, ver, slot, fl, on⟩ f no ks) = 0) :
    Calls Tryz.prog 13 #[.agg (ndRow 1 ⟨nm, op, ver, slot, fl, on⟩ f no A n c).toArray] w fun e w' => e = .returned (.string ⟨(rtx (.mk 1 ⟨nm, op, ver, slot, fl, on⟩ f no ks)).toArray⟩) ∧ Below w.heap.size w w' := by
  have hk := ckNd_leaf h (by omega)
  unfold ndRow
  have HB := Lib.hid ((Below.refl _ w).alloc (Nat.le_refl _) (.cells #[.int .i64 1, .string ⟨nm.toArray⟩, .int .i64 op, .int .i64 ver, .int .i64 slot, .string ⟨fl.toArray⟩, .bool on, .string ⟨f.toArray⟩, .bool no, .slice A n c] 26))
  have ht := fun wx => rtext_any ⟨nm.toArray⟩ ⟨fl.toArray⟩ op ver slot on wx (by rw [show atOf ⟨nm.toArray⟩ op ver slot ⟨fl.toArray⟩ on = ⟨nm, op, ver, slot, fl, on⟩ from by simp [atOf]]; exact hk)
  rw [show atOf ⟨nm.toArray⟩ op ver slot ⟨fl.toArray⟩ on = ⟨nm, op, ver, slot, fl, on⟩ from by simp [atOf]] at ht
  unfold atv at ht
  have HC : Hid (rtx (.mk 1 ⟨nm, op, ver, slot, fl, on⟩ f no ks) = textOf ⟨nm, op, ver, slot, fl, on⟩) := Lib.hid (by simp [rtx])
  have hlen := textOf_len (atOk hk)
  generalize rtx _ = R at HC ⊢
  generalize textOf _ = t at HC ht hlen
  have Ht := Lib.hid ht
  have a1 := fun wx => rsadd [33] t (by simp; omega) wx
  clear ht h hk
  go_enter Tryz.func13, Tryz.ntmps13
  go_wp2_with (first | (go_at_call 31; refine (Ht.out _).mono ?_; rintro e w1 ⟨rfl, hb1⟩; refine Hid.out ?_))
  refine Lib.hid ?_
  have HB1 := Lib.hid (HB.out.trans (hb1.mono HB.out.size)); clear hb1
  go_wp2
  go_ret
  exact ⟨ret_str HC.out.symm, HB1.out⟩
set_option maxRecDepth 100000 in
set_option maxHeartbeats 1600000 in
theorem rntext_leaf2 (nm fl f : Qm.W) (op ver slot : Int) (on no : Bool) (A : Option Addr) (n c : Nat) (ks : List Nd) (w : World) (h : ckNd (.mk 2 ⟨nm, op, ver, slot, fl, on⟩ f no ks) = 0) :
    Calls Tryz.prog 13 #[.agg (ndRow 2 ⟨nm, op, ver, slot, fl, on⟩ f no A n c).toArray] w fun e w' => e = .returned (.string ⟨(rtx (.mk 2 ⟨nm, op, ver, slot, fl, on⟩ f no ks)).toArray⟩) ∧ Below w.heap.size w w' := by
  have hk := ckNd_leaf h (by omega)
  unfold ndRow
  have HB := Lib.hid ((Below.refl _ w).alloc (Nat.le_refl _) (.cells #[.int .i64 2, .string ⟨nm.toArray⟩, .int .i64 op, .int .i64 ver, .int .i64 slot, .string ⟨fl.toArray⟩, .bool on, .string ⟨f.toArray⟩, .bool no, .slice A n c] 26))
  have ht := fun wx => rtext_any ⟨nm.toArray⟩ ⟨fl.toArray⟩ op ver slot on wx (by rw [show atOf ⟨nm.toArray⟩ op ver slot ⟨fl.toArray⟩ on = ⟨nm, op, ver, slot, fl, on⟩ from by simp [atOf]]; exact hk)
  rw [show atOf ⟨nm.toArray⟩ op ver slot ⟨fl.toArray⟩ on = ⟨nm, op, ver, slot, fl, on⟩ from by simp [atOf]] at ht
  unfold atv at ht
  have HC : Hid (rtx (.mk 2 ⟨nm, op, ver, slot, fl, on⟩ f no ks) = 33 :: textOf ⟨nm, op, ver, slot, fl, on⟩) := Lib.hid (by simp [rtx])
  have hlen := textOf_len (atOk hk)
  generalize rtx _ = R at HC ⊢
  generalize textOf _ = t at HC ht hlen
  have Ht := Lib.hid ht
  have a1 := fun wx => rsadd [33] t (by simp; omega) wx
  clear ht h hk
  go_enter Tryz.func13, Tryz.ntmps13
  go_wp2_with (first | (go_at_call 31; refine (Ht.out _).mono ?_; rintro e w1 ⟨rfl, hb1⟩; refine Hid.out ?_))
  refine Lib.hid ?_
  have HB1 := Lib.hid (HB.out.trans (hb1.mono HB.out.size)); clear hb1
  go_wp2
  go_ret
  exact ⟨ret_str HC.out.symm, HB1.out⟩
set_option maxRecDepth 100000 in
set_option maxHeartbeats 1600000 in
theorem rntext_kids3 (a : At) (f : Qm.W) (no : Bool) (ks : List Nd) (S : Nat → Prop) (A : Option Addr) (n c : Nat) (w : World) (ih : RTexts ks) (hnc : n ≤ c) (hc : c ≤ maxLen) (hK : RKids w S A n ks) (hS : ∀ k, S k → k < w.heap.size) (h : ckNd (.mk 3 a f no ks) = 0) (hn : (Nd.mk 3 a f no ks).nodes ≤ 20) :
    Calls Tryz.prog 13 #[.agg (ndRow 3 a f no A n c).toArray] w fun e w' => e = .returned (.string ⟨(rtx (.mk 3 a f no ks)).toArray⟩) ∧ Below w.heap.size w w' := by
  obtain ⟨hks, hnm, -, -⟩ := ckNd_kids h (by decide) (by decide)
  have Hhl := Lib.hid (rhead_len (k := 3) (f := f) (no := no) hnm)
  have HC : Hid (rtx (.mk 3 a f no ks) = rhead 3 f no ++ (rtxL ks ++ [32, 41])) := Lib.hid (by simp [rtx])
  have Hhd : Hid (rhead 3 f no = [40]) := Lib.hid (by simp [rhead])
  skip
  generalize rhead _ _ _ = hd at HC Hhl Hhd
  generalize rtx _ = R at HC ⊢
  have Hks := Lib.hid hks; have HI := Lib.hid ih; have HS := Lib.hid hS; have HK := Lib.hid hK
  have Hnd : Hid (nodesL ks ≤ 20) := Lib.hid (by simp only [Nd.nodes] at hn; omega)
  have HB := Lib.hid ((Below.refl _ w).alloc (Nat.le_refl _) (.cells #[.int .i64 3, .string ⟨a.nm.toArray⟩, .int .i64 a.op, .int .i64 a.ver, .int .i64 a.slot, .string ⟨a.fl.toArray⟩, .bool a.on, .string ⟨f.toArray⟩, .bool no, .slice A n c] 26))
  unfold maxLen at hc
  unfold ndRow
  clear hks hnm ih hS hK h hn
  go_enter Tryz.func13, Tryz.ntmps13
  go_wp2
  go_loopg [3, 33] n (fun g sv iv wr => ∃ (j : Nat), Hid (j + g = n) ∧ iv = .int .i64 j ∧ sv = .string ⟨(hd ++ rtxL (ks.take j)).toArray⟩ ∧ Below w.heap.size w wr)
  case atStart => exact ⟨0, Lib.hid (Nat.zero_add _), rfl, by rw [Hhd.out]; first | rfl | simp [rtxL], HB.out⟩
  case round =>
    obtain ⟨j, Hj, rfl, rfl, hb⟩ := hrel
    have HBr := Lib.hid hb; clear hb
    have hcl : Hid ((hd ++ rtxL (ks.take j)).length ≤ 3000) := Lib.hid (by have := rtxL_take_len Hks.out j; have := Hhl.out; have := Hnd.out; simp only [List.length_append]; omega)
    by_cases hj : j < n
    · obtain ⟨b, o, x, y, rfl, hb, hy, hxy, hcell⟩ := (HK.out.under HBr.out HS.out).at_ hj
      have hmem := List.mem_of_getElem? hy
      have Htk : Hid ((hd ++ rtxL (ks.take j)) ++ (32 :: rtx y) = hd ++ rtxL (ks.take (j + 1))) := Lib.hid (by rw [rtxL_take hy]; simp)
      have hyl := rtx_len y (Hks.out y hmem)
      have hyn := nodes_kid hmem
      have hy20 : y.nodes ≤ 20 := by have := Hnd.out; omega
      have hck := Hks.out y hmem
      obtain ⟨yk, ya, yf, yn, yks⟩ := y
      obtain ⟨A', n', c', rfl, -⟩ := hxy.open_
      have g0 := hcell 0 (by omega); have g1 := hcell 1 (by omega); have g2 := hcell 2 (by omega); have g3 := hcell 3 (by omega); have g4 := hcell 4 (by omega)
      have g5 := hcell 5 (by omega); have g6 := hcell 6 (by omega); have g7 := hcell 7 (by omega); have g8 := hcell 8 (by omega); have g9 := hcell 9 (by omega)
      clear hcell
      unfold ndRow at g0 g1 g2 g3 g4 g5 g6 g7 g8 g9
      simp only [List.getElem?_cons_zero, List.getElem?_cons_succ, Nat.add_zero] at g0 g1 g2 g3 g4 g5 g6 g7 g8 g9
      clear hy
      have hxy2 := (hxy.under (Below.refl _ wr |>.alloc (Nat.le_refl _) (.cells #[.int .i64 yk, .string ⟨ya.nm.toArray⟩, .int .i64 ya.op, .int .i64 ya.ver, .int .i64 ya.slot, .string ⟨ya.fl.toArray⟩, .bool ya.on, .string ⟨yf.toArray⟩, .bool yn, .slice A' n' c'] 26)) fun q hq => Nat.lt_of_lt_of_le (HS.out q hq) HBr.out.size)
      clear hxy
      have hcall := HI.out _ hmem S _ _ hxy2 (fun q hq => by have := HS.out q hq; have := HBr.out.size; simp; omega) hck hy20
      unfold ndRow at hcall
      generalize rtx (.mk yk ya yf yn yks) = t at hcall Htk hyl
      generalize hd ++ rtxL (ks.take j) = cur at Htk hcl
      have HBn := Lib.hid (HBr.out.alloc HBr.out.size (.cells #[.int .i64 yk, .string ⟨ya.nm.toArray⟩, .int .i64 ya.op, .int .i64 ya.ver, .int .i64 ya.slot, .string ⟨ya.fl.toArray⟩, .bool ya.on, .string ⟨yf.toArray⟩, .bool yn, .slice A' n' c'] 26))
      have hcu := hcl.out
      have a1 : ∀ wx : World, (Op.stringOp .add ⟨#[32]⟩ ⟨t.toArray⟩).run Tryz.prog wx = .ok (.string ⟨(32 :: t).toArray⟩) wx := fun wx => rsadd [32] t (by simp; omega) wx
      have a2 := fun wx => rsadd cur (32 :: t) (by simp; omega) wx
      clear hxy2 hmem hck hcu hyl hyn hy20
      have Hcall := Lib.hid hcall; clear hcall
      go_wp2_with (first | (go_at_call 13; refine Hcall.out.mono ?_; rintro e w' ⟨rfl, hb'⟩; refine Hid.out ?_))
      refine Lib.hid ?_
      have HB' := Lib.hid (HBn.out.trans (hb'.mono HBn.out.size)); clear hb'
      go_wp2
      go_roundg (gk - 1)
      case measure => have := Hj.out; omega
      case rel => exact ⟨j + 1, Lib.hid (by have := Hj.out; omega), by go_num, by rw [← Htk.out], HB'.out⟩
    · have e : ks.take j = ks := List.take_of_length_le (by have := HK.out.len; omega)
      rw [e] at hcl ⊢
      have HC2 : Hid ((hd ++ rtxL ks) ++ [32, 41] = R) := Lib.hid (by rw [HC.out]; simp)
      generalize hd ++ rtxL ks = cur at HC2 hcl ⊢
      have hcu := hcl.out
      have a1 := fun wx => rsadd cur [32, 41] (by simp; omega) wx
      clear e hcu
      go_wp2
      go_ret
      exact ⟨ret_str HC2.out, HBr.out⟩
set_option maxRecDepth 100000 in
set_option maxHeartbeats 1600000 in
theorem rntext_kids4 (a : At) (f : Qm.W) (no : Bool) (ks : List Nd) (S : Nat → Prop) (A : Option Addr) (n c : Nat) (w : World) (ih : RTexts ks) (hnc : n ≤ c) (hc : c ≤ maxLen) (hK : RKids w S A n ks) (hS : ∀ k, S k → k < w.heap.size) (h : ckNd (.mk 4 a f no ks) = 0) (hn : (Nd.mk 4 a f no ks).nodes ≤ 20) :
    Calls Tryz.prog 13 #[.agg (ndRow 4 a f no A n c).toArray] w fun e w' => e = .returned (.string ⟨(rtx (.mk 4 a f no ks)).toArray⟩) ∧ Below w.heap.size w w' := by
  obtain ⟨hks, hnm, -, -⟩ := ckNd_kids h (by decide) (by decide)
  have Hhl := Lib.hid (rhead_len (k := 4) (f := f) (no := no) hnm)
  have HC : Hid (rtx (.mk 4 a f no ks) = rhead 4 f no ++ (rtxL ks ++ [32, 41])) := Lib.hid (by simp [rtx])
  have Hhd : Hid (rhead 4 f no = [124, 124, 32, 40]) := Lib.hid (by simp [rhead])
  skip
  generalize rhead _ _ _ = hd at HC Hhl Hhd
  generalize rtx _ = R at HC ⊢
  have Hks := Lib.hid hks; have HI := Lib.hid ih; have HS := Lib.hid hS; have HK := Lib.hid hK
  have Hnd : Hid (nodesL ks ≤ 20) := Lib.hid (by simp only [Nd.nodes] at hn; omega)
  have HB := Lib.hid ((Below.refl _ w).alloc (Nat.le_refl _) (.cells #[.int .i64 4, .string ⟨a.nm.toArray⟩, .int .i64 a.op, .int .i64 a.ver, .int .i64 a.slot, .string ⟨a.fl.toArray⟩, .bool a.on, .string ⟨f.toArray⟩, .bool no, .slice A n c] 26))
  unfold maxLen at hc
  unfold ndRow
  clear hks hnm ih hS hK h hn
  go_enter Tryz.func13, Tryz.ntmps13
  go_wp2
  go_loopg [3, 33] n (fun g sv iv wr => ∃ (j : Nat), Hid (j + g = n) ∧ iv = .int .i64 j ∧ sv = .string ⟨(hd ++ rtxL (ks.take j)).toArray⟩ ∧ Below w.heap.size w wr)
  case atStart => exact ⟨0, Lib.hid (Nat.zero_add _), rfl, by rw [Hhd.out]; first | rfl | simp [rtxL], HB.out⟩
  case round =>
    obtain ⟨j, Hj, rfl, rfl, hb⟩ := hrel
    have HBr := Lib.hid hb; clear hb
    have hcl : Hid ((hd ++ rtxL (ks.take j)).length ≤ 3000) := Lib.hid (by have := rtxL_take_len Hks.out j; have := Hhl.out; have := Hnd.out; simp only [List.length_append]; omega)
    by_cases hj : j < n
    · obtain ⟨b, o, x, y, rfl, hb, hy, hxy, hcell⟩ := (HK.out.under HBr.out HS.out).at_ hj
      have hmem := List.mem_of_getElem? hy
      have Htk : Hid ((hd ++ rtxL (ks.take j)) ++ (32 :: rtx y) = hd ++ rtxL (ks.take (j + 1))) := Lib.hid (by rw [rtxL_take hy]; simp)
      have hyl := rtx_len y (Hks.out y hmem)
      have hyn := nodes_kid hmem
      have hy20 : y.nodes ≤ 20 := by have := Hnd.out; omega
      have hck := Hks.out y hmem
      obtain ⟨yk, ya, yf, yn, yks⟩ := y
      obtain ⟨A', n', c', rfl, -⟩ := hxy.open_
      have g0 := hcell 0 (by omega); have g1 := hcell 1 (by omega); have g2 := hcell 2 (by omega); have g3 := hcell 3 (by omega); have g4 := hcell 4 (by omega)
      have g5 := hcell 5 (by omega); have g6 := hcell 6 (by omega); have g7 := hcell 7 (by omega); have g8 := hcell 8 (by omega); have g9 := hcell 9 (by omega)
      clear hcell
      unfold ndRow at g0 g1 g2 g3 g4 g5 g6 g7 g8 g9
      simp only [List.getElem?_cons_zero, List.getElem?_cons_succ, Nat.add_zero] at g0 g1 g2 g3 g4 g5 g6 g7 g8 g9
      clear hy
      have hxy2 := (hxy.under (Below.refl _ wr |>.alloc (Nat.le_refl _) (.cells #[.int .i64 yk, .string ⟨ya.nm.toArray⟩, .int .i64 ya.op, .int .i64 ya.ver, .int .i64 ya.slot, .string ⟨ya.fl.toArray⟩, .bool ya.on, .string ⟨yf.toArray⟩, .bool yn, .slice A' n' c'] 26)) fun q hq => Nat.lt_of_lt_of_le (HS.out q hq) HBr.out.size)
      clear hxy
      have hcall := HI.out _ hmem S _ _ hxy2 (fun q hq => by have := HS.out q hq; have := HBr.out.size; simp; omega) hck hy20
      unfold ndRow at hcall
      generalize rtx (.mk yk ya yf yn yks) = t at hcall Htk hyl
      generalize hd ++ rtxL (ks.take j) = cur at Htk hcl
      have HBn := Lib.hid (HBr.out.alloc HBr.out.size (.cells #[.int .i64 yk, .string ⟨ya.nm.toArray⟩, .int .i64 ya.op, .int .i64 ya.ver, .int .i64 ya.slot, .string ⟨ya.fl.toArray⟩, .bool ya.on, .string ⟨yf.toArray⟩, .bool yn, .slice A' n' c'] 26))
      have hcu := hcl.out
      have a1 : ∀ wx : World, (Op.stringOp .add ⟨#[32]⟩ ⟨t.toArray⟩).run Tryz.prog wx = .ok (.string ⟨(32 :: t).toArray⟩) wx := fun wx => rsadd [32] t (by simp; omega) wx
      have a2 := fun wx => rsadd cur (32 :: t) (by simp; omega) wx
      clear hxy2 hmem hck hcu hyl hyn hy20
      have Hcall := Lib.hid hcall; clear hcall
      go_wp2_with (first | (go_at_call 13; refine Hcall.out.mono ?_; rintro e w' ⟨rfl, hb'⟩; refine Hid.out ?_))
      refine Lib.hid ?_
      have HB' := Lib.hid (HBn.out.trans (hb'.mono HBn.out.size)); clear hb'
      go_wp2
      go_roundg (gk - 1)
      case measure => have := Hj.out; omega
      case rel => exact ⟨j + 1, Lib.hid (by have := Hj.out; omega), by go_num, by rw [← Htk.out], HB'.out⟩
    · have e : ks.take j = ks := List.take_of_length_le (by have := HK.out.len; omega)
      rw [e] at hcl ⊢
      have HC2 : Hid ((hd ++ rtxL ks) ++ [32, 41] = R) := Lib.hid (by rw [HC.out]; simp)
      generalize hd ++ rtxL ks = cur at HC2 hcl ⊢
      have hcu := hcl.out
      have a1 := fun wx => rsadd cur [32, 41] (by simp; omega) wx
      clear e hcu
      go_wp2
      go_ret
      exact ⟨ret_str HC2.out, HBr.out⟩
set_option maxRecDepth 100000 in
set_option maxHeartbeats 1600000 in
theorem rntext_kids5f (a : At) (f : Qm.W) (ks : List Nd) (S : Nat → Prop) (A : Option Addr) (n c : Nat) (w : World) (ih : RTexts ks) (hnc : n ≤ c) (hc : c ≤ maxLen) (hK : RKids w S A n ks) (hS : ∀ k, S k → k < w.heap.size) (h : ckNd (.mk 5 a f false ks) = 0) (hn : (Nd.mk 5 a f false ks).nodes ≤ 20) :
    Calls Tryz.prog 13 #[.agg (ndRow 5 a f false A n c).toArray] w fun e w' => e = .returned (.string ⟨(rtx (.mk 5 a f false ks)).toArray⟩) ∧ Below w.heap.size w w' := by
  obtain ⟨hks, hnm, -, -⟩ := ckNd_kids h (by decide) (by decide)
  have Hhl := Lib.hid (rhead_len (k := 5) (f := f) (no := false) hnm)
  have HC : Hid (rtx (.mk 5 a f false ks) = rhead 5 f false ++ (rtxL ks ++ [32, 41])) := Lib.hid (by simp [rtx])
  have Hhd : Hid (rhead 5 f false = f ++ [63, 32, 40]) := Lib.hid (by simp [rhead])
  have hfl := (isName_len (hnm rfl)).2; have b1 := fun wx => rsadd f [63, 32, 40] (by simp; omega) wx; have b2 : ∀ wx : World, (Op.stringOp .add ⟨#[33]⟩ ⟨(f ++ [63, 32, 40]).toArray⟩).run Tryz.prog wx = .ok (.string ⟨(33 :: (f ++ [63, 32, 40])).toArray⟩) wx := fun wx => rsadd [33] (f ++ [63, 32, 40]) (by simp; omega) wx
  generalize rhead _ _ _ = hd at HC Hhl Hhd
  generalize rtx _ = R at HC ⊢
  have Hks := Lib.hid hks; have HI := Lib.hid ih; have HS := Lib.hid hS; have HK := Lib.hid hK
  have Hnd : Hid (nodesL ks ≤ 20) := Lib.hid (by simp only [Nd.nodes] at hn; omega)
  have HB := Lib.hid ((Below.refl _ w).alloc (Nat.le_refl _) (.cells #[.int .i64 5, .string ⟨a.nm.toArray⟩, .int .i64 a.op, .int .i64 a.ver, .int .i64 a.slot, .string ⟨a.fl.toArray⟩, .bool a.on, .string ⟨f.toArray⟩, .bool false, .slice A n c] 26))
  unfold maxLen at hc
  unfold ndRow
  clear hks hnm ih hS hK h hn
  go_enter Tryz.func13, Tryz.ntmps13
  go_wp2
  go_loopg [3, 33] n (fun g sv iv wr => ∃ (j : Nat), Hid (j + g = n) ∧ iv = .int .i64 j ∧ sv = .string ⟨(hd ++ rtxL (ks.take j)).toArray⟩ ∧ Below w.heap.size w wr)
  case atStart => exact ⟨0, Lib.hid (Nat.zero_add _), rfl, by rw [Hhd.out]; first | rfl | simp [rtxL], HB.out⟩
  case round =>
    obtain ⟨j, Hj, rfl, rfl, hb⟩ := hrel
    have HBr := Lib.hid hb; clear hb
    have hcl : Hid ((hd ++ rtxL (ks.take j)).length ≤ 3000) := Lib.hid (by have := rtxL_take_len Hks.out j; have := Hhl.out; have := Hnd.out; simp only [List.length_append]; omega)
    by_cases hj : j < n
    · obtain ⟨b, o, x, y, rfl, hb, hy, hxy, hcell⟩ := (HK.out.under HBr.out HS.out).at_ hj
      have hmem := List.mem_of_getElem? hy
      have Htk : Hid ((hd ++ rtxL (ks.take j)) ++ (32 :: rtx y) = hd ++ rtxL (ks.take (j + 1))) := Lib.hid (by rw [rtxL_take hy]; simp)
      have hyl := rtx_len y (Hks.out y hmem)
      have hyn := nodes_kid hmem
      have hy20 : y.nodes ≤ 20 := by have := Hnd.out; omega
      have hck := Hks.out y hmem
      obtain ⟨yk, ya, yf, yn, yks⟩ := y
      obtain ⟨A', n', c', rfl, -⟩ := hxy.open_
      have g0 := hcell 0 (by omega); have g1 := hcell 1 (by omega); have g2 := hcell 2 (by omega); have g3 := hcell 3 (by omega); have g4 := hcell 4 (by omega)
      have g5 := hcell 5 (by omega); have g6 := hcell 6 (by omega); have g7 := hcell 7 (by omega); have g8 := hcell 8 (by omega); have g9 := hcell 9 (by omega)
      clear hcell
      unfold ndRow at g0 g1 g2 g3 g4 g5 g6 g7 g8 g9
      simp only [List.getElem?_cons_zero, List.getElem?_cons_succ, Nat.add_zero] at g0 g1 g2 g3 g4 g5 g6 g7 g8 g9
      clear hy
      have hxy2 := (hxy.under (Below.refl _ wr |>.alloc (Nat.le_refl _) (.cells #[.int .i64 yk, .string ⟨ya.nm.toArray⟩, .int .i64 ya.op, .int .i64 ya.ver, .int .i64 ya.slot, .string ⟨ya.fl.toArray⟩, .bool ya.on, .string ⟨yf.toArray⟩, .bool yn, .slice A' n' c'] 26)) fun q hq => Nat.lt_of_lt_of_le (HS.out q hq) HBr.out.size)
      clear hxy
      have hcall := HI.out _ hmem S _ _ hxy2 (fun q hq => by have := HS.out q hq; have := HBr.out.size; simp; omega) hck hy20
      unfold ndRow at hcall
      generalize rtx (.mk yk ya yf yn yks) = t at hcall Htk hyl
      generalize hd ++ rtxL (ks.take j) = cur at Htk hcl
      have HBn := Lib.hid (HBr.out.alloc HBr.out.size (.cells #[.int .i64 yk, .string ⟨ya.nm.toArray⟩, .int .i64 ya.op, .int .i64 ya.ver, .int .i64 ya.slot, .string ⟨ya.fl.toArray⟩, .bool ya.on, .string ⟨yf.toArray⟩, .bool yn, .slice A' n' c'] 26))
      have hcu := hcl.out
      have a1 : ∀ wx : World, (Op.stringOp .add ⟨#[32]⟩ ⟨t.toArray⟩).run Tryz.prog wx = .ok (.string ⟨(32 :: t).toArray⟩) wx := fun wx => rsadd [32] t (by simp; omega) wx
      have a2 := fun wx => rsadd cur (32 :: t) (by simp; omega) wx
      clear hxy2 hmem hck hcu hyl hyn hy20
      have Hcall := Lib.hid hcall; clear hcall
      go_wp2_with (first | (go_at_call 13; refine Hcall.out.mono ?_; rintro e w' ⟨rfl, hb'⟩; refine Hid.out ?_))
      refine Lib.hid ?_
      have HB' := Lib.hid (HBn.out.trans (hb'.mono HBn.out.size)); clear hb'
      go_wp2
      go_roundg (gk - 1)
      case measure => have := Hj.out; omega
      case rel => exact ⟨j + 1, Lib.hid (by have := Hj.out; omega), by go_num, by rw [← Htk.out], HB'.out⟩
    · have e : ks.take j = ks := List.take_of_length_le (by have := HK.out.len; omega)
      rw [e] at hcl ⊢
      have HC2 : Hid ((hd ++ rtxL ks) ++ [32, 41] = R) := Lib.hid (by rw [HC.out]; simp)
      generalize hd ++ rtxL ks = cur at HC2 hcl ⊢
      have hcu := hcl.out
      have a1 := fun wx => rsadd cur [32, 41] (by simp; omega) wx
      clear e hcu
      go_wp2
      go_ret
      exact ⟨ret_str HC2.out, HBr.out⟩
set_option maxRecDepth 100000 in
set_option maxHeartbeats 1600000 in
theorem rntext_kids5t (a : At) (f : Qm.W) (ks : List Nd) (S : Nat → Prop) (A : Option Addr) (n c : Nat) (w : World) (ih : RTexts ks) (hnc : n ≤ c) (hc : c ≤ maxLen) (hK : RKids w S A n ks) (hS : ∀ k, S k → k < w.heap.size) (h : ckNd (.mk 5 a f true ks) = 0) (hn : (Nd.mk 5 a f true ks).nodes ≤ 20) :
    Calls Tryz.prog 13 #[.agg (ndRow 5 a f true A n c).toArray] w fun e w' => e = .returned (.string ⟨(rtx (.mk 5 a f true ks)).toArray⟩) ∧ Below w.heap.size w w' := by
  obtain ⟨hks, hnm, -, -⟩ := ckNd_kids h (by decide) (by decide)
  have Hhl := Lib.hid (rhead_len (k := 5) (f := f) (no := true) hnm)
  have HC : Hid (rtx (.mk 5 a f true ks) = rhead 5 f true ++ (rtxL ks ++ [32, 41])) := Lib.hid (by simp [rtx])
  have Hhd : Hid (rhead 5 f true = 33 :: (f ++ [63, 32, 40])) := Lib.hid (by simp [rhead])
  have hfl := (isName_len (hnm rfl)).2; have b1 := fun wx => rsadd f [63, 32, 40] (by simp; omega) wx; have b2 : ∀ wx : World, (Op.stringOp .add ⟨#[33]⟩ ⟨(f ++ [63, 32, 40]).toArray⟩).run Tryz.prog wx = .ok (.string ⟨(33 :: (f ++ [63, 32, 40])).toArray⟩) wx := fun wx => rsadd [33] (f ++ [63, 32, 40]) (by simp; omega) wx
  generalize rhead _ _ _ = hd at HC Hhl Hhd
  generalize rtx _ = R at HC ⊢
  have Hks := Lib.hid hks; have HI := Lib.hid ih; have HS := Lib.hid hS; have HK := Lib.hid hK
  have Hnd : Hid (nodesL ks ≤ 20) := Lib.hid (by simp only [Nd.nodes] at hn; omega)
  have HB := Lib.hid ((Below.refl _ w).alloc (Nat.le_refl _) (.cells #[.int .i64 5, .string ⟨a.nm.toArray⟩, .int .i64 a.op, .int .i64 a.ver, .int .i64 a.slot, .string ⟨a.fl.toArray⟩, .bool a.on, .string ⟨f.toArray⟩, .bool true, .slice A n c] 26))
  unfold maxLen at hc
  unfold ndRow
  clear hks hnm ih hS hK h hn
  go_enter Tryz.func13, Tryz.ntmps13
  go_wp2
  go_loopg [3, 33] n (fun g sv iv wr => ∃ (j : Nat), Hid (j + g = n) ∧ iv = .int .i64 j ∧ sv = .string ⟨(hd ++ rtxL (ks.take j)).toArray⟩ ∧ Below w.heap.size w wr)
  case atStart => exact ⟨0, Lib.hid (Nat.zero_add _), rfl, by rw [Hhd.out]; first | rfl | simp [rtxL], HB.out⟩
  case round =>
    obtain ⟨j, Hj, rfl, rfl, hb⟩ := hrel
    have HBr := Lib.hid hb; clear hb
    have hcl : Hid ((hd ++ rtxL (ks.take j)).length ≤ 3000) := Lib.hid (by have := rtxL_take_len Hks.out j; have := Hhl.out; have := Hnd.out; simp only [List.length_append]; omega)
    by_cases hj : j < n
    · obtain ⟨b, o, x, y, rfl, hb, hy, hxy, hcell⟩ := (HK.out.under HBr.out HS.out).at_ hj
      have hmem := List.mem_of_getElem? hy
      have Htk : Hid ((hd ++ rtxL (ks.take j)) ++ (32 :: rtx y) = hd ++ rtxL (ks.take (j + 1))) := Lib.hid (by rw [rtxL_take hy]; simp)
      have hyl := rtx_len y (Hks.out y hmem)
      have hyn := nodes_kid hmem
      have hy20 : y.nodes ≤ 20 := by have := Hnd.out; omega
      have hck := Hks.out y hmem
      obtain ⟨yk, ya, yf, yn, yks⟩ := y
      obtain ⟨A', n', c', rfl, -⟩ := hxy.open_
      have g0 := hcell 0 (by omega); have g1 := hcell 1 (by omega); have g2 := hcell 2 (by omega); have g3 := hcell 3 (by omega); have g4 := hcell 4 (by omega)
      have g5 := hcell 5 (by omega); have g6 := hcell 6 (by omega); have g7 := hcell 7 (by omega); have g8 := hcell 8 (by omega); have g9 := hcell 9 (by omega)
      clear hcell
      unfold ndRow at g0 g1 g2 g3 g4 g5 g6 g7 g8 g9
      simp only [List.getElem?_cons_zero, List.getElem?_cons_succ, Nat.add_zero] at g0 g1 g2 g3 g4 g5 g6 g7 g8 g9
      clear hy
      have hxy2 := (hxy.under (Below.refl _ wr |>.alloc (Nat.le_refl _) (.cells #[.int .i64 yk, .string ⟨ya.nm.toArray⟩, .int .i64 ya.op, .int .i64 ya.ver, .int .i64 ya.slot, .string ⟨ya.fl.toArray⟩, .bool ya.on, .string ⟨yf.toArray⟩, .bool yn, .slice A' n' c'] 26)) fun q hq => Nat.lt_of_lt_of_le (HS.out q hq) HBr.out.size)
      clear hxy
      have hcall := HI.out _ hmem S _ _ hxy2 (fun q hq => by have := HS.out q hq; have := HBr.out.size; simp; omega) hck hy20
      unfold ndRow at hcall
      generalize rtx (.mk yk ya yf yn yks) = t at hcall Htk hyl
      generalize hd ++ rtxL (ks.take j) = cur at Htk hcl
      have HBn := Lib.hid (HBr.out.alloc HBr.out.size (.cells #[.int .i64 yk, .string ⟨ya.nm.toArray⟩, .int .i64 ya.op, .int .i64 ya.ver, .int .i64 ya.slot, .string ⟨ya.fl.toArray⟩, .bool ya.on, .string ⟨yf.toArray⟩, .bool yn, .slice A' n' c'] 26))
      have hcu := hcl.out
      have a1 : ∀ wx : World, (Op.stringOp .add ⟨#[32]⟩ ⟨t.toArray⟩).run Tryz.prog wx = .ok (.string ⟨(32 :: t).toArray⟩) wx := fun wx => rsadd [32] t (by simp; omega) wx
      have a2 := fun wx => rsadd cur (32 :: t) (by simp; omega) wx
      clear hxy2 hmem hck hcu hyl hyn hy20
      have Hcall := Lib.hid hcall; clear hcall
      go_wp2_with (first | (go_at_call 13; refine Hcall.out.mono ?_; rintro e w' ⟨rfl, hb'⟩; refine Hid.out ?_))
      refine Lib.hid ?_
      have HB' := Lib.hid (HBn.out.trans (hb'.mono HBn.out.size)); clear hb'
      go_wp2
      go_roundg (gk - 1)
      case measure => have := Hj.out; omega
      case rel => exact ⟨j + 1, Lib.hid (by have := Hj.out; omega), by go_num, by rw [← Htk.out], HB'.out⟩
    · have e : ks.take j = ks := List.take_of_length_le (by have := HK.out.len; omega)
      rw [e] at hcl ⊢
      have HC2 : Hid ((hd ++ rtxL ks) ++ [32, 41] = R) := Lib.hid (by rw [HC.out]; simp)
      generalize hd ++ rtxL ks = cur at HC2 hcl ⊢
      have hcu := hcl.out
      have a1 := fun wx => rsadd cur [32, 41] (by simp; omega) wx
      clear e hcu
      go_wp2
      go_ret
      exact ⟨ret_str HC2.out, HBr.out⟩
theorem rntext_any : ∀ (y : Nd) (S : Nat → Prop) (x : List Value) (w : World), RNd w S x y → (∀ k, S k → k < w.heap.size) → ckNd y = 0 → y.nodes ≤ 20 →
    Calls Tryz.prog 13 #[.agg x.toArray] w fun e w' => e = .returned (.string ⟨(rtx y).toArray⟩) ∧ Below w.heap.size w w' := by
  refine Nd.ind fun k a f no ks ih => ?_
  intro S x w hR hS h hn
  obtain ⟨A, n, c, rfl, hnc, hc, _, _, _, hK⟩ := hR.open_
  by_cases h1 : k = 1
  · subst h1; obtain ⟨nm, op, ver, slot, fl, on⟩ := a; exact rntext_leaf1 nm fl f op ver slot on no A n c ks w h
  by_cases h2 : k = 2
  · subst h2; obtain ⟨nm, op, ver, slot, fl, on⟩ := a; exact rntext_leaf2 nm fl f op ver slot on no A n c ks w h
  obtain ⟨_, _, k3, k5⟩ := ckNd_kids h h1 h2
  rcases (show k = 3 ∨ k = 4 ∨ k = 5 by omega) with rfl | rfl | rfl
  · exact rntext_kids3 a f no ks S A n c w ih hnc hc hK hS h hn
  · exact rntext_kids4 a f no ks S A n c w ih hnc hc hK hS h hn
  · cases no
    · exact rntext_kids5f a f ks S A n c w ih hnc hc hK hS h hn
    · exact rntext_kids5t a f ks S A n c w ih hnc hc hK hS h hn
end Go.Proofs.YtnkmonmkhmcgaaaGreatDoor
