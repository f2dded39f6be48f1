/- Walk: the document's Solved. -/
import Derived.Test.YtpkbncfnkgofmaaW34
import Derived.Test.YtpkbncfnkgofmaaW33
import Derived.Test.YtpkbncfnkgofmaaW13
namespace Go.Proofs.Ytpkbncfnkgofmaa
open Go.RowKit
def resR (N : Nat) (cs : List (List Int)) (st : Nat) : Qm.Res := Qm.searchR N cs (N + 1) st [] []
def errOf : Qm.Res → Int
  | .out => 8
  | _ => 0
def mOf : Qm.Res → List Bool
  | .found m => m
  | _ => []
def pOf : Qm.Res → List (List Int)
  | .no _ pf => pf
  | _ => []
def SolvedPost (N : Nat) (cs : List (List Int)) (st : Nat) (w : World) (e : Ending) (w' : World) : Prop :=
  ∃ (AM : Option Addr) (nM cM : Nat) (AP : Option Addr) (nP cP : Nat), e = .returned (.tuple #[.agg #[.slice AM nM cM, .slice AP nP cP], .int .i64 (errOf (resR N cs st))]) ∧
    RBools w' (fun k => w.heap.size ≤ k ∧ k < w'.heap.size) AM nM (mOf (resR N cs st)) ∧ (nM ≤ cM ∧ cM ≤ maxLen) ∧ RClauses w' (fun k => w.heap.size ≤ k ∧ k < w'.heap.size) AP nP (pOf (resR N cs st)) ∧ (nP ≤ cP ∧ cP ≤ maxLen) ∧ Below w.heap.size w w'
set_option maxHeartbeats 8000000 in
theorem rsolved_any (A : Option Addr) (n cap N st : Nat) (cs : List (List Int)) (w : World) (S : Nat → Prop) (hS : ∀ k, S k → k < w.heap.size)
    (hr : RClauses w S A n cs) (hn : n ≤ cap ∧ cap ≤ maxLen) (hN : N ≤ 400) (hcs : ∀ c ∈ cs, Qm.IsCl N c) (hst : st ≤ 40000) :
    Calls Try.prog 39 #[.agg #[.int .i64 (N : Int), .slice A n cap], .int .i64 (st : Int)] w (SolvedPost N cs st w) := by
  have Hr := Lib.hid hr; have Hn := Lib.hid hn; have Hcs := Lib.hid hcs
  clear hr hn hcs
  have henter := callFuncR
  go_enter Try.func39, Try.ntmps39
  go_wp2_with fail
  have hb6 : Below w.heap.size w ((((((w.alloc (.cells #[.int .i64 (N : Int), .slice A n cap] 29)).alloc (.cells #[.int .i64 (st : Int)] 3)).alloc (.cells #[.slice none 0 0, .slice none 0 0] 57)).alloc (.cells #[.slice none 0 0, .slice none 0 0] 57)).alloc (.cells #[.bool false] 4)).alloc (.cells #[clo w.heap.size] 82)) := by go_grown
  have hfb : Whole ((((((w.alloc (.cells #[.int .i64 (N : Int), .slice A n cap] 29)).alloc (.cells #[.int .i64 (st : Int)] 3)).alloc (.cells #[.slice none 0 0, .slice none 0 0] 57)).alloc (.cells #[.slice none 0 0, .slice none 0 0] 57)).alloc (.cells #[.bool false] 4)).alloc (.cells #[clo w.heap.size] 82)) w.heap.size 29 [.int .i64 (N : Int), .slice A n cap] := (by (repeat (first | (refine Whole.new _ _ _ _ ?_; simp; done) | refine Whole.alloc ?_ _)))
  have hsb : Whole ((((((w.alloc (.cells #[.int .i64 (N : Int), .slice A n cap] 29)).alloc (.cells #[.int .i64 (st : Int)] 3)).alloc (.cells #[.slice none 0 0, .slice none 0 0] 57)).alloc (.cells #[.slice none 0 0, .slice none 0 0] 57)).alloc (.cells #[.bool false] 4)).alloc (.cells #[clo w.heap.size] 82)) (w.heap.size + 1) 3 [.int .i64 (st : Int)] := (by (repeat (first | (refine Whole.new _ _ _ _ ?_; simp; done) | refine Whole.alloc ?_ _)))
  have hrb : Whole ((((((w.alloc (.cells #[.int .i64 (N : Int), .slice A n cap] 29)).alloc (.cells #[.int .i64 (st : Int)] 3)).alloc (.cells #[.slice none 0 0, .slice none 0 0] 57)).alloc (.cells #[.slice none 0 0, .slice none 0 0] 57)).alloc (.cells #[.bool false] 4)).alloc (.cells #[clo w.heap.size] 82)) (w.heap.size + 1 + 1) 57 [.slice none 0 0, .slice none 0 0] := (by (repeat (first | (refine Whole.new _ _ _ _ ?_; simp; done) | refine Whole.alloc ?_ _)))
  have hab : Whole ((((((w.alloc (.cells #[.int .i64 (N : Int), .slice A n cap] 29)).alloc (.cells #[.int .i64 (st : Int)] 3)).alloc (.cells #[.slice none 0 0, .slice none 0 0] 57)).alloc (.cells #[.slice none 0 0, .slice none 0 0] 57)).alloc (.cells #[.bool false] 4)).alloc (.cells #[clo w.heap.size] 82)) (w.heap.size + 1 + 1 + 1) 57 [.slice none 0 0, .slice none 0 0] := (by (repeat (first | (refine Whole.new _ _ _ _ ?_; simp; done) | refine Whole.alloc ?_ _)))
  have hob : Whole ((((((w.alloc (.cells #[.int .i64 (N : Int), .slice A n cap] 29)).alloc (.cells #[.int .i64 (st : Int)] 3)).alloc (.cells #[.slice none 0 0, .slice none 0 0] 57)).alloc (.cells #[.slice none 0 0, .slice none 0 0] 57)).alloc (.cells #[.bool false] 4)).alloc (.cells #[clo w.heap.size] 82)) (w.heap.size + 1 + 1 + 1 + 1) 4 [.bool false] := (by (repeat (first | (refine Whole.new _ _ _ _ ?_; simp; done) | refine Whole.alloc ?_ _)))
  have hnb : Whole ((((((w.alloc (.cells #[.int .i64 (N : Int), .slice A n cap] 29)).alloc (.cells #[.int .i64 (st : Int)] 3)).alloc (.cells #[.slice none 0 0, .slice none 0 0] 57)).alloc (.cells #[.slice none 0 0, .slice none 0 0] 57)).alloc (.cells #[.bool false] 4)).alloc (.cells #[clo w.heap.size] 82)) (w.heap.size + 1 + 1 + 1 + 1 + 1) 82 [clo w.heap.size] := (by (repeat (first | (refine Whole.new _ _ _ _ ?_; simp; done) | refine Whole.alloc ?_ _)))
  have hz6 : ((((((w.alloc (.cells #[.int .i64 (N : Int), .slice A n cap] 29)).alloc (.cells #[.int .i64 (st : Int)] 3)).alloc (.cells #[.slice none 0 0, .slice none 0 0] 57)).alloc (.cells #[.slice none 0 0, .slice none 0 0] 57)).alloc (.cells #[.bool false] 4)).alloc (.cells #[clo w.heap.size] 82)).heap.size = w.heap.size + 6 := by simp
  have hcl : clo w.heap.size = .func (.func 58) #[] #[.pointer (some ⟨w.heap.size + 1, 0, none⟩), .pointer (some ⟨w.heap.size + 1 + 1 + 1 + 1, 0, none⟩), .pointer (some ⟨w.heap.size, 0, none⟩), .pointer (some ⟨w.heap.size + 1 + 1 + 1, 0, none⟩), .pointer (some ⟨w.heap.size + 1 + 1 + 1 + 1 + 1, 0, none⟩)] := rfl
  rw [← hcl]
  generalize ((((((w.alloc (.cells #[.int .i64 (N : Int), .slice A n cap] 29)).alloc (.cells #[.int .i64 (st : Int)] 3)).alloc (.cells #[.slice none 0 0, .slice none 0 0] 57)).alloc (.cells #[.slice none 0 0, .slice none 0 0] 57)).alloc (.cells #[.bool false] 4)).alloc (.cells #[clo w.heap.size] 82)) = w6 at *
  have hss : RState w.heap.size N A n cap cs S st (.slice none 0 0) [] [] w6.heap.size w6 := ⟨hsb, hob, hfb, hab, hnb, World.ownsRow_nil _ _ _ _, fun g h => by simp [Value.ownBlock] at h, Heads.nil_, Hr.out.below hb6 hS, Nat.le_refl _, by omega, hS⟩
  refine (rfrom_any w.heap.size N A n cap cs S hN Hn.out Hcs.out (N + 1) st [] [] (.slice none 0 0) [] none 0 0 w6 (fun _ => False) hss hst (by simp; omega) RInts.nil_ (fun _ h => absurd h id) (Nat.zero_le _) (fun n hn => by simp at hn) (Qm.Meas.start N)).mono ?_
  intro e w7 hpost
  have hres0 : Qm.searchR N cs (N + 1) st [] [] = resR N cs st := rfl
  rw [hres0] at hpost
  have hfar := hpost.1
  have hR7 : Whole w7 (w.heap.size + 1 + 1) 57 [.slice none 0 0, .slice none 0 0] := hfar.whole hrb (fun e => by
    rcases e with e | e | e | e
    · omega
    · omega
    · omega
    · simp [Value.ownBlock] at e)
  have hb7 : Below w.heap.size w w7 := hb6.trans (hfar.below hb6.size (fun i e => by
    rcases e with e | e | e | e
    · omega
    · omega
    · omega
    · simp [Value.ownBlock] at e))
  have hs67 : w.heap.size + 6 ≤ w7.heap.size := by have := hfar.size; omega
  have HR7 := Lib.hid hR7; have Hb7 := Lib.hid hb7
  clear hb6 hfb hsb hrb hab hob hnb hz6 hss hfar hR7 hb7 henter hres0 hcl
  have hr0 := HR7.out.cell 0
  have hr1 := HR7.out.cell 1
  have hrf0 := HR7.out.free 0
  have hrf1 := HR7.out.free 1
  simp only [List.getElem?_cons_zero, List.getElem?_cons_succ] at hr0 hr1
  generalize hr00 : resR N cs st = r at hpost
  have Hr0 := Lib.hid hr00; clear hr00
  cases r with
  | out =>
    obtain ⟨_, rfl, hob⟩ := hpost
    have ho0 : w7.cell? ⟨w.heap.size + 1 + 1 + 1 + 1, 0, none⟩ = _ := hob.cell 0
    simp only [List.getElem?_cons_zero] at ho0
    clear hob
    go_wp2_with fail
    have hW := (HR7.out.set_ 0 (.slice none 0 0)).set_ 1 (.slice none 0 0)
    have hbz := (Hb7.out.setCell (p := ⟨w.heap.size + 1 + 1, 0, none⟩) (by simp; omega) (.slice none 0 0)).setCell (p := ⟨w.heap.size + 1 + 1, 1, none⟩) (by simp; omega) (.slice none 0 0)
    have hfz : True := trivial
    simp only [List.set_cons_succ, List.set_cons_zero] at hW
    generalize hwz : (World.setCell (World.setCell _ _ _) _ _) = wz at hW hbz hfz ⊢
    have z0 := hW.cell 0
    have z1 := hW.cell 1
    simp only [List.getElem?_cons_zero, List.getElem?_cons_succ] at z0 z1
    refine bodyPost_ret (v := .tuple #[.agg #[_, _], .int .i64 _]) (by simp [results, Try.results39, go_sem, z0, z1]; exact ⟨⟨rfl, rfl⟩, rfl⟩) rfl ?_
    unfold SolvedPost
    rw [Hr0.out]
    exact ⟨none, 0, 0, none, 0, 0, rfl, Row.nil_, ⟨Nat.le_refl _, Nat.zero_le _⟩, RClauses.nil_, ⟨Nat.le_refl _, Nat.zero_le _⟩, hbz⟩
  | found m =>
    obtain ⟨_, rfl, hob, P', M, c, hab, hbools, hc1, hc2, hsome⟩ := hpost
    obtain ⟨aM, rfl⟩ := Option.isSome_iff_exists.1 hsome
    have ho0 : w7.cell? ⟨w.heap.size + 1 + 1 + 1 + 1, 0, none⟩ = _ := hob.cell 0
    have ha0 : w7.cell? ⟨w.heap.size + 1 + 1 + 1, 0, none⟩ = _ := hab.cell 0
    have ha1 : w7.cell? ⟨w.heap.size + 1 + 1 + 1, 1, none⟩ = _ := hab.cell 1
    have haf1 : w7.frozen? ⟨w.heap.size + 1 + 1 + 1, 1, none⟩ = _ := hab.free 1
    simp only [List.getElem?_cons_zero, List.getElem?_cons_succ] at ho0 ha0 ha1
    have hneq := fun (w : World) (n' c' : Nat) => run_neq_slice_nil_any (P := Try.prog) w 39 4 (some aM) m.length c n' c' Try.underlying39
    have Hab := Lib.hid hab; have Hbools := Lib.hid hbools; have Hc : Hid (_ ∧ _) := ⟨hc1, hc2⟩
    clear hob hab hbools hc1 hc2 hsome
    go_wp2_with fail
    have hf1 : Far (fun i => i = w.heap.size + 2 ∨ i = w.heap.size + 3) w7 (w7.setCell ⟨w.heap.size + 1 + 1 + 1, 1, none⟩ (.slice none 0 0)) := Far.set_ (D := fun i => i = w.heap.size + 2 ∨ i = w.heap.size + 3) (.inr rfl) 1 _
    have hR8 : Whole (w7.setCell ⟨w.heap.size + 1 + 1 + 1, 1, none⟩ (.slice none 0 0)) (w.heap.size + 1 + 1) 57 [.slice none 0 0, .slice none 0 0] := Whole.far HR7.out (by show w.heap.size + 1 + 1 ≠ w.heap.size + 1 + 1 + 1; omega) _
    have hb8 := Hb7.out.setCell (p := ⟨w.heap.size + 1 + 1 + 1, 1, none⟩) (by simp; omega) (.slice none 0 0)
    generalize w7.setCell ⟨w.heap.size + 1 + 1 + 1, 1, none⟩ (.slice none 0 0) = w8 at *
    have hW := (hR8.set_ 0 (.slice (some aM) m.length c)).set_ 1 (.slice none 0 0)
    have hbz := (hb8.setCell (p := ⟨w.heap.size + 1 + 1, 0, none⟩) (by simp; omega) (.slice (some aM) m.length c)).setCell (p := ⟨w.heap.size + 1 + 1, 1, none⟩) (by simp; omega) (.slice none 0 0)
    have hfz : Far (fun i => i = w.heap.size + 2 ∨ i = w.heap.size + 3) w7 ((w8.setCell ⟨w.heap.size + 1 + 1, 0, none⟩ (.slice (some aM) m.length c)).setCell ⟨w.heap.size + 1 + 1, 1, none⟩ (.slice none 0 0)) := hf1.trans ((Far.set_ (D := fun i => i = w.heap.size + 2 ∨ i = w.heap.size + 3) (.inl rfl) 0 _).trans (Far.set_ (D := fun i => i = w.heap.size + 2 ∨ i = w.heap.size + 3) (.inl rfl) 1 _) (fun i _ h => h)) (fun i _ h => h)
    simp only [List.set_cons_succ, List.set_cons_zero] at hW
    generalize hwz : (World.setCell (World.setCell _ _ _) _ _) = wz at hW hbz hfz ⊢
    have z0 := hW.cell 0
    have z1 := hW.cell 1
    simp only [List.getElem?_cons_zero, List.getElem?_cons_succ] at z0 z1
    refine bodyPost_ret (v := .tuple #[.agg #[_, _], .int .i64 _]) (by simp [results, Try.results39, go_sem, z0, z1]; exact ⟨⟨rfl, rfl⟩, rfl⟩) rfl ?_
    unfold SolvedPost
    rw [Hr0.out]
    exact ⟨some aM, m.length, c, none, 0, 0, rfl, (hfz.bools Hbools.out (fun k hk => ⟨hk.2, fun e => by rcases e with e | e <;> omega⟩)).more (fun k hk => ⟨by omega, by have := hfz.size; omega⟩), Hc.out, RClauses.nil_, ⟨Nat.le_refl _, Nat.zero_le _⟩, hbz⟩
  | no st' pf =>
    obtain ⟨_, rfl, P', hs', hst', _⟩ := hpost
    obtain ⟨AP, cP, rfl, hcP, hcP', hrowP⟩ := own_form hst'.own
    have ho0 : w7.cell? ⟨w.heap.size + 1 + 1 + 1 + 1, 0, none⟩ = _ := hst'.ob.cell 0
    have ha0 : w7.cell? ⟨w.heap.size + 1 + 1 + 1, 0, none⟩ = _ := hst'.ab.cell 0
    have ha1 : w7.cell? ⟨w.heap.size + 1 + 1 + 1, 1, none⟩ = _ := hst'.ab.cell 1
    simp only [List.getElem?_cons_zero, List.getElem?_cons_succ] at ho0 ha0 ha1
    have hneq := fun (w : World) (n' c' : Nat) => run_neq_slice_nil_any (P := Try.prog) w 39 4 none 0 0 n' c' Try.underlying39
    have hrz : RClauses w7 (fun k => w.heap.size + 6 ≤ k ∧ k < w7.heap.size) AP pf.length pf := RClauses.of_ (hs := hs') hrowP (hst'.heads.more (fun k hk => ⟨hk.1, hk.2.1⟩))
    have Hrz := Lib.hid hrz; have Hc : Hid (pf.length ≤ cP ∧ cP ≤ maxLen) := ⟨hcP, hcP'⟩
    clear hst' hcP hcP' hrowP hrz
    go_wp2_with fail
    have hW := (HR7.out.set_ 0 (.slice none 0 0)).set_ 1 (.slice AP pf.length cP)
    have hbz := (Hb7.out.setCell (p := ⟨w.heap.size + 1 + 1, 0, none⟩) (by simp; omega) (.slice none 0 0)).setCell (p := ⟨w.heap.size + 1 + 1, 1, none⟩) (by simp; omega) (.slice AP pf.length cP)
    have hfz : Far (fun i => i = w.heap.size + 2) w7 ((w7.setCell ⟨w.heap.size + 1 + 1, 0, none⟩ (.slice none 0 0)).setCell ⟨w.heap.size + 1 + 1, 1, none⟩ (.slice AP pf.length cP)) := (Far.set_ (D := fun i => i = w.heap.size + 2) rfl 0 _).trans (Far.set_ (D := fun i => i = w.heap.size + 2) rfl 1 _) (fun i _ h => h)
    simp only [List.set_cons_succ, List.set_cons_zero] at hW
    generalize hwz : (World.setCell (World.setCell _ _ _) _ _) = wz at hW hbz hfz ⊢
    have z0 := hW.cell 0
    have z1 := hW.cell 1
    simp only [List.getElem?_cons_zero, List.getElem?_cons_succ] at z0 z1
    refine bodyPost_ret (v := .tuple #[.agg #[_, _], .int .i64 _]) (by simp [results, Try.results39, go_sem, z0, z1]; exact ⟨⟨rfl, rfl⟩, rfl⟩) rfl ?_
    unfold SolvedPost
    rw [Hr0.out]
    exact ⟨none, 0, 0, AP, pf.length, cP, rfl, Row.nil_, ⟨Nat.le_refl _, Nat.zero_le _⟩, (hfz.clauses Hrz.out (fun k hk => ⟨hk.2, by omega⟩)).more (fun k hk => ⟨by omega, by have := hfz.size; omega⟩), Hc.out, hbz⟩
end Go.Proofs.Ytpkbncfnkgofmaa
