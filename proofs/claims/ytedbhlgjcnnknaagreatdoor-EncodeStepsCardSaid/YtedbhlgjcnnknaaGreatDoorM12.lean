/- Parts of the proof: walks and plain laws, side by side. -/
import Derived.Test.YtedbhlgjcnnknaaGreatDoorM11
import Derived.LoopN
set_option linter.unusedVariables false
set_option linter.unusedSimpArgs false
set_option linter.unusedSectionVars false
/- atom.Parse, walked: words for its memory; its ends. -/
namespace Go.Proofs.YtedbhlgjcnnknaaGreatDoor
open Go.RowKit Qm

def AtEnd (r : At × Int) : Ending := .returned (.tuple #[.agg #[.string ⟨r.1.nm.toArray⟩, .int .i64 r.1.op, .int .i64 r.1.ver, .int .i64 r.1.slot, .string ⟨r.1.fl.toArray⟩, .bool r.1.on], .int .i64 r.2])

set_option maxHeartbeats 1600000 in
theorem fail_any (w : World) :
  Calls Tryz.prog 178 #[] w fun e w' => e = .returned (.tuple #[.agg #[.string ⟨#[]⟩, .int .i64 0, .int .i64 0, .int .i64 0, .string ⟨#[]⟩, .bool false], .int .i64 1]) ∧ Below w.heap.size w w' := by
 go_enter Tryz.func178, Tryz.ntmps178
 go_wp2
 refine bodyPost_ret (v := .tuple #[.agg #[_, _, _, _, _, _], .int .i64 _]) (by simp [results, Tryz.results178, go_sem]) rfl ⟨rfl, ?_⟩
 exact (Below.refl _ _).alloc (Nat.le_refl _) _

structure PS (w : World) (op ver slot : Int) (f : ByteArray) (on : Bool) (wx : World) : Prop where
 z : Whole wx w.heap.size 75 [.string ⟨#[]⟩, .int .i64 0, .int .i64 0, .int .i64 0, .string ⟨#[]⟩, .bool false]
 a : Whole wx (w.heap.size + 1) 75 [.string ⟨#[]⟩, .int .i64 op, .int .i64 ver, .int .i64 slot, .string f, .bool on]
 b : Below w.heap.size w wx
section
variable {w wx wy : World} {op ver slot : Int} {f : ByteArray} {on : Bool}
theorem PS.below (h : PS w op ver slot f on wx) (hb : Below wx.heap.size wx wy) : PS w op ver slot f on wy :=
 ⟨h.z.below hb h.z.lt, h.a.below hb h.a.lt, h.b.trans (hb.mono h.b.size)⟩
theorem PS.new (w : World) : PS w 0 0 0 ⟨#[]⟩ false ((w.alloc (.cells #[.string ⟨#[]⟩, .int .i64 0, .int .i64 0, .int .i64 0, .string ⟨#[]⟩, .bool false] 75)).alloc (.cells #[.string ⟨#[]⟩, .int .i64 0, .int .i64 0, .int .i64 0, .string ⟨#[]⟩, .bool false] 75)) :=
 ⟨(Whole.new w _ _ [.string ⟨#[]⟩, .int .i64 0, .int .i64 0, .int .i64 0, .string ⟨#[]⟩, .bool false] rfl).alloc _, Whole.new _ _ _ [.string ⟨#[]⟩, .int .i64 0, .int .i64 0, .int .i64 0, .string ⟨#[]⟩, .bool false] (by simp),
  ((Below.refl _ w).alloc (Nat.le_refl _) _).alloc (by simp) _⟩
theorem PS.drew (h : PS w op ver slot f on wx) : PS w op ver slot f on wx.drew := ⟨h.z.drew, h.a.drew, h.b.drew⟩
theorem PS.drewN (h : PS w op ver slot f on wx) (k : Nat) : PS w op ver slot f on (wx.drewN k) := ⟨h.z.drewN k, h.a.drewN k, below_drewN h.b k⟩
theorem PS.flag (h : PS w op ver slot f on wx) (g : ByteArray) : PS w op ver slot g on (wx.setCell ⟨w.heap.size + 1, 4, none⟩ (.string g)) :=
 ⟨h.z.far (by show w.heap.size ≠ w.heap.size + 1; omega) _, h.a.set_ 4 _, h.b.setCell (by show w.heap.size ≤ w.heap.size + 1; omega) _⟩
theorem PS.on_ (h : PS w op ver slot f on wx) (g : Bool) : PS w op ver slot f g (wx.setCell ⟨w.heap.size + 1, 5, none⟩ (.bool g)) :=
 ⟨h.z.far (by show w.heap.size ≠ w.heap.size + 1; omega) _, h.a.set_ 5 _, h.b.setCell (by show w.heap.size ≤ w.heap.size + 1; omega) _⟩
theorem PS.slot_ (h : PS w op ver slot f on wx) (g : Int) : PS w op ver g f on (wx.setCell ⟨w.heap.size + 1, 3, none⟩ (.int .i64 g)) :=
 ⟨h.z.far (by show w.heap.size ≠ w.heap.size + 1; omega) _, h.a.set_ 3 _, h.b.setCell (by show w.heap.size ≤ w.heap.size + 1; omega) _⟩
theorem PS.op_ (h : PS w op ver slot f on wx) (g v : Int) : PS w g v slot f on ((wx.setCell ⟨w.heap.size + 1, 1, none⟩ (.int .i64 g)).setCell ⟨w.heap.size + 1, 2, none⟩ (.int .i64 v)) :=
 ⟨(h.z.far (by show w.heap.size ≠ w.heap.size + 1; omega) _).far (by show w.heap.size ≠ w.heap.size + 1; omega) _, (h.a.set_ 1 _).set_ 2 _, (h.b.setCell (by show w.heap.size ≤ w.heap.size + 1; omega) _).setCell (by show w.heap.size ≤ w.heap.size + 1; omega) _⟩
end

theorem ops_at0 (wx : World) : (Instr.index 227 (.agg #[.string ⟨#[]⟩, .string ⟨#[61]⟩, .string ⟨#[62, 61]⟩, .string ⟨#[60]⟩]) (.int .i64 0)).run Tryz.prog wx = .ok (.string ⟨#[]⟩) wx := by
 simp [Instr.index, run_underlying Tryz.underlying227, go_sem]
/-! cutting, of byte arrays -/
def cutLen : Option (List UInt8 × UInt8 × List UInt8) → Int
 | none => -1
 | some (a, _, _) => (a.length : Int)
theorem cut_any (cs : List UInt8) (p : UInt8 → Bool) (h : ∀ c, cs.contains c = p c) (l : List UInt8) : Lib.indexAny l cs = cutLen (cutAt p l) := by
 rw [cutAt_indexAny]
 have : (fun c => List.contains cs c) = p := funext h
 rw [this]
 rcases cutAt p l with _ | ⟨a, b, d⟩ <;> rfl
theorem beq_d (a b : UInt8) : (a == b) = decide (a = b) := by rw [Bool.eq_iff_iff]; simp
theorem cut_sign (l : List UInt8) : Lib.indexAny l [43, 45] = cutLen (cutAt signB l) := cut_any _ _ (fun c => by simp [signB, beq_d]) l
theorem cut_op (l : List UInt8) : Lib.indexAny l [61, 60, 62] = cutLen (cutAt opB l) := cut_any _ _ (fun c => by simp [opB, beq_d, Bool.or_assoc]) l
theorem cut_colon (l : List UInt8) : Lib.indexByte l 58 = cutLen (cutAt (· == 58) l) := by
 rw [← Lib.indexAny_one]
 exact cut_any _ _ (fun c => by simp [beq_d]) l

theorem bs_take (R : ByteArray) {a d : List UInt8} {c : UInt8} (h : R.data.toList = a ++ c :: d) : (R.extract 0 a.length).data.toList = a := by
 rw [Lib.extract_data, h]; simp
theorem bs_drop (R : ByteArray) {a d : List UInt8} {c : UInt8} (h : R.data.toList = a ++ c :: d) : (R.extract (a.length + 1) R.size).data.toList = d := by
 rw [Lib.extract_to_end, h]; simp
theorem bs_get (R : ByteArray) {a d : List UInt8} {c : UInt8} (h : R.data.toList = a ++ c :: d) (hlt : a.length < R.size) : R[a.length]'hlt = c := by
 have : R.data.toList[a.length]? = some c := by rw [h]; simp
 have h2 : R.data.toList[a.length]? = some (R[a.length]'hlt) := by
  rw [List.getElem?_eq_getElem (by rw [← Lib.size_eq]; exact hlt)]; rfl
 rw [h2] at this
 exact Option.some.inj this
end Go.Proofs.YtedbhlgjcnnknaaGreatDoor
