/-
  Walks over package words and the reference: Sign; and the law WordsKinds.
-/
import Derived.Test.YtbjkbcbclgfmpaaDoorRgF
import Derived.Test.YtbjkbcbclgfmpaaDoorRgP
import Derived.Test.YtbjkbcbclgfmpaaDoorRgI
namespace Go.Proofs.YtbjkbcbclgfmpaaDoor
open Go.RowKit Go.Shelf
set_option linter.unusedVariables false
set_option linter.unusedSimpArgs false

/-- Is a text a sign? -/
def Wd.signB (l : List UInt8) : Bool := isPair l || l.length == 1 && isSingle (l.headD 0)

theorem signB_pair {s : ByteArray} (h : Wd.isPair s.data.toList = true) : Wd.signB s.data.toList = true := by unfold Wd.signB; rw [h]; rfl
theorem signB_one {s : ByteArray} (h : Wd.isPair s.data.toList = false) (h1 : s.size = 1) : Wd.signB s.data.toList = Wd.isSingle s[0] := by
  unfold Wd.signB; rw [h, size_list, head_byte s (by omega), show (s.size == 1) = true by simp [h1]]; rfl
theorem signB_no {s : ByteArray} (h : Wd.isPair s.data.toList = false) (h1 : ¬ s.size = 1) : Wd.signB s.data.toList = false := by
  unfold Wd.signB; rw [h, size_list]; simp [h1]

end Go.Proofs.YtbjkbcbclgfmpaaDoor
/-
  Walks over the laws of words: few.
-/
namespace Go.Proofs.YtbjkbcbclgfmpaaDoor
open Go.RowKit Go.Shelf
set_option linter.unusedVariables false
set_option linter.unusedSimpArgs false

def fewB (ss : List ByteArray) : List ByteArray := (ss.take 60).map cutB
theorem fewB_len (ss : List ByteArray) : (fewB ss).length ≤ 60 := by unfold fewB; simp; omega
theorem fewB_size (ss : List ByteArray) : ∀ x ∈ fewB ss, x.size ≤ 4000 := by
  intro x hx
  obtain ⟨y, _, rfl⟩ := List.mem_map.1 hx
  exact cutB_size y
theorem fewB_step (ss : List ByteArray) (k : Nat) (h : k < ss.length) (h60 : k < 60) : (fewB ss).take (k + 1) = (fewB ss).take k ++ [cutB ss[k]] := by
  unfold fewB
  rw [List.take_succ_eq_append_getElem (by simp; omega), List.getElem_map, List.getElem_take]
theorem fewB_all (ss : List ByteArray) (k : Nat) (h : ¬ (k < ss.length ∧ k < 60)) : (fewB ss).take k = fewB ss := List.take_of_length_le (by unfold fewB; simp; omega)
theorem infoSt : (Tryd.prog.info? 9).map (fun i => (i.zero, i.size, i.bytes)) = some (some (.string ⟨#[]⟩), 1, 16) := by kernel_rfl

/-- What few tells. -/
def FewPost (ss : List ByteArray) (w : World) (e : Ending) (w' : World) : Prop :=
  ∃ ad c, e = .returned (.slice ad (fewB ss).length c) ∧ RdsS w' (.slice ad (fewB ss).length c) (fewB ss) ∧ Below w.heap.size w w'

end Go.Proofs.YtbjkbcbclgfmpaaDoor
/-
  Walks over the reference of words: word, glued.
-/
namespace Go.Proofs.YtbjkbcbclgfmpaaDoor
open Go.RowKit Go.Shelf
set_option linter.unusedVariables false
set_option linter.unusedSimpArgs false

theorem line_place {s : ByteArray} {p : Nat} (h : Wd.line 1 s.data.toList 0 = .error p) : p ≤ s.size := by
  have := line_err 1 _ _ _ _ h
  rw [size_list] at this
  omega

theorem str_ne3 {a b : ByteArray} (h : ¬ a = b) : (a.toList == b.toList) = false ∧ (!a.toList == b.toList) = true := by
  have : ¬ a.toList = b.toList := fun e => h (by rw [ByteArray.toList_eq, ByteArray.toList_eq] at e; exact ba_inj e)
  constructor <;> simpa using this

end Go.Proofs.YtbjkbcbclgfmpaaDoor
/-
  Walks over the reference of rules: an action's words; a rule's line (printed by wip/gen_rpx.py).
-/
namespace Go.Proofs.YtbjkbcbclgfmpaaDoor
open Go.RowKit Go.Shelf Go.Lib Go.Sort
set_option linter.unusedVariables false
set_option linter.unusedSectionVars false
set_option linter.unusedSimpArgs false

namespace Pr
/-- Ports with commas between. -/
def sep : List ByteArray → List ByteArray
  | [] => []
  | p :: ps => p :: mks ⟨#[44]⟩ ps
theorem mks_sep (m : ByteArray) {ps : List ByteArray} (h : ps ≠ []) : mks m ps = m :: sep ps := by
  cases ps with
  | nil => exact absurd rfl h
  | cons p ps => rfl
theorem sep_snoc (l : List ByteArray) (p : ByteArray) : sep (l ++ [p]) = sep l ++ (if l = [] then [p] else [⟨#[44]⟩, p]) := by
  cases l with
  | nil => rfl
  | cons a l =>
    show a :: mks ⟨#[44]⟩ (l ++ [p]) = _
    rw [mks_snoc]
    simp [sep]
end Pr

theorem lit2_set {w : World} {g : Nat} {a b u : Value} {e : TypeId} (h : w.heap[g]? = some (.cells #[a, b] e (0, 0))) : (w.setCell ⟨g, 0, none⟩ u).heap[g]? = some (.cells #[u, b] e (0, 0)) := by
  simp [World.setCell, Array.getElem?_modify, h]
theorem row_heap1 {w : World} {g base : Nat} {a : Value} {e : TypeId} (hg : base ≤ g) (h : w.heap[g]? = some (.cells #[a] e (0, 0))) : w.ownsRow base e 1 (.slice (some ⟨g, 0, none⟩) 1 1) 1 [a] :=
  ⟨by simp, .inr ⟨g, 1, #[a], rfl, hg, h, Nat.le_refl _, by unfold maxLen; omega, rfl, rfl⟩⟩
theorem row_heap2 {w : World} {g base : Nat} {a b : Value} {e : TypeId} (hg : base ≤ g) (h : w.heap[g]? = some (.cells #[a, b] e (0, 0))) : w.ownsRow base e 1 (.slice (some ⟨g, 0, none⟩) 2 2) 2 [a, b] :=
  ⟨by simp, .inr ⟨g, 2, #[a, b], rfl, hg, h, Nat.le_refl _, by unfold maxLen; omega, rfl, rfl⟩⟩

theorem slice_len {w : World} {a : Option Addr} {n c : Nat} {ps : List ByteArray} (hr : RdsS w (.slice a n c) ps) : n = ps.length := by
  rcases hr with ⟨_, _, he, hps0, _⟩ | ⟨_, _, _, he, _⟩
  · injection he with _ e _; rw [e, List.map_eq_nil_iff.1 hps0]; rfl
  · injection he with _ e _; rw [e, List.length_map]

end Go.Proofs.YtbjkbcbclgfmpaaDoor
/-
  Walks over the reference of rules: a rule's line (printed by wip/gen_rpy.py).
-/
namespace Go.Proofs.YtbjkbcbclgfmpaaDoor
open Go.RowKit Go.Shelf Go.Lib Go.Sort
set_option linter.unusedVariables false
set_option linter.unusedSectionVars false
set_option linter.unusedSimpArgs false

end Go.Proofs.YtbjkbcbclgfmpaaDoor
