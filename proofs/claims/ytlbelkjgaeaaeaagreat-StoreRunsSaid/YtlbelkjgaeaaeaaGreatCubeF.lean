/-
  Walks over package cube: cut.
-/
import Derived.Deep.RegionHeld3
import Derived.Deep.AppendLies
import Derived.Test.YtlbelkjgaeaaeaaGreatCubeE
namespace Go.Proofs.YtlbelkjgaeaaeaaGreat
open Go.RowKit

/-- A list of bytes as a string. -/
abbrev bs (l : List UInt8) : ByteArray := ⟨l.toArray⟩
/-- Lists of bytes as strings' values. -/
abbrev vs (L : List (List UInt8)) : List Value := L.map fun l => Value.string (bs l)

theorem info_string : (Tryz.prog.info? 9).map (fun i => (i.zero, i.size, i.bytes)) = some (some (.string ⟨#[]⟩), 1, 16) := by kernel_rfl

theorem getD_of (a : ByteArray) (n : Nat) (h : n < a.size) : a.data.toList.getD n 0 = a[n] := by
  rw [List.getD_eq_getElem?_getD, List.getElem?_eq_getElem (by simpa using h)]; rfl

theorem cutAt_yes (a b m : ByteArray) (n : Nat) (h1 : n < a.size) (h2 : n < b.size) (ha : a[n] = 120) (hb : b[n] ≠ 120) (d : UInt8) (hd : Cb.other b[n] = d) :
    Cb.cutAt a.data.toList b.data.toList m.data.toList n = some ((m.extract 0 n ++ ⟨#[d]⟩ ++ a.extract (n + 1) a.size).data.toList) := by
  unfold Cb.cutAt
  rw [getD_of a n h1, getD_of b n h2, ha, hd]
  have hb' : (b[n] != 120) = true := by simpa using hb
  rw [hb']
  simp
  rw [List.take_of_length_le (by simp)]

theorem cutAt_no (a b m : List UInt8) (n : Nat) (h : ¬ (a.getD n 0 = 120 ∧ b.getD n 0 ≠ 120)) : Cb.cutAt a b m n = none := by
  unfold Cb.cutAt
  rw [if_neg (by simpa using h)]

theorem row_step {B e : Nat} {W wr w1 : World} {v : Value} {L L' : List (List UInt8)} {part : ByteArray} {X : Obj} {gg cap : Nat} (hbw : Below B W wr) (hB : B ≤ wr.heap.size) (hown : wr.ownsRow B e 1 v L.length (vs L))
    (hown1 : w1.ownsRow B e 1 (.slice (some ⟨gg, 0, none⟩) (L.length + 1) cap) (L.length + 1) (vs L ++ [.string part]))
    (hgrow : (wr.alloc X).drew.grownBy w1 v.ownBlock) (hL : L' = L ++ [part.data.toList]) :
    Below B W w1 ∧ w1.ownsRow B e 1 (.slice (some ⟨gg, 0, none⟩) (L.length + 1) cap) L'.length (vs L') := by
  refine ⟨((hbw.alloc hB X).drew).grown hgrow (by simp; omega) (fun k hk => (hown.lt k hk).1), ?_⟩
  subst hL
  simpa [vs, bs] using hown1

end Go.Proofs.YtlbelkjgaeaaeaaGreat
