/-
  Walks over the reference of layer 1: both.
-/
import Derived.Test.YtlbelkjgaeaaeaaCubeRA
import Derived.Test.YtlbelkjgaeaaeaaMore
namespace Go.Proofs.Ytlbelkjgaeaaeaa
open Go.RowKit

theorem info_u8 : (Try.prog.info? 5).map (fun i => (i.zero, i.size, i.bytes)) = some (some (.int .u8 0), 1, 1) := by kernel_rfl

/-- Bytes as values. -/
abbrev bvs (l : List UInt8) : List Value := l.map fun c => Value.int .u8 (c.toNat : Int)

theorem mbs_succ (a b : ByteArray) (n : Nat) (h : n < a.size) (hb : n < b.size) :
    (List.zipWith Cb.mb a.data.toList b.data.toList).take (n + 1) = (List.zipWith Cb.mb a.data.toList b.data.toList).take n ++ [Cb.mb a[n] b[n]] := by
  have hl : n < (List.zipWith Cb.mb a.data.toList b.data.toList).length := by simp; omega
  rw [List.take_succ_eq_append_getElem hl]
  simp
  rfl

theorem byte_step {B e : Nat} {W wr w1 : World} {v : Value} {l l' : List UInt8} {c : UInt8} {X : Obj} {n gg cap : Nat} (hbw : Below B W wr) (hB : B ≤ wr.heap.size) (hown : wr.ownsRow B e 1 v n (bvs l))
    (hown1 : w1.ownsRow B e 1 (.slice (some ⟨gg, 0, none⟩) (n + 1) cap) (n + 1) (bvs l ++ [.int .u8 (c.toNat : Int)]))
    (hgrow : (wr.alloc X).grownBy w1 v.ownBlock) (hL : l' = l ++ [c]) :
    Below B W w1 ∧ w1.ownsRow B e 1 (.slice (some ⟨gg, 0, none⟩) (n + 1) cap) (n + 1) (bvs l') := by
  refine ⟨(hbw.alloc hB X).grown hgrow (by simp; omega) (fun k hk => (hown.lt k hk).1), ?_⟩
  subst hL
  simpa [bvs] using hown1

end Go.Proofs.Ytlbelkjgaeaaeaa
