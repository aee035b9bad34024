/-
  []byte(s) of any string, and back: what a walk needs of them.
-/
import Derived.WalkKit
import Derived.Lib.ConvBytes
import Derived.Laws.BytesArg
import Derived.Test.YtlbelkjgaeaaeaaGreatProg
namespace Go.Proofs.YtlbelkjgaeaaeaaGreat
open Go.RowKit

theorem bytes_of (w : World) (a : ByteArray) : ∃ W1 cap, (convert 9 141 (.string a)).run Tryz.prog w = .ok (.slice (some ⟨w.heap.size, 0, none⟩) a.size cap) W1 ∧
    Below w.heap.size w W1 ∧ W1.heap.size = w.heap.size + 1 ∧
    (∀ j (h : j < a.size), W1.cell? ⟨w.heap.size, j, none⟩ = some (.int .u8 (a[j].toNat : Int))) ∧ (∀ j, j < a.size → W1.frozen? ⟨w.heap.size, j, none⟩ = false) := by
  refine ⟨_, _, Lib.run_convert_string_bytes w 9 141 5 a Tryz.underlying9 Tryz.underlying141 Tryz.underlying5, ?_, Lib.bytesWorld_size w _ a, ?_, ?_⟩
  · refine ⟨?_, ?_, ?_, ?_, fun k hk => Lib.bytesWorld_at_old w _ a k hk⟩
    · simp [Lib.bytesWorld, World.freeze, World.alloc, World.drew, -World.alloc_eq, -World.drew_eq]
    · simp [Lib.bytesWorld, World.freeze, World.alloc, World.drew, -World.alloc_eq, -World.drew_eq]
    · simp [Lib.bytesWorld, World.freeze, World.alloc, World.drew, -World.alloc_eq, -World.drew_eq]
    · rw [Lib.bytesWorld_size]; omega
  · intro j h
    rw [Lib.bytesWorld_cell w _ a j h]
    have : a.data.toList.getD j 0 = a[j] := by
      rw [List.getD_eq_getElem?_getD, List.getElem?_eq_getElem (by simpa using h)]; rfl
    rw [this]
  · intro j h
    unfold World.frozen?
    rw [Lib.bytesWorld_at_new]
    have : a.size ≤ (Lib.bytesCells w 5 a).size := by simp [Lib.bytesCells]
    simp; omega

/-- string(b) of a row of bytes. -/
theorem bytes_back (w : World) (b off len cap : Nat) (l : List UInt8) (hlen : l.length = len)
    (hcell : ∀ i (h : i < l.length), w.cell? ⟨b, off + i, none⟩ = some (.int .u8 (l[i].toNat : Int))) :
    (convert 141 9 (.slice (some ⟨b, off, none⟩) len cap)).run Tryz.prog w = .ok (.string ⟨l.toArray⟩) w := by
  have h := run_convert_bytes_arg (P := Tryz.prog) w 141 5 Tryz.underlying141 Tryz.underlying5 b off len cap (l.map fun c => (c.toNat : Int)) (by simpa using hlen)
    (fun i hi => by rw [hcell i (by omega)]; simp [List.getD_eq_getElem?_getD, List.getElem?_eq_getElem (show i < l.length by omega)]) 9 Tryz.underlying9
  have e : ((fun n : Int => UInt8.ofNat n.toNat) ∘ fun c : UInt8 => (c.toNat : Int)) = id := by funext c; simp
  have hs : strOfNums (l.map fun c => (c.toNat : Int)) = (⟨l.toArray⟩ : ByteArray) := by simp [strOfNums, e]
  rw [h, hs]
end Go.Proofs.YtlbelkjgaeaaeaaGreat
