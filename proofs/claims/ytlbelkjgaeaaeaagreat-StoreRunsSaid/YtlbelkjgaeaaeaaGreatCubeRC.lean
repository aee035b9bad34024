/-
  Walks over the reference of layer 1: turned, cut.
-/
import Derived.Deep.RegionLaw
import Derived.Test.YtlbelkjgaeaaeaaGreatCubeRB
namespace Go.Proofs.YtlbelkjgaeaaeaaGreat
open Go.RowKit

theorem conv_one (c : UInt8) (k : Int) (hk : k = (c.toNat : Int)) (g : Nat) (W : World) (h : W.cell? ⟨g, 0, none⟩ = some (.int .u8 k)) :
    (convert 141 9 (.slice (some ⟨g, 0, none⟩) 1 1)).run Tryz.prog W = .ok (.string ⟨#[c]⟩) W := by
  subst hk
  exact bytes_back W g 0 1 1 [c] rfl (fun i hi => by
    have : i = 0 := by simpa using hi
    subst this; exact h)

end Go.Proofs.YtlbelkjgaeaaeaaGreat
