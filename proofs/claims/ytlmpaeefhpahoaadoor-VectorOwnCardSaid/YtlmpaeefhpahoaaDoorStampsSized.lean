/-
  A slice of stamps that came in reads as stamps, and is no longer than its weight allows.
-/
import Derived.SizedLaws
import Derived.Test.YtlmpaeefhpahoaaDoorStampsOf
namespace Go.Proofs.YtlmpaeefhpahoaaDoor
open Go.ChangeShapes Go.WideShapes Go.RowKit Go.Deep

theorem rds_len {w : World} {ad : Option Addr} {n c : Nat} {l : List Stp} (h : RdsP w (.slice ad n c) l) : n = l.length := by
  obtain ⟨a', n', c', hv, hn, _⟩ := h
  have : n = n' := by injection hv
  omega

theorem stamps_of_sized {H : Type} {enc : TypeId × Value → H} {W : World} {base : Nat} {spare : Nat → Bool} {held : Bool} {t : TypeId} {a : Option Addr} {len cap : Nat} {d : DataW H} {ps : List MemPlace} {ts : List TypeId} {ds : List (DataW H)} {j : Nat}
    (hsz : (DataW.weightsEach Tryd.prog ts ds).all (· ≤ reachBytes) = true) (htj : ts[j]? = some t) (hdj : ds[j]? = some d) (ht : Tryd.prog.underlying t = some (.slice 43))
    (h : DataW.Trod enc Tryd.prog W base spare held t (.slice a len cap) d ps) : ∃ l : List Stp, RdsP W (.slice a len cap) l ∧ l.length ≤ 8796093022208 := by
  obtain ⟨l, hl⟩ := stamps_of (enc := enc) ht h
  refine ⟨l, hl, ?_⟩
  have hlen : len = l.length := rds_len hl
  obtain ⟨fuel, hf⟩ := h
  rcases open_slice_pairs ht Tryd.underlying43 (by kernel_rfl) rfl rfl (by kernel_rfl) (by kernel_rfl) hf with ⟨hcs, _⟩ | ⟨x, l', c, m, n, V0, V1, D0, D1, P0, P1, hcs, _, hl', hm, hmm, hx, _⟩
  · simp [Value.cells] at hcs
    rw [← hlen, hcs.2.1]
    exact Nat.zero_le _
  · simp [Value.cells] at hcs
    obtain ⟨rfl, rfl, rfl⟩ := hcs
    obtain ⟨hx, _⟩ := Prod.mk.inj hx
    subst hx
    have z := sized_slice hsz htj hdj ht
    rw [show Tryd.prog.bytesOf 43 = 16 by kernel_rfl] at z
    simp only [List.length_map, List.length_range] at z
    have hr : reachBytes = 140737488351232 := by decide
    rw [hr] at z
    omega
end Go.Proofs.YtlmpaeefhpahoaaDoor
