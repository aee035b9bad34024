/-
  Walks over the reference of layer 1: Right, Header, wrong.
-/
import Derived.Test.YtfnfmkejkgiclaaDoorCubeG
namespace Go.Proofs.YtfnfmkejkgiclaaDoor
open Go.RowKit

theorem byte_ne {c : UInt8} (d : UInt8) (h : c ≠ d) (k : Int) (hk : k = (d.toNat : Int)) : (((c.toNat : Nat) : Int) == k) = false ∧ (((c.toNat : Nat) : Int) != k) = true := by
  subst hk
  have e : (((c.toNat : Nat) : Int) == ((d.toNat : Nat) : Int)) = false := by rw [u8_eq]; simpa using h
  exact ⟨e, by rw [bne, e]; rfl⟩
theorem byte_eq {c : UInt8} (d : UInt8) (h : c = d) (k : Int) (hk : k = (d.toNat : Int)) : (((c.toNat : Nat) : Int) == k) = true ∧ (((c.toNat : Nat) : Int) != k) = false := by
  subst hk; subst h
  have e : (((c.toNat : Nat) : Int) == ((c.toNat : Nat) : Int)) = true := by rw [u8_eq]; simp
  exact ⟨e, by rw [bne, e]; rfl⟩

theorem str_nil (s : ByteArray) (h : s.size = 0) : s.toList = [] := by
  rw [Lib.toList_data]; exact List.eq_nil_of_length_eq_zero (by rw [Array.length_toList]; exact h)
theorem str_not_nil (s : ByteArray) (h : ¬ s.size = 0) : ¬ s.toList = [] := by
  rw [Lib.toList_data]; intro e; exact h (by have := congrArg List.length e; rw [Array.length_toList] at this; exact this)

theorem isHead_cube {s : List UInt8} (h : Cb.isHead s = true) : Cb.isCube s = true := by
  unfold Cb.isHead Cb.ofB at h
  unfold Cb.isCube Cb.ofB
  simp only [Bool.and_eq_true] at h ⊢
  refine ⟨h.1, ?_⟩
  rw [List.all_eq_true] at h ⊢
  intro c hc
  have := h.2 c hc
  simp at this ⊢
  rcases this with h | h <;> simp [h]

theorem below_drewN {B : Nat} {w : World} (k : Nat) : Below B w (w.drewN k) := ⟨rfl, rfl, rfl, Nat.le_refl _, fun _ _ => rfl⟩

end Go.Proofs.YtfnfmkejkgiclaaDoor
