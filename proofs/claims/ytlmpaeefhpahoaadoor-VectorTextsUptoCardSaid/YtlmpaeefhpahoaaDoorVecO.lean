/-
  Walks: the text of vectors of small numbers.
-/
import Derived.Test.YtlmpaeefhpahoaaDoorShelf
import Derived.Test.YtlmpaeefhpahoaaDoorVecN
namespace Go.Proofs.YtlmpaeefhpahoaaDoor
open Go.RowKit

def dig (n : Nat) : ByteArray := ⟨(Lib.decDigits n).toArray⟩

theorem FormatUint_small (n : Nat) (h : n < 100) (w : World) : Calls Tryd.prog 71 #[.int .u64 n, .int .i64 10] w fun e w' => e = .returned (.string (dig n)) ∧ w' = w := by
  have HS := Lib.hid (Tryd.internal_strconv_small n h)
  have h2 : (n : Int) < 100 := by omega
  have h3 : IntKind.i64.wrap (n : Int) = n := IntWalk.i64_in _ (by omega)
  go_enter Tryd.func71, Tryd.ntmps71
  go_wp2_with fail
  refine (HS.out _).mono ?_
  rintro e w1 ⟨rfl, rfl⟩
  go_wp2_with fail
  go_ret
  exact ⟨rfl, rfl⟩

theorem FormatUintS_small (n : Nat) (h : n < 100) (w : World) : Calls Tryd.prog 58 #[.int .u64 n, .int .i64 10] w fun e w' => e = .returned (.string (dig n)) ∧ w' = w := by
  have HS := Lib.hid (FormatUint_small n h)
  go_enter Tryd.func58, Tryd.ntmps58
  go_wp2_with fail
  refine (HS.out _).mono ?_
  rintro e w1 ⟨rfl, rfl⟩
  go_wp2_with fail
  go_ret
  exact ⟨rfl, rfl⟩

def stS (d x : Nat) : ByteArray := (dig d ++ ⟨#[58]⟩) ++ dig x

set_option maxHeartbeats 800000 in
theorem text_small (d x : Nat) (h : d < 100) (h' : x < 100) (hd : (dig d).size ≤ 2) (hx : (dig x).size ≤ 2) (w : World) : Calls Tryd.prog 43 #[.agg #[.int .i64 d, .int .u64 x]] w fun e w' => e = .returned (.string (stS d x)) ∧ Below w.heap.size w w' := by
  have HI := Lib.hid (Tryd.strconv_Itoa_small d h)
  have HF := Lib.hid (FormatUintS_small x h')
  have HE : Hid (stS d x = (dig d ++ ⟨#[58]⟩) ++ dig x) := rfl
  have hI : (⟨(Lib.decDigits d).toArray⟩ : ByteArray) = dig d := rfl
  rw [hI] at HI
  clear hI
  generalize dig d = a at HI HE hd
  generalize dig x = b at HF HE hx
  have k1 : ¬ (9223372036854775807 < a.size + 1) := by omega
  have k2 : ¬ (9223372036854775807 < a.size + 1 + b.size) := by omega
  go_enter Tryd.func43, Tryd.ntmps43
  go_wp2_with fail
  have HB := Lib.hid ((Below.refl w.heap.size w).alloc (Nat.le_refl _) (.cells #[.int .i64 d, .int .u64 x] 43))
  have hn1 : (w.alloc (.cells #[.int .i64 d, .int .u64 x] 43)).cell? ⟨w.heap.size, 0, none⟩ = some (.int .i64 d) := by unfold World.cell? World.alloc; simp
  have hn2 : (w.alloc (.cells #[.int .i64 d, .int .u64 x] 43)).cell? ⟨w.heap.size, 1, none⟩ = some (.int .u64 x) := by unfold World.cell? World.alloc; simp
  go_quiet ((first | (refine (HI.out _).mono ?_; rintro _ _ ⟨rfl, rfl⟩; exact ⟨rfl, _, rfl⟩) | (refine (HF.out _).mono ?_; rintro _ _ ⟨rfl, rfl⟩; exact ⟨rfl, _, rfl⟩)))
  go_wp2_with fail
  go_ret
  exact ⟨by rw [HE.out]; rfl, below_dN HB.out nq⟩
end Go.Proofs.YtlmpaeefhpahoaaDoor
