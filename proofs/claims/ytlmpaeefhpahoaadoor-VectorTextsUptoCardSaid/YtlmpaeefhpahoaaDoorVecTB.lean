/-
  Walks: the text of a stamp of any numbers, the code's and the reference's.
-/
import Derived.Test.YtlmpaeefhpahoaaDoorVecTA
namespace Go.Proofs.YtlmpaeefhpahoaaDoor
open Go.RowKit Go.Shelf

theorem cell_grownV {w : World} {b off : Nat} {v : Value} (hb : b < w.heap.size) (h : w.cell? ⟨b, off, none⟩ = some v) (n : Nat) (os : Array Obj) : (Sort.grow (w.drewN n) os).cell? ⟨b, off, none⟩ = some v :=
  ((below_grow w n os).cell (p := ⟨b, off, none⟩) hb).trans h

theorem Itoa_any (d : Nat) (hd : d < 256) (w : World) (htab : Tab10 w) :
    Calls Tryd.prog 57 #[.int .i64 d] w fun e w' => e = .returned (.string (dig d)) ∧ ∃ k os, w' = Sort.grow (w.drewN k) os := by
  refine (Tryd.strconv_Itoa d (by omega) (by omega) w htab).mono ?_
  rintro e w' ⟨rfl, k, os, rfl⟩
  exact ⟨by rw [Lib.itoa_nonneg]; rfl, k, os, rfl⟩

set_option maxHeartbeats 1600000 in
theorem text_grown (d x : Nat) (hd : d < 256) (hx : x < 18446744073709551616) (w : World) (htab : Tab10 w) : Calls Tryd.prog 43 #[.agg #[.int .i64 d, .int .u64 x]] w fun e w' => e = .returned (.string (stS d x)) ∧ ∃ k os, w' = Sort.grow (w.drewN k) os := by
  have s1 := dig_size d (by omega)
  have s2 := dig_size x hx
  have HB := Lib.hid ((Below.refl w.heap.size w).alloc (Nat.le_refl _) (.cells #[.int .i64 d, .int .u64 x] 43))
  have HI := Lib.hid (fun W (h : Below w.heap.size w W) => Itoa_any d hd W (tab10_below htab h))
  have HF := Lib.hid (fun W (h : Below w.heap.size w W) => FormatUintS_any x hx W (tab10_below htab h))
  have HE : Hid (stS d x = (dig d ++ ⟨#[58]⟩) ++ dig x) := rfl
  have hw0 : w.heap.size < (w.alloc (.cells #[.int .i64 d, .int .u64 x] 43)).heap.size := by simp
  have hn1 : (w.alloc (.cells #[.int .i64 d, .int .u64 x] 43)).cell? ⟨w.heap.size, 0, none⟩ = some (.int .i64 d) := by unfold World.cell? World.alloc; simp
  have hn2 : (w.alloc (.cells #[.int .i64 d, .int .u64 x] 43)).cell? ⟨w.heap.size, 1, none⟩ = some (.int .u64 x) := by unfold World.cell? World.alloc; simp
  have hg1 := cell_grownV hw0 hn1
  have hg2 := cell_grownV hw0 hn2
  generalize dig d = a at HI HE s1
  generalize dig x = b at HF HE s2
  have k1 : ¬ (9223372036854775807 < a.size + 1) := by omega
  have k2 : ¬ (9223372036854775807 < a.size + 1 + b.size) := by omega
  have hmx := mixed
  clear htab
  go_enter Tryd.func43, Tryd.ntmps43
  go_wp2_with fail
  obtain ⟨W1, hW1⟩ : ∃ W1, W1 = w.alloc (.cells #[.int .i64 d, .int .u64 x] 43) := ⟨_, rfl⟩
  rw [← hW1] at HB hn1 hn2 hg1 hg2 hw0 ⊢
  have HI2 := Lib.hid (fun n os => HI.out (Sort.grow (W1.drewN n) os) (HB.out.trans ((below_grow W1 n os).mono HB.out.size)))
  have HF2 := Lib.hid (fun n os => HF.out (Sort.grow (W1.drewN n) os) (HB.out.trans ((below_grow W1 n os).mono HB.out.size)))
  have HW1 := Lib.hid hW1
  clear hW1
  go_quiet_grown (first | refine Calls.grown_of (HI2.out _ _) | refine Calls.grown_of (HF2.out _ _))
  go_wp2_with fail
  go_ret
  refine ⟨by rw [HE.out]; rfl, nq, #[.cells #[.int .i64 d, .int .u64 x] 43] ++ osq, ?_⟩
  show Sort.grow (W1.drewN nq) osq = _
  rw [HW1.out, Sort.alloc_eq_grow]
  show Sort.grow (Sort.grow (w.drewN nq) _) osq = _
  rw [Sort.grow_grow]

theorem text_any (d x : Nat) (hd : d < 256) (hx : x < 18446744073709551616) (w : World) (htab : Tab10 w) : Calls Tryd.prog 43 #[.agg #[.int .i64 d, .int .u64 x]] w fun e w' => e = .returned (.string (stS d x)) ∧ Below w.heap.size w w' := by
  refine (text_grown d x hd hx w htab).mono ?_
  rintro e w' ⟨rfl, k, os, rfl⟩
  exact ⟨rfl, below_grow _ _ _⟩

set_option maxHeartbeats 1600000 in
theorem stamp_grown (d x : Nat) (hd : d < 256) (hx : x < 18446744073709551616) (w : World) (htab : Tab10 w) : Calls Tryd.prog 45 #[.agg #[.int .i64 d, .int .u64 x]] w fun e w' => e = .returned (.string (stS d x)) ∧ ∃ k os, w' = Sort.grow (w.drewN k) os := by
  have s1 := dig_size d (by omega)
  have s2 := dig_size x hx
  have HB := Lib.hid ((Below.refl w.heap.size w).alloc (Nat.le_refl _) (.cells #[.int .i64 d, .int .u64 x] 43))
  have HI := Lib.hid (fun W (h : Below w.heap.size w W) => Itoa_any d hd W (tab10_below htab h))
  have HF := Lib.hid (fun W (h : Below w.heap.size w W) => FormatUintS_any x hx W (tab10_below htab h))
  have HE : Hid (stS d x = (dig d ++ ⟨#[58]⟩) ++ dig x) := rfl
  have hw0 : w.heap.size < (w.alloc (.cells #[.int .i64 d, .int .u64 x] 43)).heap.size := by simp
  have hn1 : (w.alloc (.cells #[.int .i64 d, .int .u64 x] 43)).cell? ⟨w.heap.size, 0, none⟩ = some (.int .i64 d) := by unfold World.cell? World.alloc; simp
  have hn2 : (w.alloc (.cells #[.int .i64 d, .int .u64 x] 43)).cell? ⟨w.heap.size, 1, none⟩ = some (.int .u64 x) := by unfold World.cell? World.alloc; simp
  have hg1 := cell_grownV hw0 hn1
  have hg2 := cell_grownV hw0 hn2
  generalize dig d = a at HI HE s1
  generalize dig x = b at HF HE s2
  have k1 : ¬ (9223372036854775807 < a.size + 1) := by omega
  have k2 : ¬ (9223372036854775807 < a.size + 1 + b.size) := by omega
  have hmx := mixed
  clear htab
  go_enter Tryd.func45, Tryd.ntmps45
  go_wp2_with fail
  obtain ⟨W1, hW1⟩ : ∃ W1, W1 = w.alloc (.cells #[.int .i64 d, .int .u64 x] 43) := ⟨_, rfl⟩
  rw [← hW1] at HB hn1 hn2 hg1 hg2 hw0 ⊢
  have HI2 := Lib.hid (fun n os => HI.out (Sort.grow (W1.drewN n) os) (HB.out.trans ((below_grow W1 n os).mono HB.out.size)))
  have HF2 := Lib.hid (fun n os => HF.out (Sort.grow (W1.drewN n) os) (HB.out.trans ((below_grow W1 n os).mono HB.out.size)))
  have HW1 := Lib.hid hW1
  clear hW1
  go_quiet_grown (first | refine Calls.grown_of (HI2.out _ _) | refine Calls.grown_of (HF2.out _ _))
  go_wp2_with fail
  go_ret
  refine ⟨by rw [HE.out]; rfl, nq, #[.cells #[.int .i64 d, .int .u64 x] 43] ++ osq, ?_⟩
  show Sort.grow (W1.drewN nq) osq = _
  rw [HW1.out, Sort.alloc_eq_grow]
  show Sort.grow (Sort.grow (w.drewN nq) _) osq = _
  rw [Sort.grow_grow]

theorem stamp_any (d x : Nat) (hd : d < 256) (hx : x < 18446744073709551616) (w : World) (htab : Tab10 w) : Calls Tryd.prog 45 #[.agg #[.int .i64 d, .int .u64 x]] w fun e w' => e = .returned (.string (stS d x)) ∧ Below w.heap.size w w' := by
  refine (stamp_grown d x hd hx w htab).mono ?_
  rintro e w' ⟨rfl, k, os, rfl⟩
  exact ⟨rfl, below_grow _ _ _⟩

end Go.Proofs.YtlmpaeefhpahoaaDoor
