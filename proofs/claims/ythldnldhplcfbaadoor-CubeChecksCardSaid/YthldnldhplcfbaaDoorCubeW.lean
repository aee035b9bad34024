/-
  The law CubeChecks, walked.
-/
import Derived.BigQuiet
import Derived.Test.YthldnldhplcfbaaDoorCubeV
namespace Go.Proofs.YthldnldhplcfbaaDoor
open Go.RowKit

theorem checks_uni (a : ByteArray) (ha : a.size ≤ maxLen) : ∃ (N q : Int) (S : ByteArray) (r : Bool), (q == 0) = r ∧
    (∀ W, Calls Tryd.prog 4 #[.string a] W fun e w' => e = .returned (.tuple #[.int .i64 N, .int .i64 q]) ∧ Below W.heap.size W w') ∧
    (∀ W, Calls Tryd.prog 5 #[.string a] W fun e w' => e = .returned (.tuple #[.int .i64 N, .int .i64 q]) ∧ W = w') ∧
    (∀ W m, W.cell? ⟨0, 0, none⟩ = some (.int .i64 m) → Calls Tryd.prog 6 #[.string a] W fun e w' => e = .returned (.tuple #[.string S, .int .i64 q]) ∧ Below W.heap.size W w') ∧
    (∀ W, Calls Tryd.prog 7 #[.string a] W fun e w' => e = .returned (.tuple #[.string S, .int .i64 q]) ∧ Below W.heap.size W w') ∧
    (∀ W, Calls Tryd.prog 10 #[.string a] W fun e w' => e = .returned (.int .i64 q) ∧ Below W.heap.size W w') ∧
    (∀ W, Calls Tryd.prog 11 #[.string a] W fun e w' => e = .returned (.bool r) ∧ W = w') := by
  cases hc : Cb.isCube a.data.toList with
  | false =>
    exact ⟨0, 10, ⟨#[]⟩, false, rfl, fun W => Free_bad a W ha hc, fun W => rFree_bad a W ha hc, fun W _ _ => First_bad a W ha hc, fun W => (rFirst_bad a W ha hc).mono fun e w' ⟨h1, h2⟩ => ⟨h1, h2 ▸ Below.refl _ _⟩, fun W => Check_bad a W ha hc, fun W => Right_false W ha hc⟩
  | true =>
    exact ⟨_, 0, leastB a, true, rfl, fun W => Free_ok a W ha hc, fun W => rFree_ok a W ha hc, fun W m hm => First_ok a m W ha hm hc, fun W => (rFirst_ok a W ha hc).mono fun e w' ⟨h1, h2⟩ => ⟨h2, h1⟩, fun W => Check_ok a W ha hc, fun W => Right_true W ha hc⟩

theorem every_uni (n : Int) : ∃ (S : ByteArray) (q : Int),
    (∀ W, Calls Tryd.prog 8 #[.int .i64 n] W fun e w' => e = .returned (.tuple #[.string S, .int .i64 q]) ∧ Below W.heap.size W w') ∧
    (∀ W, Calls Tryd.prog 9 #[.int .i64 n] W fun e w' => e = .returned (.tuple #[.string S, .int .i64 q]) ∧ Below W.heap.size W w') := by
  by_cases h : 1 ≤ n ∧ n ≤ 128
  · obtain ⟨N, rfl⟩ : ∃ N : Nat, n = N := ⟨n.toNat, by omega⟩
    exact ⟨everyB N, 0, fun W => Every_ok N W (by omega) (by omega), fun W => (rEvery_ok N W (by omega) (by omega)).mono fun e w' ⟨h1, h2⟩ => ⟨h2, h1⟩⟩
  · exact ⟨⟨#[]⟩, 1, fun W => (Every_bad n W h).mono fun e w' ⟨h1, h2⟩ => ⟨h1, h2 ▸ Below.refl _ _⟩, fun W => (rEvery_bad n W h).mono fun e w' ⟨h1, h2⟩ => ⟨h1, h2 ▸ Below.refl _ _⟩⟩

set_option maxHeartbeats 3000000 in
set_option maxRecDepth 20000 in
theorem CubeChecks_walk (a : ByteArray) (n : Int) (w : World) (ha : a.size ≤ maxLen) (m : Int) (hm : w.cell? ⟨0, 0, none⟩ = some (.int .i64 m)) :
    Calls Tryd.prog 3 #[.string a, .int .i64 n] w fun e w' => e = .returned (.bool true) ∧ Below w.heap.size w w' := by
  obtain ⟨N, q, S, r, hqr, h1, h2, h3, h4, h5, h6⟩ := checks_uni a ha
  obtain ⟨U, p, h7, h8⟩ := every_uni n
  have h0 : 0 < w.heap.size := World.block_lt_of_cell? w ⟨0, 0, none⟩ hm
  have H1 := Lib.hid h1
  have H2 := Lib.hid h2
  have H3 := Lib.hid (fun W (h : Below w.heap.size w W) => h3 W m ((h.cell (p := ⟨0, 0, none⟩) h0).trans hm))
  have H4 := Lib.hid h4
  have H5 := Lib.hid h5
  have H6 := Lib.hid h6
  have H7 := Lib.hid h7
  have H8 := Lib.hid h8
  have hN : (N == N) = true := by simp
  have hq : (q == q) = true := by simp
  have hp : (p == p) = true := by simp
  have hrr : (r == r) = true := by simp
  have hS : (S.toList == S.toList) = true := by simp
  have hU : (U.toList == U.toList) = true := by simp
  clear h1 h2 h3 h4 h5 h6 h7 h8 hm
  go_enter Tryd.func3, Tryd.ntmps3
  go_wp2_with fail
  refine (H1.out _).mono ?_
  rintro e w1 ⟨rfl, b1⟩
  have B1 := Lib.hid b1
  clear b1
  go_wp2_with fail
  refine (H2.out _).mono ?_
  rintro e w2 ⟨rfl, rfl⟩
  go_wp2_with fail
  refine (H3.out _ B1.out).mono ?_
  rintro e w3 ⟨rfl, b3⟩
  have B3 := Lib.hid (B1.out.trans (b3.mono B1.out.size))
  clear b3
  go_wp2_with fail
  refine (H4.out _).mono ?_
  rintro e w4 ⟨rfl, b4⟩
  have B4 := Lib.hid (B3.out.trans (b4.mono B3.out.size))
  clear b4
  go_wp2_with fail
  refine (H7.out _).mono ?_
  rintro e w5 ⟨rfl, b5⟩
  have B5 := Lib.hid (B4.out.trans (b5.mono B4.out.size))
  clear b5
  go_wp2_with fail
  refine (H8.out _).mono ?_
  rintro e w6 ⟨rfl, b6⟩
  have B6 := Lib.hid (B5.out.trans (b6.mono B5.out.size))
  clear b6
  go_wp2_with fail
  refine (H5.out _).mono ?_
  rintro e w7 ⟨rfl, b7⟩
  have B7 := Lib.hid (B6.out.trans (b7.mono B6.out.size))
  clear b7
  go_wp2_with fail
  refine (H6.out _).mono ?_
  rintro e w8 ⟨rfl, rfl⟩
  go_wp2_with fail
  refine (alive_any _).mono ?_
  rintro e w9 ⟨rfl, b9⟩
  have B9 := Lib.hid (B7.out.trans (b9.mono B7.out.size))
  clear b9
  go_wp2_with fail
  go_ret
  exact ⟨rfl, B9.out⟩
end Go.Proofs.YthldnldhplcfbaaDoor
