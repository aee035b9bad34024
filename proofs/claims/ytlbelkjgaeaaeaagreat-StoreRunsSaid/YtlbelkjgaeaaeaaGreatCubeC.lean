/-
  Walks over package cube: meet.
-/
import Derived.BigQuiet
import Derived.Deep.QuietTactic
import Derived.Test.YtlbelkjgaeaaeaaGreatCubeB
import Derived.Test.YtlbelkjgaeaaeaaGreatBytes
namespace Go.Proofs.YtlbelkjgaeaaeaaGreat
open Go.RowKit

theorem u8_eq (x y : UInt8) : (((x.toNat : Nat) : Int) == ((y.toNat : Nat) : Int)) = (x == y) := by
  rw [Bool.eq_iff_iff, beq_iff_eq, beq_iff_eq, ← UInt8.toNat_inj]; omega

set_option maxHeartbeats 1000000 in
set_option maxRecDepth 20000 in
theorem meet_loop (a b : ByteArray) (w : World) (hb : Hid (b.size = a.size)) (ha : a.size ≤ 9223372036854775807) (m : Nat) (hm : m ≤ a.size)
    (H1 : Hid (∀ i (h : i < m), Cb.ok2 (a[i]'(by omega)) (b[i]'(by have := hb.out; omega)) = true))
    (H2 : Hid (∀ (h : m < a.size), Cb.ok2 a[m] (b[m]'(by have := hb.out; omega)) = false)) :
    Calls Tryz.prog 69 #[.string a, .string b] w fun e w' => Below w.heap.size w w' ∧
      e = .returned (if m < a.size then .tuple #[.string ⟨#[]⟩, .bool false] else .tuple #[.string ⟨(List.zipWith Cb.mb a.data.toList b.data.toList).toArray⟩, .bool true]) := by
  obtain ⟨W1, cap, hconv, hbel, hsz, hcell, hfro⟩ := bytes_of w a
  have HC := Lib.hid hcell
  have HF := Lib.hid hfro
  have HS := Lib.hid hsz
  have HBel := Lib.hid hbel
  have hlt1 : w.heap.size < W1.heap.size := by omega
  clear hcell hfro hsz hbel
  go_enter Tryz.func69, Tryz.ntmps69
  go_wp2_with fail
  go_loopw [7, 12] (fun _ k wr => ∃ n : Nat, n ≤ m ∧ k = .int .i64 n ∧ Hid (Below w.heap.size w wr) ∧ w.heap.size < wr.heap.size ∧
      Hid (∀ j (h : j < a.size), wr.cell? ⟨w.heap.size, j, none⟩ = some (.int .u8 ((if j < n then Cb.mb a[j] (b[j]'(by have := hb.out; omega)) else a[j]).toNat : Int))) ∧
      Hid (∀ j, j < a.size → wr.frozen? ⟨w.heap.size, j, none⟩ = false)) (fun _ k _ => a.size - (intOf k).toNat)
  case atStart => exact ⟨0, Nat.zero_le _, rfl, HBel, hlt1, fun j h => by rw [if_neg (by omega)]; exact HC.out j h, HF⟩
  case round =>
    obtain ⟨n, hn, rfl, hbw, hlw, hcw, hfw⟩ := hrel
    by_cases hlt : n < a.size
    · have hltb : n < b.size := by have := hb.out; omega
      have hcn := hcw.out n hlt
      have hfn := hfw.out n hlt
      by_cases hx : a[n] = 120
      · have hx1 : (((a[n].toNat : Nat) : Int) == 120) = true := by rw [hx]; rfl
        have HX := Lib.hid hx
        have hnm : n < m := by
          rcases Nat.lt_or_ge n m with h | h
          · exact h
          · obtain rfl : n = m := by omega
            have := H2.out hlt
            simp [Cb.ok2, hx] at this
        clear hx
        go_wp2_with fail
        go_roundw
        case rel =>
          refine ⟨n + 1, by omega, by go_num, hbw.out.setCell (Nat.le_refl _) _, ?_, fun j h => ?_, fun j h => ?_⟩
          · simpa [World.setCell] using hlw
          · by_cases hj : j = n
            · subst hj
              rw [cell_set_same _ hcn, if_pos (by omega)]
              have : Cb.mb a[j] (b[j]'hltb) = b[j]'hltb := by unfold Cb.mb; rw [HX.out]; rfl
              rw [this]
            · rw [cell_set_other _ (by intro e; injection e with _ e _; exact hj e.symm), hcw.out j h]
              have : (j < n + 1) = (j < n) := by apply propext; omega
              simp only [this]
          · rw [World.frozen?_setCell]; exact hfw.out j h
        case measure => simp [intOf]; omega
      · have hx1 : (((a[n].toNat : Nat) : Int) == 120) = false := by rw [show (120 : Int) = ((120 : UInt8).toNat : Int) from rfl, u8_eq]; simpa using hx
        have HX := Lib.hid hx
        have hz0 : (0 : Int) ≤ n := by omega
        have hmba : Hid (Cb.mb a[n] (b[n]'hltb) = a[n]) := by unfold Hid Cb.mb; rw [if_neg (by simpa using hx)]
        clear hx
        by_cases hnm : n < m
        · have hok := H1.out n hnm
          have hrel' : ∀ k : Nat, ∃ n_1 : Nat, n_1 ≤ m ∧ Value.int IntKind.i64 ((n : Int) + 1) = Value.int IntKind.i64 (n_1 : Int) ∧ Hid (Below w.heap.size w (wr.drewN k)) ∧ w.heap.size < (wr.drewN k).heap.size ∧
              Hid (∀ j (h : j < a.size), (wr.drewN k).cell? ⟨w.heap.size, j, none⟩ = some (.int .u8 ((if j < n_1 then Cb.mb a[j] (b[j]'(by have := hb.out; omega)) else a[j]).toNat : Int))) ∧
              Hid (∀ j, j < a.size → (wr.drewN k).frozen? ⟨w.heap.size, j, none⟩ = false) := by
            intro k
            refine ⟨n + 1, by omega, by go_num, ⟨hbw.out.os, hbw.out.tape, hbw.out.output, hbw.out.size, hbw.out.block⟩, hlw, fun j h => ?_, hfw⟩
            rw [World.cell?_drewN, hcw.out j h]
            by_cases hj : j = n
            · subst hj; rw [if_neg (by omega), if_pos (by omega), hmba.out]
            · have : (j < n + 1) = (j < n) := by apply propext; omega
              simp only [this]
          have HR := Lib.hid hrel'
          clear hrel'
          by_cases hy : b[n]'hltb = 120
          · have hy1 : (((b[n].toNat : Nat) : Int) == 120) = true := by rw [hy]; rfl
            have hy2 : (((b[n].toNat : Nat) : Int) != 120) = false := by rw [bne, hy1]; rfl
            clear hy hok
            go_wp2_with fail
            go_quiet (fail)
            go_wp2_with fail
            go_roundw
            case rel => exact HR.out _
            case measure => simp [intOf]; omega
          · have hy1 : (((b[n].toNat : Nat) : Int) == 120) = false := by rw [show (120 : Int) = ((120 : UInt8).toNat : Int) from rfl, u8_eq]; simpa using hy
            have hy2 : (((b[n].toNat : Nat) : Int) != 120) = true := by rw [bne, hy1]; rfl
            have hz1 : (((b[n].toNat : Nat) : Int) != ((a[n].toNat : Nat) : Int)) = false := by
              rw [bne, u8_eq]
              have hax := HX.out
              unfold Cb.ok2 at hok
              simp [hax, hy] at hok
              simp [hok]
            clear hy hok
            go_wp2_with fail
            go_quiet (fail)
            go_wp2_with fail
            go_roundw
            case rel => exact HR.out _
            case measure => simp [intOf]; omega
        · obtain rfl : n = m := by omega
          have hok := H2.out hlt
          have hy1 : (((b[n].toNat : Nat) : Int) == 120) = false := by
            rw [show (120 : Int) = ((120 : UInt8).toNat : Int) from rfl, u8_eq]
            unfold Cb.ok2 at hok
            simp at hok ⊢
            exact hok.1.2
          have hy2 : (((b[n].toNat : Nat) : Int) != 120) = true := by rw [bne, hy1]; rfl
          have hz1 : (((b[n].toNat : Nat) : Int) != ((a[n].toNat : Nat) : Int)) = true := by
            rw [bne, u8_eq]
            unfold Cb.ok2 at hok
            simp at hok ⊢
            exact hok.2
          clear hok
          have hbd : Hid (∀ k, Below w.heap.size w (wr.drewN k)) := fun k => ⟨hbw.out.os, hbw.out.tape, hbw.out.output, hbw.out.size, hbw.out.block⟩
          go_wp2_with fail
          go_quiet (fail)
          go_wp2_with fail
          go_ret2
          exact ⟨hbd.out _, by first | rfl | (rw [if_pos hlt]; rfl)⟩
    · have hnm : Hid (n = a.size) := by unfold Hid; omega
      have hback := bytes_back wr w.heap.size 0 a.size cap (List.zipWith Cb.mb a.data.toList b.data.toList) (by have := hb.out; simp; omega) (fun i hi => by
        have hi' : i < a.size := by have := hb.out; simp at hi; omega
        rw [Nat.zero_add, hcw.out i hi', if_pos (by have := hnm.out; omega)]
        simp
        rfl)
      have hmm : ¬ m < a.size := by have := hnm.out; omega
      go_wp2_with fail
      go_ret2
      exact ⟨hbw.out, by first | rfl | (rw [if_neg hmm]; rfl)⟩

theorem meet_yes {a b m : ByteArray} (w : World) (hb : b.size = a.size) (ha : a.size ≤ maxLen) (h : Cb.meet a.data.toList b.data.toList = some m.data.toList) :
    Calls Tryz.prog 69 #[.string a, .string b] w fun e w' => e = .returned (.tuple #[.string m, .bool true]) ∧ Below w.heap.size w w' := by
  unfold Cb.meet at h
  split at h
  · rename_i hall
    injection h with h
    refine (meet_loop a b w hb (by unfold maxLen at ha; omega) a.size (Nat.le_refl _) (fun i hi => ?_) (fun h => absurd h (Nat.lt_irrefl _))).mono fun e w' ⟨h1, h2⟩ => ⟨?_, h1⟩
    · have := Cb.all_get hall i (by simp; omega)
      simp at this
      exact this
    · rw [h2, if_neg (Nat.lt_irrefl _), h]
  · cases h

theorem meet_no {a b : ByteArray} (w : World) (hb : b.size = a.size) (ha : a.size ≤ maxLen) (h : Cb.meet a.data.toList b.data.toList = none) :
    Calls Tryz.prog 69 #[.string a, .string b] w fun e w' => e = .returned (.tuple #[.string ⟨#[]⟩, .bool false]) ∧ Below w.heap.size w w' := by
  unfold Cb.meet at h
  split at h
  · cases h
  · rename_i hall
    obtain ⟨m, hm, h1, h2⟩ := Cb.first_false _ _ (by simpa using hall : (a.data.toList.zip b.data.toList).all (fun p => Cb.ok2 p.1 p.2) = false)
    have hm' : m < a.size := by simp at hm; omega
    refine (meet_loop a b w hb (by unfold maxLen at ha; omega) m (by omega) (fun i hi => ?_) (fun h => ?_)).mono fun e w' ⟨h1, h2⟩ => ⟨?_, h1⟩
    · have := h2 i hi
      simp at this
      exact this
    · simp at h1
      exact h1
    · rw [h2, if_pos hm']
end Go.Proofs.YtlbelkjgaeaaeaaGreat
