/-
  Walks: the reference's part.
-/
import Derived.BigQuiet
import Derived.Deep.DeepCutAuto
import Derived.Deep.RegionWith
import Derived.Deep.RegionLaw
import Derived.Test.YtlmpaeefhpahoaaDoorVecTF
namespace Go.Proofs.YtlmpaeefhpahoaaDoor
open Go.RowKit

theorem byte_neV {c : UInt8} (d : UInt8) (h : c ≠ d) (k : Int) (hk : k = (d.toNat : Int)) : (((c.toNat : Nat) : Int) == k) = false ∧ (((c.toNat : Nat) : Int) != k) = true := by
  subst hk
  have : c.toNat ≠ d.toNat := fun e => h (UInt8.toNat_inj.1 e)
  constructor <;> simp <;> omega
theorem byte_eqV {c : UInt8} (d : UInt8) (h : c = d) (k : Int) (hk : k = (d.toNat : Int)) : (((c.toNat : Nat) : Int) == k) = true ∧ (((c.toNat : Nat) : Int) != k) = false := by
  subst hk
  subst h
  simp

theorem extract_take (s : ByteArray) (m : Nat) : (s.extract 0 m).data.toList = s.data.toList.take m := by simp
theorem extract_drop (s : ByteArray) (m : Nat) : (s.extract m s.size).data.toList = s.data.toList.drop m := by
  simp
  rw [List.take_of_length_le (by simp)]

theorem get_list (s : ByteArray) (n : Nat) (h : n < s.size) : s.data.toList[n]'(by simpa using h) = s[n] := by simp; rfl

/-- The first place of a byte. -/
theorem first_place (s : ByteArray) (c : UInt8) : ∃ m, m ≤ s.size ∧ (∀ i (h : i < s.size), i < m → s[i] ≠ c) ∧ (∀ h : m < s.size, s[m] = c) ∧ c ∉ s.data.toList.take m ∧ (m < s.size → s.data.toList = s.data.toList.take m ++ c :: s.data.toList.drop (m + 1)) ∧ (m = s.size → c ∉ s.data.toList) := by
  obtain ⟨m, h0, h1, h2, _⟩ := first_badG (fun b : UInt8 => b != c) s.data.toList
  have hsz : s.data.toList.length = s.size := by simp
  have h1' : ∀ i (h : i < s.size), i < m → s[i] ≠ c := fun i h hi => by
    have := h1 i hi (by omega)
    rw [get_list s i h] at this
    simpa using this
  have h2' : ∀ h : m < s.size, s[m] = c := fun h => by
    have := h2 (by omega)
    rw [get_list s m h] at this
    simpa using this
  have h3 : c ∉ s.data.toList.take m := fun hc => by
    obtain ⟨i, hi, he⟩ := List.getElem_of_mem hc
    have hi2 : i < m ∧ i < s.size := by
      rw [List.length_take] at hi
      omega
    rw [List.getElem_take, get_list s i hi2.2] at he
    exact h1' i hi2.2 hi2.1 he
  refine ⟨m, by omega, h1', h2', h3, fun h => ?_, fun h => ?_⟩
  · have e1 : s.data.toList.drop m = c :: s.data.toList.drop (m + 1) := by
      rw [List.drop_eq_getElem_cons (by omega), get_list s m h, h2' h]
    rw [← e1, List.take_append_drop]
  · rw [List.take_of_length_le (by omega)] at h3
    exact h3

set_option maxHeartbeats 1600000 in
set_option maxRecDepth 20000 in
theorem part_any (s : ByteArray) (w : World) (htab : Tab10 w) (hs : s.size ≤ 1048576) :
    Calls Tryd.prog 50 #[.string s] w fun e w' => ∃ d v : Nat, e = .returned (.tuple #[.agg #[.int .i64 d, .int .u64 v], .bool (Tx.stOf s.data.toList).isSome]) ∧ (∀ x, Tx.stOf s.data.toList = some x → d = x.1 ∧ v = x.2) ∧ Below w.heap.size w w' := by
  obtain ⟨m, hm, h1, h2, h3, h4, h5⟩ := first_place s 58
  have H1 := Lib.hid h1
  have H2 := Lib.hid h2
  have H3 := Lib.hid h3
  have H4 := Lib.hid h4
  have H5 := Lib.hid h5
  have HTab := Lib.hid htab
  clear h1 h2 h3 h4 h5 htab
  generalize hR : (fun (e : Ending) (w' : World) => _) = R
  have HR := Lib.hid hR
  clear hR
  go_enter Tryd.func50, Tryd.ntmps50
  go_wp2_with fail
  obtain ⟨w0, hw0⟩ : ∃ w0, w0 = w.alloc (.cells #[.int .i64 0, .int .u64 0] 43) := ⟨_, rfl⟩
  have HB0 : Hid (Below w.heap.size w w0) := by rw [hw0]; exact (Below.refl w.heap.size w).alloc (Nat.le_refl _) _
  have HW0 := Lib.hid hw0
  rw [← hw0]
  clear hw0
  go_loopw [4] (fun k wr => ∃ n : Nat, n ≤ m ∧ k = .int .i64 n ∧ wr = w0) (fun k _ => s.size - (intOf k).toNat)
  case atStart => exact ⟨0, Nat.zero_le _, rfl, rfl⟩
  case round =>
    obtain ⟨n, hn, rfl, rfl⟩ := hrel
    by_cases hlt : n < s.size
    · have hi0 : (0 : Int) ≤ (n : Int) := by omega
      have hi1 : (n : Int) < (s.size : Int) := by omega
      by_cases hnm : n < m
      · obtain ⟨e1, e2⟩ := byte_neV 58 (H1.out n hlt hnm) 58 rfl
        go_wp2_with fail
        go_roundw
        case rel => exact ⟨n + 1, by omega, by go_num, by first | rfl | trivial⟩
        case measure => simp [intOf]; omega
      · obtain rfl : n = m := by omega
        obtain ⟨e1, e2⟩ := byte_eqV 58 (H2.out hlt) 58 rfl
        obtain ⟨P1, hP1⟩ : ∃ P1, s.extract 0 n = P1 := ⟨_, rfl⟩
        obtain ⟨P2, hP2⟩ : ∃ P2, s.extract (n + 1) s.size = P2 := ⟨_, rfl⟩
        obtain ⟨A, hA⟩ : ∃ A, A = Tx.numR P1.data.toList := ⟨_, rfl⟩
        obtain ⟨B, hB⟩ : ∃ B, B = Tx.numR P2.data.toList := ⟨_, rfl⟩
        have hA2 : A < 18446744073709551616 := by rw [hA]; exact Tx.numR_lt _
        have hN1 := Lib.hid (fun W => number_any P1 W)
        have hN2 := Lib.hid (fun W => number_any P2 W)
        rw [← hA] at hN1
        rw [← hB] at hN2
        have HA := Lib.hid hA
        have HBn := Lib.hid hB
        have HP1 := Lib.hid hP1
        have HP2 := Lib.hid hP2
        clear hA hB
        have g1 : IntKind.i64.wrap ((n : Int) + 1) = (n : Int) + 1 := IntWalk.i64_in _ (by omega)
        have g2 : (0 : Int) ≤ (n : Int) + 1 := by omega
        have g3 : ((n : Int) + 1).toNat = n + 1 := by omega
        have g4 : (n : Int) + 1 ≤ (s.size : Int) := by omega
        obtain ⟨D, hD⟩ : ∃ D, D = A % 1000 := ⟨_, rfl⟩
        have g5 : (A : Int).tmod 1000 = (D : Int) := by rw [Int.tmod_eq_emod_of_nonneg (by omega)]; omega
        have g6 : IntKind.i64.wrap (D : Int) = (D : Int) := IntWalk.i64_in _ (by omega)
        have g7 : IntKind.u64.wrap (D : Int) = (D : Int) := by rw [IntKind.wrap_u64]; omega
        have hB2 : B < 18446744073709551616 := by rw [HBn.out]; exact Tx.numR_lt _
        have HStO : Hid (Tx.stOf s.data.toList = if D < 256 ∧ Tx.stB (D, B) = s.data.toList then some (D, B) else none) := by
          show _ = _
          have e1 : P1.data.toList = s.data.toList.take n := by rw [← hP1]; exact extract_take s n
          have e2 : P2.data.toList = s.data.toList.drop (n + 1) := by rw [← hP2]; exact extract_drop s (n + 1)
          have ec : Lib.cut s.data.toList [58] = (s.data.toList.take n, s.data.toList.drop (n + 1), true) := by
            have := Tx.cut_at (s.data.toList.take n) (s.data.toList.drop (n + 1)) 58 H3.out
            rw [← H4.out hlt] at this
            exact this
          unfold Tx.stOf
          rw [ec]
          simp only
          rw [← e1, ← e2, ← HA.out, ← HBn.out, ← hD]
          simp
        clear hD
        go_upto_region 5 with fail
        go_cut [5] (fun s5 wx => s5 = .pointer (some ⟨wr.heap.size, 0, none⟩) ∧ wx = (wr.alloc (.cells #[.int .i64 (D : Int), .int .u64 (B : Int)] 43)).drew)
        case first =>
          go_region_with (go_at_call 67; first | (with_reducible refine (hN1.out _).mono ?_; rintro _ _ ⟨rfl, rfl⟩) | (with_reducible refine (hN2.out _).mono ?_; rintro _ _ ⟨rfl, rfl⟩))
          all_goals (go_wp2_with fail; go_meet; exact ⟨rfl, rfl⟩)
        case rest =>
          obtain ⟨rfl, rfl⟩ := hcut
          obtain ⟨w1, hw1⟩ : ∃ w1, w1 = (wr.alloc (.cells #[.int .i64 (D : Int), .int .u64 (B : Int)] 43)).drew := ⟨_, rfl⟩
          have HB1 : Hid (Below w.heap.size w w1) := by rw [hw1]; exact below_dN (HB0.out.alloc HB0.out.size _) 1
          have hx1 : w1.cell? ⟨wr.heap.size, 0, none⟩ = some (.int .i64 (D : Int)) := by rw [hw1]; simp [go_sem]
          have hx2 : w1.cell? ⟨wr.heap.size, 1, none⟩ = some (.int .u64 (B : Int)) := by rw [hw1]; simp [go_sem]
          have hlw : w.heap.size < w1.heap.size := by rw [hw1]; have := HB0.out.size; simp; omega
          have hlr : wr.heap.size < w1.heap.size := by rw [hw1]; simp
          have hwr : w.heap.size < wr.heap.size := by have := HW0.out; rw [this]; simp
          have HRc : Hid (∀ W, Below w1.heap.size w1 W → (W.cell? ⟨w.heap.size, 0, none⟩ = some (.int .i64 0) ∧ W.cell? ⟨w.heap.size, 1, none⟩ = some (.int .u64 0)) ∧ W.frozen? ⟨w.heap.size, 0, none⟩ = false ∧ W.frozen? ⟨w.heap.size, 1, none⟩ = false) := by
            intro W hW
            have b1 : Below wr.heap.size wr w1 := by rw [hw1]; exact below_dN ((Below.refl wr.heap.size wr).alloc (Nat.le_refl _) _) 1
            have b2 := b1.trans (hW.mono b1.size)
            refine ⟨⟨(b2.cell (p := ⟨w.heap.size, 0, none⟩) hwr).trans ?_, (b2.cell (p := ⟨w.heap.size, 1, none⟩) hwr).trans ?_⟩, (b2.frozen (p := ⟨w.heap.size, 0, none⟩) hwr).trans ?_, (b2.frozen (p := ⟨w.heap.size, 1, none⟩) hwr).trans ?_⟩ <;> (rw [HW0.out]; simp [go_sem])
          rw [← hw1]
          clear hw1 hP1 hP2
          by_cases h5 : D < 256
          · have HDv : Hid (∀ W, Calls Tryd.prog 38 #[.int .i64 (D : Int)] W fun e w' => e = .returned (.bool true) ∧ W = w') := fun W => by
              have hdv : dev (D : Int) = true := by unfold dev; simp; omega
              have := Device_any (D : Int) W
              rw [hdv] at this
              exact this
            have HSt := Lib.hid (stamp_any D B h5 hB2 w1.drew (tab10_below HTab.out (below_dN HB1.out 1)))
            obtain ⟨r, hr⟩ : ∃ r : Bool, ((stS D B).toList == s.toList) = r := ⟨_, rfl⟩
            have HOk : Hid (Tx.stOf s.data.toList = if r = true then some (D, B) else none) := by
              show _ = _
              rw [HStO.out]
              have e : (D < 256 ∧ Tx.stB (D, B) = s.data.toList) ↔ r = true := by
                rw [← hr, ← stS_data, Lib.toList_data, Lib.toList_data]
                simp [h5]
              simp only [e]
            generalize stS D B = Z at HSt hr
            go_upto_region 6 with fail
            go_cut [3] (fun s3 wx => s3 = .bool r ∧ wx.cell? ⟨w.heap.size, 0, none⟩ = some (.int .i64 (D : Int)) ∧ wx.cell? ⟨w.heap.size, 1, none⟩ = some (.int .u64 (B : Int)) ∧ Hid (Below w.heap.size w wx))
            case first =>
             go_region_with (first | (go_at_call 38; with_reducible refine (HDv.out _).mono ?_; rintro _ _ ⟨rfl, rfl⟩) | (go_at_call 45; refine HSt.out.mono ?_; rintro _ w9 ⟨rfl, hb9⟩; have hq := HRc.out _ ((below_dN (Below.refl w1.heap.size w1) 1).trans hb9); have q7 : w9.cell? ⟨wr.heap.size, 0, none⟩ = some (.int .i64 (D : Int)) := (hb9.cell (p := ⟨wr.heap.size, 0, none⟩) hlr).trans hx1; have q8 : w9.cell? ⟨wr.heap.size, 1, none⟩ = some (.int .u64 (B : Int)) := (hb9.cell (p := ⟨wr.heap.size, 1, none⟩) hlr).trans hx2; have q1 := hq.1.1; have q2 := hq.1.2; have q3 := hq.2.1; have q4 := hq.2.2; have q5 : (w9.setCell ⟨w.heap.size, 0, none⟩ (.int .i64 (D : Int))).cell? ⟨w.heap.size, 1, none⟩ = some (.int .u64 0) := (World.cell?_setCell_other _ _ _ _ (by simp)).trans q2; have q6 : (w9.setCell ⟨w.heap.size, 0, none⟩ (.int .i64 (D : Int))).frozen? ⟨w.heap.size, 1, none⟩ = false := (by rw [World.frozen?_setCell]; exact q4); have HB9 := Lib.hid ((below_dN HB1.out 1).trans (hb9.mono HB1.out.size)); have q9 : ((w9.setCell ⟨w.heap.size, 0, none⟩ (.int .i64 (D : Int))).setCell ⟨w.heap.size, 1, none⟩ (.int .u64 (B : Int))).cell? ⟨w.heap.size, 0, none⟩ = some (.int .i64 (D : Int)) := (World.cell?_setCell_other _ _ _ _ (by simp)).trans (World.cell?_setCell_same _ _ _ q1); have q10 : ((w9.setCell ⟨w.heap.size, 0, none⟩ (.int .i64 (D : Int))).setCell ⟨w.heap.size, 1, none⟩ (.int .u64 (B : Int))).cell? ⟨w.heap.size, 1, none⟩ = some (.int .u64 (B : Int)) := World.cell?_setCell_same _ _ _ q5; have HBz := Lib.hid ((HB9.out.setCell (p := ⟨w.heap.size, 0, none⟩) (Nat.le_refl _) (.int .i64 (D : Int))).setCell (p := ⟨w.heap.size, 1, none⟩) (Nat.le_refl _) (.int .u64 (B : Int))); clear hq hb9))
             all_goals (go_wp2_with fail; go_meet; exact ⟨rfl, q9, q10, HBz⟩)
            case rest =>
             obtain ⟨rfl, z1, z2, HBz⟩ := hcut
             go_wp2_with fail
             refine ⟨rfl, .tuple #[.agg #[.int .i64 (D : Int), .int .u64 (B : Int)], .bool r], by simp [results, Tryd.results50, go_sem, z1, z2], ?_⟩
             rw [← HR.out]
             refine ⟨D, B, by rw [HOk.out]; cases r <;> rfl, fun x hx => ?_, HBz.out⟩
             rw [HOk.out] at hx
             cases r with
             | true => injection hx with hx; subst hx; exact ⟨rfl, rfl⟩
             | false => cases hx
          · have HDv : Hid (∀ W, Calls Tryd.prog 38 #[.int .i64 (D : Int)] W fun e w' => e = .returned (.bool false) ∧ W = w') := fun W => by
              have hdv : dev (D : Int) = false := by unfold dev; simp; omega
              have := Device_any (D : Int) W
              rw [hdv] at this
              exact this
            have HOk : Hid (Tx.stOf s.data.toList = none) := by show _ = _; rw [HStO.out, if_neg (fun h => h5 h.1)]
            go_upto_region 6 with fail
            go_cut [3] (fun s3 wx => s3 = .bool false ∧ wx.cell? ⟨w.heap.size, 0, none⟩ = some (.int .i64 (D : Int)) ∧ wx.cell? ⟨w.heap.size, 1, none⟩ = some (.int .u64 (B : Int)) ∧ Hid (Below w.heap.size w wx))
            case first =>
             first | (go_region_with (go_at_call 38; with_reducible refine (HDv.out _).mono ?_; rintro _ w9 ⟨rfl, hw9⟩; have hb9 : Below w1.heap.size w1 w9 := (by subst hw9; exact ⟨rfl, rfl, rfl, Nat.le_refl _, fun _ _ => rfl⟩); have hq := HRc.out _ hb9; have q7 : w9.cell? ⟨wr.heap.size, 0, none⟩ = some (.int .i64 (D : Int)) := (hb9.cell (p := ⟨wr.heap.size, 0, none⟩) hlr).trans hx1; have q8 : w9.cell? ⟨wr.heap.size, 1, none⟩ = some (.int .u64 (B : Int)) := (hb9.cell (p := ⟨wr.heap.size, 1, none⟩) hlr).trans hx2; have q1 := hq.1.1; have q2 := hq.1.2; have q3 := hq.2.1; have q4 := hq.2.2; have q5 : (w9.setCell ⟨w.heap.size, 0, none⟩ (.int .i64 (D : Int))).cell? ⟨w.heap.size, 1, none⟩ = some (.int .u64 0) := (World.cell?_setCell_other _ _ _ _ (by simp)).trans q2; have q6 : (w9.setCell ⟨w.heap.size, 0, none⟩ (.int .i64 (D : Int))).frozen? ⟨w.heap.size, 1, none⟩ = false := (by rw [World.frozen?_setCell]; exact q4); have HB9 := Lib.hid (HB1.out.trans (hb9.mono HB1.out.size)); have q9 : ((w9.setCell ⟨w.heap.size, 0, none⟩ (.int .i64 (D : Int))).setCell ⟨w.heap.size, 1, none⟩ (.int .u64 (B : Int))).cell? ⟨w.heap.size, 0, none⟩ = some (.int .i64 (D : Int)) := (World.cell?_setCell_other _ _ _ _ (by simp)).trans (World.cell?_setCell_same _ _ _ q1); have q10 : ((w9.setCell ⟨w.heap.size, 0, none⟩ (.int .i64 (D : Int))).setCell ⟨w.heap.size, 1, none⟩ (.int .u64 (B : Int))).cell? ⟨w.heap.size, 1, none⟩ = some (.int .u64 (B : Int)) := World.cell?_setCell_same _ _ _ q5; have HBz := Lib.hid ((HB9.out.setCell (p := ⟨w.heap.size, 0, none⟩) (Nat.le_refl _) (.int .i64 (D : Int))).setCell (p := ⟨w.heap.size, 1, none⟩) (Nat.le_refl _) (.int .u64 (B : Int))); clear hq hb9 hw9)) | fail
             all_goals (go_wp2_with fail; go_meet; exact ⟨rfl, q9, q10, HBz⟩)
            case rest =>
             obtain ⟨rfl, z1, z2, HBz⟩ := hcut
             go_wp2_with fail
             refine ⟨rfl, .tuple #[.agg #[.int .i64 (D : Int), .int .u64 (B : Int)], .bool false], by simp [results, Tryd.results50, go_sem, z1, z2], ?_⟩
             rw [← HR.out]
             exact ⟨D, B, by rw [HOk.out]; rfl, (fun x hx => by rw [HOk.out] at hx; cases hx), HBz.out⟩
    · have HOk : Hid (Tx.stOf s.data.toList = none) := by
        show _ = _
        have hc : Lib.cut s.data.toList [58] = (s.data.toList, [], false) := Tx.cut_absent _ _ (H5.out (by omega))
        unfold Tx.stOf
        rw [hc]
        simp
      have hi1 : ¬ (n : Int) < (s.size : Int) := by omega
      have q1 : wr.cell? ⟨w.heap.size, 0, none⟩ = some (.int .i64 0) := by rw [HW0.out]; simp [go_sem]
      have q2 : wr.cell? ⟨w.heap.size, 1, none⟩ = some (.int .u64 0) := by rw [HW0.out]; simp [go_sem]
      have q3 : wr.frozen? ⟨w.heap.size, 0, none⟩ = false := by rw [HW0.out]; simp [go_sem]
      have q4 : wr.frozen? ⟨w.heap.size, 1, none⟩ = false := by rw [HW0.out]; simp [go_sem]
      have q5 : (wr.setCell ⟨w.heap.size, 0, none⟩ (.int .i64 0)).cell? ⟨w.heap.size, 1, none⟩ = some (.int .u64 0) := (World.cell?_setCell_other _ _ _ _ (by simp)).trans q2
      have q6 : (wr.setCell ⟨w.heap.size, 0, none⟩ (.int .i64 0)).frozen? ⟨w.heap.size, 1, none⟩ = false := by rw [World.frozen?_setCell]; exact q4
      have q9 : ((wr.setCell ⟨w.heap.size, 0, none⟩ (.int .i64 0)).setCell ⟨w.heap.size, 1, none⟩ (.int .u64 0)).cell? ⟨w.heap.size, 0, none⟩ = some (.int .i64 0) := (World.cell?_setCell_other _ _ _ _ (by simp)).trans (World.cell?_setCell_same _ _ _ q1)
      have q10 : ((wr.setCell ⟨w.heap.size, 0, none⟩ (.int .i64 0)).setCell ⟨w.heap.size, 1, none⟩ (.int .u64 0)).cell? ⟨w.heap.size, 1, none⟩ = some (.int .u64 0) := World.cell?_setCell_same _ _ _ q5
      have HBz := Lib.hid ((HB0.out.setCell (p := ⟨w.heap.size, 0, none⟩) (Nat.le_refl _) (.int .i64 0)).setCell (p := ⟨w.heap.size, 1, none⟩) (Nat.le_refl _) (.int .u64 0))
      go_wp2_with fail
      refine ⟨rfl, .tuple #[.agg #[.int .i64 0, .int .u64 0], .bool false], by simp [results, Tryd.results50, go_sem, q9, q10], ?_⟩
      rw [← HR.out]
      exact ⟨0, 0, by rw [HOk.out]; rfl, (fun x hx => by rw [HOk.out] at hx; cases hx), HBz.out⟩
end Go.Proofs.YtlmpaeefhpahoaaDoor
