/-
  Walks: slices.BinarySearchFunc with find's closure; find; the reference's find.
-/
import Derived.Test.YtlmpaeefhpahoaaDoorVecD
namespace Go.Proofs.YtlmpaeefhpahoaaDoor
open Go.RowKit

theorem srt_mono {l : List Stp} (hs : Srt l) {i j : Nat} (hij : i ≤ j) (hj : j < l.length) : (l[i]'(by omega)).1 ≤ l[j].1 := by
  rcases Nat.lt_or_ge i j with h | h
  · have := (List.pairwise_iff_getElem.1 hs) i j (by omega) hj h
    omega
  · have : i = j := by omega
    subst this
    exact Int.le_refl _

set_option maxHeartbeats 1600000 in
theorem BinarySearch_go (v : Value) (l : List Stp) (d : Int) (w : World) (hr : RdsP w v l) (hs : Srt l) (hsz : l.length ≤ 4096) (p : Nat) (hp : pos l d = p) (r : Bool) (hrr : (lk l d).isSome = r) :
    Calls Tryd.prog 52 #[v, .int .i64 d, .func (.func 53) #[] #[]] w fun e w' => e = .returned (.tuple #[.int .i64 p, .bool r]) ∧ Below w.heap.size w w' := by
  obtain ⟨ad, len, cap, rfl, hl, hlm, hel⟩ := hr
  have HL := Lib.hid hl
  have HEL := Lib.hid hel
  have HS := Lib.hid hs
  have HP := Lib.hid hp
  have HR := Lib.hid hrr
  have hlen : len ≤ 4096 := by omega
  clear hl hel hs hp hrr hlm
  go_enter Tryd.func52, Tryd.ntmps52
  go_wp2_with fail
  go_loopw [9, 10] (fun s9 s10 wr => ∃ lo hi : Nat, s9 = .int .i64 lo ∧ s10 = .int .i64 hi ∧ lo ≤ hi ∧ hi ≤ len ∧ Hid (Below w.heap.size w wr) ∧ Hid ((∀ t (h : t < l.length), t < lo → l[t].1 < d) ∧ (∀ t (h : t < l.length), hi ≤ t → d ≤ l[t].1))) (fun s9 s10 _ => (intOf s10).toNat - (intOf s9).toNat)
  case atStart => exact ⟨0, len, rfl, rfl, Nat.zero_le _, Nat.le_refl _, Below.refl _ _, (⟨fun t _ ht => absurd ht (Nat.not_lt_zero _), fun t h1 h2 => by have := HL.out; omega⟩ : (∀ t (h : t < l.length), t < 0 → l[t].1 < d) ∧ (∀ t (h : t < l.length), len ≤ t → d ≤ l[t].1))⟩
  case round =>
    obtain ⟨lo, hi, rfl, rfl, hlh, hin, HB, HI⟩ := hrel
    by_cases hlt : lo < hi
    · have hm : (lo + hi) / 2 < len := by omega
      have hn' : (lo + hi) / 2 < l.length := by rw [← HL.out]; exact hm
      obtain ⟨b, off, rfl, hb, hcell, hcell'⟩ := HEL.out ((lo + hi) / 2) hn'
      have hc1 : wr.cell? ⟨b, off + (lo + hi) / 2 * 2, none⟩ = some (.int .i64 l[(lo + hi) / 2].1) := (HB.out.cell (p := ⟨b, off + (lo + hi) / 2 * 2, none⟩) hb).trans hcell
      have hc2 : wr.cell? ⟨b, off + (lo + hi) / 2 * 2 + 1, none⟩ = some (.int .u64 l[(lo + hi) / 2].2) := (HB.out.cell (p := ⟨b, off + (lo + hi) / 2 * 2 + 1, none⟩) hb).trans hcell'
      have hwb := HB.out.size
      clear hcell hcell'
      have I1 : Hid (l[(lo + hi) / 2].1 < d → ∀ t (h : t < l.length), t < (lo + hi) / 2 + 1 → l[t].1 < d) := fun h t ht h2 => Int.lt_of_le_of_lt (srt_mono HS.out (by omega) hn') h
      have I2 : Hid (d ≤ l[(lo + hi) / 2].1 → ∀ t (h : t < l.length), (lo + hi) / 2 ≤ t → d ≤ l[t].1) := fun h t ht h2 => Int.le_trans h (srt_mono HS.out h2 ht)
      generalize l[(lo + hi) / 2] = s at hc1 hc2 I1 I2
      have HC := Lib.hid (fun (W : World) => find1_any s d W)
      unfold stv at HC
      by_cases hsd : s.1 < d
      · have hcm : cmpI s.1 d = -1 := by unfold cmpI; exact if_pos hsd
        rw [hcm] at HC
        clear hcm
        have J := Lib.hid (I1.out hsd)
        clear hsd I1 I2
        go_wp2_with fail
        refine (HC.out _).mono ?_
        rintro e w1 ⟨rfl, hb1⟩
        have HB1 := Lib.hid (HB.out.trans (hb1.mono hwb))
        clear hb1
        go_wp2_with fail
        go_roundw
        case measure => simp [intOf]; omega
        case rel => exact ⟨(lo + hi) / 2 + 1, hi, by rw [show ((lo : Int) + (hi : Int)) / 2 + 1 = (((lo + hi) / 2 + 1 : Nat) : Int) by omega], rfl, by omega, hin, HB1, ⟨J.out, HI.out.2⟩⟩
      · obtain ⟨c, hc0, hcm⟩ : ∃ c : Int, 0 ≤ c ∧ cmpI s.1 d = c := ⟨cmpI s.1 d, by unfold cmpI; rw [if_neg hsd]; split <;> omega, rfl⟩
        rw [hcm] at HC
        clear hcm
        have J := Lib.hid (I2.out (Int.not_lt.1 hsd))
        clear hsd I1 I2
        go_wp2_with fail
        refine (HC.out _).mono ?_
        rintro e w1 ⟨rfl, hb1⟩
        have HB1 := Lib.hid (HB.out.trans (hb1.mono hwb))
        clear hb1
        go_wp2_with fail
        go_roundw
        case measure => simp [intOf]; omega
        case rel => exact ⟨lo, (lo + hi) / 2, rfl, by rw [show ((lo : Int) + (hi : Int)) / 2 = (((lo + hi) / 2 : Nat) : Int) by omega], by omega, by omega, HB1, ⟨HI.out.1, J.out⟩⟩
    · obtain rfl : hi = lo := by omega
      obtain rfl : hi = p := by rw [← HP.out]; exact pos_eq HS.out (by have := HL.out; omega) HI.out.1 HI.out.2
      have HK := Lib.hid (lk_pos l d HS.out)
      by_cases hpl : hi < len
      · have hn' : hi < l.length := by rw [← HL.out]; exact hpl
        obtain ⟨b, off, rfl, hb, hcell, hcell'⟩ := HEL.out hi hn'
        have hc1 : wr.cell? ⟨b, off + hi * 2, none⟩ = some (.int .i64 l[hi].1) := (HB.out.cell (p := ⟨b, off + hi * 2, none⟩) hb).trans hcell
        have hc2 : wr.cell? ⟨b, off + hi * 2 + 1, none⟩ = some (.int .u64 l[hi].2) := (HB.out.cell (p := ⟨b, off + hi * 2 + 1, none⟩) hb).trans hcell'
        have hwb := HB.out.size
        clear hcell hcell'
        have HF : Hid (r = decide (l[hi].1 = d)) := by
          show r = _
          have := HK.out
          simp only [HP.out] at this
          rw [dif_pos hn'] at this
          rw [← HR.out, this]
          by_cases h : l[hi].1 = d <;> simp [h]
        generalize l[hi] = s at hc1 hc2 HF
        have HC := Lib.hid (fun (W : World) => find1_any s d W)
        unfold stv at HC
        by_cases hsd : s.1 = d
        · have hcm : cmpI s.1 d = 0 := by unfold cmpI; rw [if_neg (by omega), if_neg (by omega)]
          rw [hcm] at HC
          have HF2 : Hid (r = true) := by show r = true; rw [HF.out]; exact decide_eq_true hsd
          clear hcm hsd
          go_wp2_with fail
          refine (HC.out _).mono ?_
          rintro e w1 ⟨rfl, hb1⟩
          have HB1 := Lib.hid (HB.out.trans (hb1.mono hwb))
          clear hb1
          go_wp2_with fail
          go_ret2
          exact ⟨by rw [HF2.out]; rfl, HB1.out⟩
        · obtain ⟨c, hc0, hcm⟩ : ∃ c : Int, c ≠ 0 ∧ cmpI s.1 d = c := ⟨cmpI s.1 d, (by unfold cmpI; repeat' split <;> omega), rfl⟩
          rw [hcm] at HC
          have HF2 : Hid (r = false) := by show r = false; rw [HF.out]; exact decide_eq_false hsd
          clear hcm hsd
          go_wp2_with fail
          refine (HC.out _).mono ?_
          rintro e w1 ⟨rfl, hb1⟩
          have HB1 := Lib.hid (HB.out.trans (hb1.mono hwb))
          clear hb1
          go_wp2_with fail
          go_ret2
          exact ⟨by rw [HF2.out]; simp [hc0], HB1.out⟩
      · have HF2 : Hid (r = false) := by
          show r = false
          have := HK.out
          simp only [HP.out] at this
          rw [dif_neg (by have := HL.out; omega)] at this
          rw [← HR.out, this]
          rfl
        go_wp2_with fail
        go_ret2
        exact ⟨by rw [HF2.out]; rfl, HB.out⟩

set_option maxHeartbeats 800000 in
theorem find_any (v : Value) (l : List Stp) (d : Int) (w : World) (hr : RdsP w v l) (hs : Srt l) (hsz : l.length ≤ 4096) (p : Nat) (hp : pos l d = p) (r : Bool) (hrr : (lk l d).isSome = r) :
    Calls Tryd.prog 39 #[v, .int .i64 d] w fun e w' => e = .returned (.tuple #[.int .i64 p, .bool r]) ∧ Below w.heap.size w w' := by
  have HC := Lib.hid (BinarySearch_go v l d w hr hs hsz p hp r hrr)
  clear hr hs hp hrr
  go_enter Tryd.func39, Tryd.ntmps39
  go_wp2_with fail
  refine HC.out.mono ?_
  rintro e w1 ⟨rfl, hb1⟩
  have HB := Lib.hid hb1
  clear hb1
  go_wp2_with fail
  go_ret2
  exact ⟨rfl, HB.out⟩
end Go.Proofs.YtlmpaeefhpahoaaDoor
