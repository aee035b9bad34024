/-
  Walks: slices.IndexFunc, slices.ContainsFunc with Check's closure; rises; Check.
-/
import Derived.Shelf.SlSortCmp.QuietGrown
import Derived.Test.YtlmpaeefhpahoaaDoorVecA
namespace Go.Proofs.YtlmpaeefhpahoaaDoor
open Go.RowKit

set_option maxHeartbeats 800000 in
theorem IndexFunc_go (v : Value) (l : List Stp) (w : World) (hr : RdsP w v l) (m : Nat) (hm : m ≤ l.length) (h1 : ∀ i (hi : i < m), dev (l[i]'(by omega)).1 = true) (h2 : ∀ (h : m < l.length), dev l[m].1 = false) (q : Int) (hq : q = if m < l.length then (m : Int) else -1) :
    Calls Tryd.prog 51 #[v, .func (.func 36) #[] #[]] w fun e w' => e = .returned (.int .i64 q) ∧ Below w.heap.size w w' := by
  obtain ⟨ad, len, cap, rfl, hl, hlm, hel⟩ := hr
  have HL := Lib.hid hl
  have HEL := Lib.hid hel
  have H1 := Lib.hid h1
  have H2 := Lib.hid h2
  have HQ := Lib.hid hq
  have hml : m ≤ len := by omega
  unfold maxLen at hlm
  clear hl hel h1 h2 hq
  go_enter Tryd.func51, Tryd.ntmps51
  go_wp2_with fail
  go_loopw [5, 8] (fun _ k wr => ∃ n : Nat, n ≤ m ∧ k = .int .i64 n ∧ Hid (Below w.heap.size w wr)) (fun _ k _ => len - (intOf k).toNat)
  case atStart => exact ⟨0, Nat.zero_le _, rfl, Below.refl _ _⟩
  case round =>
    obtain ⟨n, hn, rfl, HB⟩ := hrel
    by_cases hlt : n < len
    · have hn' : n < l.length := by rw [← HL.out]; exact hlt
      obtain ⟨b, off, rfl, hb, hcell, hcell'⟩ := HEL.out n hn'
      have hc1 : wr.cell? ⟨b, off + n * 2, none⟩ = some (.int .i64 l[n].1) := (HB.out.cell (p := ⟨b, off + n * 2, none⟩) hb).trans hcell
      have hc2 : wr.cell? ⟨b, off + n * 2 + 1, none⟩ = some (.int .u64 l[n].2) := (HB.out.cell (p := ⟨b, off + n * 2 + 1, none⟩) hb).trans hcell'
      have hwb := HB.out.size
      clear hcell hcell'
      by_cases hnm : n < m
      · have HS : Hid (dev l[n].1 = true) := H1.out n hnm
        generalize hs : l[n] = s at hc1 hc2 HS
        clear hs
        have HCC := Lib.hid (check1_any s)
        unfold stv at HCC
        go_wp2_with fail
        refine (HCC.out _).mono ?_
        rintro e w1 ⟨rfl, hb1⟩
        have HB1 := Lib.hid (HB.out.trans (hb1.mono hwb))
        clear hb1
        rw [HS.out]
        go_wp2_with fail
        go_roundw
        case rel => exact ⟨n + 1, by omega, by go_num, HB1⟩
        case measure => simp [intOf]; omega
      · obtain rfl : n = m := by omega
        have HS : Hid (dev l[n].1 = false) := H2.out hn'
        generalize hs : l[n] = s at hc1 hc2 HS
        clear hs
        have HCC := Lib.hid (check1_any s)
        unfold stv at HCC
        go_wp2_with fail
        refine (HCC.out _).mono ?_
        rintro e w1 ⟨rfl, hb1⟩
        have HB1 := Lib.hid (HB.out.trans (hb1.mono hwb))
        clear hb1
        rw [HS.out]
        go_wp2_with fail
        go_ret
        have := HQ.out
        rw [if_pos hn'] at this
        exact ⟨by rw [this]; rfl, HB1.out⟩
    · go_wp2_with fail
      go_ret
      have := HQ.out
      rw [if_neg (by have := HL.out; omega)] at this
      exact ⟨by rw [this]; rfl, HB.out⟩

theorem first_bad (p : Stp → Bool) : ∀ (l : List Stp), l.all p = false → ∃ m, ∃ h : m < l.length, p l[m] = false ∧ ∀ i (hi : i < m), p (l[i]'(by omega)) = true
  | [], h => by simp at h
  | a :: r, h => by
    cases ha : p a with
    | false => exact ⟨0, by simp, ha, fun i hi => absurd hi (Nat.not_lt_zero i)⟩
    | true =>
      obtain ⟨m, hm, h1, h2⟩ := first_bad p r (by simpa [ha] using h)
      refine ⟨m + 1, by simpa using hm, by simpa using h1, fun i hi => ?_⟩
      cases i with
      | zero => simpa using ha
      | succ i => simpa using h2 i (by omega)

theorem ContainsFunc_any (v : Value) (l : List Stp) (w : World) (hr : RdsP w v l) (r : Bool) (hrr : (l.all fun s => dev s.1) = r) :
    Calls Tryd.prog 35 #[v, .func (.func 36) #[] #[]] w fun e w' => e = .returned (.bool (!r)) ∧ Below w.heap.size w w' := by
  have hI : ∃ q : Int, (decide (0 ≤ q) = !r) ∧ -1 ≤ q ∧ q ≤ maxLen ∧ Calls Tryd.prog 51 #[v, .func (.func 36) #[] #[]] w fun e w' => e = .returned (.int .i64 q) ∧ Below w.heap.size w w' := by
    have hlen : l.length ≤ maxLen := by
      obtain ⟨_, _, _, _, h1, h2, _⟩ := hr
      omega
    cases r with
    | true =>
      refine ⟨-1, by simp, by omega, by unfold maxLen; omega, IndexFunc_go v l w hr l.length (Nat.le_refl _) (fun i hi => ?_) (fun h => absurd h (Nat.lt_irrefl _)) _ (by rw [if_neg (Nat.lt_irrefl _)])⟩
      exact List.all_eq_true.1 hrr _ (List.getElem_mem hi)
    | false =>
      obtain ⟨m, hm, h1, h2⟩ := first_bad _ _ hrr
      exact ⟨m, by simp, by omega, by omega, IndexFunc_go v l w hr m (by omega) h2 (fun _ => h1) _ (by rw [if_pos hm])⟩
  obtain ⟨q, hq, hq1, hq2, hI⟩ := hI
  have HI := Lib.hid hI
  unfold maxLen at hq2
  clear hI hrr hr
  cases r with
  | true =>
    have h0 : q < 0 := by simpa using hq
    go_enter Tryd.func35, Tryd.ntmps35
    go_wp2_with fail
    refine HI.out.mono ?_
    rintro e w' ⟨rfl, hb⟩
    have HB := Lib.hid hb
    clear hb
    go_wp2_with fail
    go_ret
    exact ⟨ret_bool (by first | rfl | (simp; omega)), HB.out⟩
  | false =>
    have h0 : 0 ≤ q := by simpa using hq
    go_enter Tryd.func35, Tryd.ntmps35
    go_wp2_with fail
    refine HI.out.mono ?_
    rintro e w' ⟨rfl, hb⟩
    have HB := Lib.hid hb
    clear hb
    go_wp2_with fail
    go_ret
    exact ⟨ret_bool (by first | rfl | (simp; omega)), HB.out⟩
end Go.Proofs.YtlmpaeefhpahoaaDoor
