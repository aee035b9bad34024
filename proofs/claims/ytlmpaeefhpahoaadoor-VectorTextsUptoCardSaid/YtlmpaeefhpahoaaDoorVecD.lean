/-
  Walks: Check; slices.BinarySearchFunc with find's closure; find.
-/
import Derived.Test.YtlmpaeefhpahoaaDoorVecC
namespace Go.Proofs.YtlmpaeefhpahoaaDoor
open Go.RowKit

theorem first_fall : ∀ (l : List Stp), ∃ m, m ≤ l.length ∧ (∀ i, i < m → ∀ (h : i + 1 < l.length), l[i].1 < l[i + 1].1) ∧ (∀ (h : m + 1 < l.length), l[m + 1].1 ≤ l[m].1) ∧ (m + 1 < l.length ∨ m = l.length) ∧ rises l = decide (m = l.length)
  | [] => ⟨0, Nat.le_refl _, fun i hi => absurd hi (Nat.not_lt_zero i), fun h => by simp at h, .inr rfl, rfl⟩
  | [a] => ⟨1, Nat.le_refl _, fun i _ h => by simp at h, fun h => by simp at h, .inr rfl, rfl⟩
  | a :: b :: r => by
    by_cases hab : a.1 < b.1
    · obtain ⟨m, h1, h2, h3, h4, h5⟩ := first_fall (b :: r)
      refine ⟨m + 1, by simp at h1 ⊢; omega, fun i hi h => ?_, fun h => ?_, by simp at h4 ⊢; omega, ?_⟩
      · cases i with
        | zero => simpa using hab
        | succ i => exact h2 i (by omega) (by simp at h ⊢; omega)
      · exact h3 (by simp at h ⊢; omega)
      · have h6 : rises (a :: b :: r) = rises (b :: r) := by simp [rises, hab]
        rw [h6, h5]
        simp
    · refine ⟨0, Nat.zero_le _, fun i hi => absurd hi (Nat.not_lt_zero i), fun _ => by simp; omega, .inl (by simp), ?_⟩
      simp [rises, hab]

theorem rises_any (v : Value) (l : List Stp) (w : World) (hr : RdsP w v l) (r : Bool) (hrr : rises l = r) :
    Calls Tryd.prog 33 #[v, .func (.func 34) #[] #[]] w fun e w' => e = .returned (.bool r) ∧ Below w.heap.size w w' := by
  obtain ⟨m, h1, h2, h3, h4, h5⟩ := first_fall l
  exact rises_go v l w hr m h1 h2 h3 h4 r (hrr.symm.trans h5)

/-- A number for an answer: 0 or 160. -/
def codeOf (b : Bool) : Int := if b then 0 else 160

set_option maxHeartbeats 1600000 in
theorem Check_go (v : Value) (L : List (List Stp)) (w : World) (hr : RdsL w v L) (m : Nat) (hm : m ≤ L.length) (h1 : ∀ i (hi : i < m), chk (L[i]'(by omega)) = true) (h2 : ∀ (h : m < L.length), chk L[m] = false) (q : Int) (hq : q = codeOf (decide (m = L.length))) :
    Calls Tryd.prog 16 #[v] w fun e w' => e = .returned (.int .i64 q) ∧ Below w.heap.size w w' := by
  obtain ⟨ad, len, cap, rfl, hl, hlm, hel⟩ := hr
  have HL := Lib.hid hl
  have HEL := Lib.hid hel
  have H1 := Lib.hid h1
  have H2 := Lib.hid h2
  have HQ := Lib.hid hq
  have hml : m ≤ len := by omega
  unfold maxLen at hlm
  clear hl hel h1 h2 hq
  go_enter Tryd.func16, Tryd.ntmps16
  go_wp2_with fail
  go_loopw [4, 7] (fun _ k wr => ∃ n : Nat, n ≤ m ∧ k = .int .i64 n ∧ Hid (Below w.heap.size w wr)) (fun _ k _ => len - (intOf k).toNat)
  case atStart => exact ⟨0, Nat.zero_le _, rfl, Below.refl _ _⟩
  case round =>
    obtain ⟨n, hn, rfl, HB⟩ := hrel
    by_cases hlt : n < len
    · have hn' : n < L.length := by rw [← HL.out]; exact hlt
      obtain ⟨b, off, x, rfl, hb, hcell, hx⟩ := HEL.out n hn'
      have hc1 : wr.cell? ⟨b, off + n, none⟩ = some x := (HB.out.cell (p := ⟨b, off + n, none⟩) hb).trans hcell
      have hwb := HB.out.size
      have HX := Lib.hid (hx.below HB.out)
      have H1n : Hid (n < m → chk L[n] = true) := fun h => H1.out n h
      have H2n : Hid (n = m → chk L[n] = false) := fun h => by subst h; exact H2.out hn'
      clear hcell hx
      generalize L[n] = l at HX H1n H2n
      obtain ⟨xa, xn, xc, hxe⟩ : ∃ a n c, x = .slice a n c := by obtain ⟨a, n, c, h, _⟩ := HX.out; exact ⟨a, n, c, h⟩
      subst hxe
      have HCk : Hid (chk l = (rises l && l.all fun s => dev s.1)) := rfl
      cases hri : rises l with
      | false =>
        have HR := Lib.hid (fun (W : World) (h : RdsP W (.slice xa xn xc) l) => rises_any _ l W h false hri)
        obtain rfl : n = m := by
          rcases Nat.lt_or_ge n m with h | h
          · have := H1n.out h
            rw [HCk.out, hri] at this
            cases this
          · omega
        go_wp2_with fail
        refine (HR.out _ HX.out).mono ?_
        rintro e w1 ⟨rfl, hb1⟩
        have HB1 := Lib.hid (HB.out.trans (hb1.mono hwb))
        clear hb1
        go_wp2_with fail
        go_ret
        refine ⟨?_, HB1.out⟩
        rw [HQ.out, decide_eq_false (by omega)]
        rfl
      | true =>
        have HR := Lib.hid (fun (W : World) (h : RdsP W (.slice xa xn xc) l) => rises_any _ l W h true hri)
        cases hal : (l.all fun s => dev s.1) with
        | false =>
          have HA := Lib.hid (fun (W : World) (h : RdsP W (.slice xa xn xc) l) => ContainsFunc_any _ l W h false hal)
          obtain rfl : n = m := by
            rcases Nat.lt_or_ge n m with h | h
            · have := H1n.out h
              rw [HCk.out, hri, hal] at this
              cases this
            · omega
          clear hal hri
          go_wp2_with fail
          refine (HR.out _ HX.out).mono ?_
          rintro e w1 ⟨rfl, hb1⟩
          have HB1 := Lib.hid (HB.out.trans (hb1.mono hwb))
          have HX1 := Lib.hid (HX.out.below hb1)
          have hwb1 := HB1.out.size
          clear hb1
          go_wp2_with fail
          refine (HA.out _ HX1.out).mono ?_
          rintro e w2 ⟨rfl, hb2⟩
          have HB2 := Lib.hid (HB1.out.trans (hb2.mono hwb1))
          clear hb2
          go_wp2_with fail
          go_ret
          refine ⟨?_, HB2.out⟩
          rw [HQ.out, decide_eq_false (by omega)]
          rfl
        | true =>
          have HA := Lib.hid (fun (W : World) (h : RdsP W (.slice xa xn xc) l) => ContainsFunc_any _ l W h true hal)
          have hnm : n < m := by
            rcases Nat.lt_or_ge n m with h | h
            · exact h
            · have := H2n.out (by omega)
              rw [HCk.out, hri, hal] at this
              cases this
          clear hal hri
          go_wp2_with fail
          refine (HR.out _ HX.out).mono ?_
          rintro e w1 ⟨rfl, hb1⟩
          have HB1 := Lib.hid (HB.out.trans (hb1.mono hwb))
          have HX1 := Lib.hid (HX.out.below hb1)
          have hwb1 := HB1.out.size
          clear hb1
          go_wp2_with fail
          refine (HA.out _ HX1.out).mono ?_
          rintro e w2 ⟨rfl, hb2⟩
          have HB2 := Lib.hid (HB1.out.trans (hb2.mono hwb1))
          clear hb2
          go_wp2_with fail
          go_roundw
          case rel => exact ⟨n + 1, by omega, by go_num, HB2⟩
          case measure => simp [intOf]; omega
    · go_wp2_with fail
      go_ret
      refine ⟨?_, HB.out⟩
      rw [HQ.out, decide_eq_true (by have := HL.out; omega)]
      rfl

theorem first_bad' (p : List Stp → Bool) : ∀ (l : List (List Stp)), ∃ m, m ≤ l.length ∧ (∀ i, i < m → ∀ (h : i < l.length), p l[i] = true) ∧ (∀ h : m < l.length, p l[m] = false) ∧ l.all p = decide (m = l.length)
  | [] => ⟨0, Nat.le_refl _, fun i hi => absurd hi (Nat.not_lt_zero i), fun h => absurd h (Nat.lt_irrefl _), rfl⟩
  | a :: r => by
    cases ha : p a with
    | false => exact ⟨0, Nat.zero_le _, fun i hi => absurd hi (Nat.not_lt_zero i), fun _ => ha, by simp [ha]⟩
    | true =>
      obtain ⟨m, h0, h1, h2, h3⟩ := first_bad' p r
      refine ⟨m + 1, by simpa using h0, fun i hi h => ?_, fun h => by simpa using h2 (by simpa using h), by simp [ha, h3]⟩
      cases i with
      | zero => simpa using ha
      | succ i => simpa using h1 i (by omega) (by simpa using h)

theorem Check_any (v : Value) (L : List (List Stp)) (w : World) (hr : RdsL w v L) (q : Int) (hq : q = codeOf (L.all chk)) :
    Calls Tryd.prog 16 #[v] w fun e w' => e = .returned (.int .i64 q) ∧ Below w.heap.size w w' := by
  obtain ⟨m, h0, h1, h2, h3⟩ := first_bad' chk L
  exact Check_go v L w hr m h0 (fun i hi => h1 i hi (by omega)) h2 q (by rw [hq, h3])
end Go.Proofs.YtlmpaeefhpahoaaDoor
