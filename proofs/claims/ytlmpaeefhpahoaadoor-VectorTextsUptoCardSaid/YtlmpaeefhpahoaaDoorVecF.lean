/-
  Walks: the reference's find; the two that compare vectors.
-/
import Derived.Laws.StructEq
import Derived.Deep.QuietTactic
import Derived.Test.YtlmpaeefhpahoaaDoorVecE
namespace Go.Proofs.YtlmpaeefhpahoaaDoor
open Go.RowKit

theorem rdsP_drewN {w : World} {v : Value} {l : List Stp} (h : RdsP w v l) (k : Nat) : RdsP (w.drewN k) v l := h
theorem guard43 : Tryd.prog.eqGuardType Tryd.prog.depth 43 = false := by kernel_rfl

theorem neqSt (x y : Stp) (w : World) : (binOp .neq 43 (stv x) (stv y)).run Tryd.prog w = .ok (.bool (!(x.1 == y.1 && x.2 == y.2))) w := by
  have u3 := Tryd.underlying3
  have u4 := Tryd.underlying41
  have hS : Tryd.prog.underlying 43 = some (.struct (Tryd.prog.fieldsOf 43)) := by kernel_rfl
  have hp : Tryd.prog.stoodInHeld 43 = false := by kernel_rfl
  simp only [stv]
  rw [run_neq_struct, show (10000 : Nat) = 9999 + 1 from rfl, run_equalIn_agg w 9999 43 _ _ hS hp]
  simp only [Program.fieldsOf, Tryd.underlying43]
  go_simp
  by_cases h1 : x.fst = y.fst <;> by_cases h2 : x.snd = y.snd <;> simp [h1, h2]

theorem neqSt_same (x : Stp) (w : World) : (binOp .neq 43 (.agg #[.int .i64 x.1, .int .u64 x.2]) (.agg #[.int .i64 x.1, .int .u64 x.2])).run Tryd.prog w = .ok (.bool false) w := by
  have := neqSt x x w
  simpa [stv] using this

theorem neqSt_other {x y : Stp} (h : x ≠ y) (w : World) : (binOp .neq 43 (.agg #[.int .i64 x.1, .int .u64 x.2]) (.agg #[.int .i64 y.1, .int .u64 y.2])).run Tryd.prog w = .ok (.bool true) w := by
  have h1 := neqSt x y w
  have h2 : (x.1 == y.1 && x.2 == y.2) = false := by
    rw [Bool.and_eq_false_iff]
    by_cases h3 : x.1 = y.1
    · exact .inr (by simpa using fun h4 => h (Prod.ext h3 h4))
    · exact .inl (by simpa using h3)
  rw [h2] at h1
  exact h1

theorem lk_first : ∀ (l : List Stp) (d : Int), ∃ m, m ≤ l.length ∧ (∀ i, i < m → ∀ (h : i < l.length), l[i].1 ≠ d) ∧ (∀ (h : m < l.length), l[m].1 = d ∧ lk l d = some l[m].2) ∧ (m = l.length → lk l d = none)
  | [], d => ⟨0, Nat.le_refl _, fun i hi => absurd hi (Nat.not_lt_zero i), fun h => absurd h (Nat.lt_irrefl _), fun _ => rfl⟩
  | a :: r, d => by
    by_cases ha : a.1 = d
    · exact ⟨0, Nat.zero_le _, fun i hi => absurd hi (Nat.not_lt_zero i), fun _ => ⟨ha, by simp [lk, ha]⟩, fun h => by simp at h⟩
    · obtain ⟨m, h0, h1, h2, h3⟩ := lk_first r d
      refine ⟨m + 1, by simpa using h0, fun i hi h => ?_, fun h => ?_, fun h => ?_⟩
      · cases i with
        | zero => simpa using ha
        | succ i => simpa using h1 i (by omega) (by simpa using h)
      · have := h2 (by simpa using h)
        simpa [lk, ha] using this
      · have := h3 (by simpa using h)
        simp [lk, ha, this]

set_option maxHeartbeats 800000 in
theorem findR_any (v : Value) (l : List Stp) (d : Int) (w : World) (hr : RdsP w v l) (x : Int) (r : Bool) (hx : x = (lk l d).getD 0) (hrr : (lk l d).isSome = r) :
    Calls Tryd.prog 31 #[v, .int .i64 d] w fun e w' => e = .returned (.tuple #[.int .u64 x, .bool r]) ∧ w = w' := by
  obtain ⟨m, h0, h1, h2, h3⟩ := lk_first l d
  obtain ⟨ad, len, cap, rfl, hl, hlm, hel⟩ := hr
  have HL := Lib.hid hl
  have HEL := Lib.hid hel
  have H1 := Lib.hid h1
  have H2 := Lib.hid h2
  have H3 := Lib.hid h3
  have HX := Lib.hid hx
  have HR := Lib.hid hrr
  have hml : m ≤ len := by omega
  unfold maxLen at hlm
  clear hl hel hx hrr h1 h2 h3
  go_enter Tryd.func31, Tryd.ntmps31
  go_wp2_with fail
  go_loop [6] (fun k => ∃ n : Nat, n ≤ m ∧ k = .int .i64 n) (fun k => len - (intOf k).toNat)
  case atStart => exact ⟨0, Nat.zero_le _, rfl⟩
  case round =>
    obtain ⟨n, hn, rfl⟩ := hrel
    by_cases hlt : n < len
    · have hn' : n < l.length := by rw [← HL.out]; exact hlt
      obtain ⟨b, off, rfl, hb, hc1, hc2⟩ := HEL.out n hn'
      have J1 : Hid (n < m → l[n].1 ≠ d) := fun h => H1.out n h hn'
      have J2 : Hid (n = m → l[n].1 = d ∧ lk l d = some l[n].2) := fun h => by subst h; exact H2.out hn'
      generalize l[n] = s at hc1 hc2 J1 J2
      by_cases hnm : n < m
      · have hsd := J1.out hnm
        go_wp2_with fail
        go_round
        case rel => exact ⟨n + 1, by omega, by go_num⟩
        case measure => simp [intOf]; omega
      · obtain rfl : n = m := by omega
        have hsd := (J2.out rfl).1
        have HY := Lib.hid (J2.out rfl).2
        go_wp2_with fail
        go_ret2
        have e1 := HX.out
        have e2 := HR.out
        rw [HY.out] at e1 e2
        subst e1 e2
        exact ⟨rfl, rfl⟩
    · go_wp2_with fail
      go_ret2
      have e1 := HX.out
      have e2 := HR.out
      rw [H3.out (by have := HL.out; omega)] at e1 e2
      subst e1 e2
      exact ⟨rfl, rfl⟩

theorem first_diff : ∀ (l l' : List Stp), l.length = l'.length → ∃ m, m ≤ l.length ∧ (∀ i, i < m → ∀ (h : i < l.length) (h' : i < l'.length), l[i] = l'[i]) ∧ (∀ (h : m < l.length) (h' : m < l'.length), l[m] ≠ l'[m]) ∧ decide (l = l') = decide (m = l.length)
  | [], [], _ => ⟨0, Nat.le_refl _, fun i hi => absurd hi (Nat.not_lt_zero i), fun h => absurd h (Nat.lt_irrefl _), rfl⟩
  | [], b :: l', h => by simp at h
  | a :: l, [], h => by simp at h
  | a :: l, b :: l', h => by
    by_cases hab : a = b
    · obtain ⟨m, h0, h1, h2, h3⟩ := first_diff l l' (by simpa using h)
      refine ⟨m + 1, by simpa using h0, fun i hi h4 h5 => ?_, fun h4 h5 => ?_, ?_⟩
      · cases i with
        | zero => simpa using hab
        | succ i => simpa using h1 i (by omega) (by simpa using h4) (by simpa using h5)
      · simpa using h2 (by simpa using h4) (by simpa using h5)
      · simp only [List.length_cons, Nat.add_right_cancel_iff, List.cons.injEq, hab, true_and]
        exact h3
    · exact ⟨0, Nat.zero_le _, fun i hi => absurd hi (Nat.not_lt_zero i), fun _ _ => by simpa using hab, by simp [hab]⟩

set_option maxHeartbeats 800000 in
theorem SameR_go (v v' : Value) (l l' : List Stp) (w : World) (hr : RdsP w v l) (hr' : RdsP w v' l') (hll : l.length = l'.length) (m : Nat) (hm : m ≤ l.length) (h1 : ∀ i, i < m → ∀ (h : i < l.length) (h' : i < l'.length), l[i] = l'[i]) (h2 : ∀ (h : m < l.length) (h' : m < l'.length), l[m] ≠ l'[m]) (r : Bool) (hrr : r = decide (m = l.length)) :
    Calls Tryd.prog 15 #[v, v'] w fun e w' => e = .returned (.bool r) ∧ ∃ k, w' = w.drewN k := by
  obtain ⟨ad, len, cap, rfl, hl, hlm, hel⟩ := hr
  obtain ⟨ad', len', cap', rfl, hl', _, hel'⟩ := hr'
  obtain rfl : len = len' := by omega
  have HL := Lib.hid hl
  have HL' := Lib.hid hl'
  have HEL := Lib.hid hel
  have HEL' := Lib.hid hel'
  have H1 := Lib.hid h1
  have H2 := Lib.hid h2
  have HQ := Lib.hid hrr
  have hml : m ≤ len := by omega
  unfold maxLen at hlm
  clear hl hl' hel hel' h1 h2 hrr
  have hguard := guard43
  go_enter Tryd.func15, Tryd.ntmps15
  go_wp2_with fail
  go_loopw [5] (fun k wr => ∃ n j : Nat, n ≤ m ∧ k = .int .i64 n ∧ wr = w.drewN j) (fun k _ => len - (intOf k).toNat)
  case atStart => exact ⟨0, 0, Nat.zero_le _, rfl, rfl⟩
  case round =>
    obtain ⟨n, j, hn, rfl, rfl⟩ := hrel
    by_cases hlt : n < len
    · have hn' : n < l.length := by rw [← HL.out]; exact hlt
      have hn'' : n < l'.length := by rw [← HL'.out]; exact hlt
      obtain ⟨b, off, rfl, hb, hc1, hc2⟩ := HEL.out n hn'
      obtain ⟨b', off', rfl, hb', hc1', hc2'⟩ := HEL'.out n hn''
      have J1 : Hid (n < m → l[n] = l'[n]) := fun h => H1.out n h hn' hn''
      have J2 : Hid (n = m → l[n] ≠ l'[n]) := fun h => by subst h; exact H2.out hn' hn''
      generalize l[n] = s at hc1 hc2 J1 J2
      generalize l'[n] = t at hc1' hc2' J1 J2
      by_cases hnm : n < m
      · obtain rfl := J1.out hnm
        have hne := neqSt_same s
        go_wp2_with fail
        go_quiet (fail)
        go_wp2_with fail
        go_roundw
        case rel => exact ⟨n + 1, j + nq, by omega, by go_num, rfl⟩
        case measure => simp [intOf]; omega
      · obtain rfl : n = m := by omega
        have hne := neqSt_other (J2.out rfl)
        go_wp2_with fail
        go_quiet (fail)
        go_wp2_with fail
        go_ret
        refine ⟨?_, j + nq, by rw [World.drewN_drewN]⟩
        rw [HQ.out, decide_eq_false (by omega)]
        rfl
    · go_wp2_with fail
      go_ret
      refine ⟨?_, j, rfl⟩
      rw [HQ.out, decide_eq_true (by have := HL.out; omega)]
      rfl

set_option maxHeartbeats 800000 in
theorem SameR_len (v v' : Value) (l l' : List Stp) (w : World) (hr : RdsP w v l) (hr' : RdsP w v' l') (hll : l.length ≠ l'.length) :
    Calls Tryd.prog 15 #[v, v'] w fun e w' => e = .returned (.bool false) ∧ ∃ k, w' = w.drewN k := by
  obtain ⟨ad, len, cap, rfl, hl, hlm, hel⟩ := hr
  obtain ⟨ad', len', cap', rfl, hl', _, hel'⟩ := hr'
  have hne : len ≠ len' := by omega
  have hne' : (len : Int) ≠ len' := by omega
  clear hl hl' hel hel'
  go_enter Tryd.func15, Tryd.ntmps15
  go_wp2_with fail
  go_ret
  exact ⟨rfl, 0, rfl⟩

theorem SameR_any (v v' : Value) (l l' : List Stp) (w : World) (hr : RdsP w v l) (hr' : RdsP w v' l') (r : Bool) (hrr : r = decide (l = l')) :
    Calls Tryd.prog 15 #[v, v'] w fun e w' => e = .returned (.bool r) ∧ ∃ k, w' = w.drewN k := by
  by_cases hll : l.length = l'.length
  · obtain ⟨m, h0, h1, h2, h3⟩ := first_diff l l' hll
    exact SameR_go v v' l l' w hr hr' hll m h0 h1 h2 r (hrr.trans h3)
  · have : r = false := by rw [hrr]; exact decide_eq_false fun h => hll (by rw [h])
    subst this
    exact SameR_len v v' l l' w hr hr' hll

set_option maxHeartbeats 800000 in
theorem Equal_go (v v' : Value) (l l' : List Stp) (w : World) (hr : RdsP w v l) (hr' : RdsP w v' l') (hll : l.length = l'.length) (m : Nat) (hm : m ≤ l.length) (h1 : ∀ i, i < m → ∀ (h : i < l.length) (h' : i < l'.length), l[i] = l'[i]) (h2 : ∀ (h : m < l.length) (h' : m < l'.length), l[m] ≠ l'[m]) (r : Bool) (hrr : r = decide (m = l.length)) :
    Calls Tryd.prog 40 #[v, v'] w fun e w' => e = .returned (.bool r) ∧ ∃ k, w' = w.drewN k := by
  obtain ⟨ad, len, cap, rfl, hl, hlm, hel⟩ := hr
  obtain ⟨ad', len', cap', rfl, hl', _, hel'⟩ := hr'
  obtain rfl : len = len' := by omega
  have HL := Lib.hid hl
  have HL' := Lib.hid hl'
  have HEL := Lib.hid hel
  have HEL' := Lib.hid hel'
  have H1 := Lib.hid h1
  have H2 := Lib.hid h2
  have HQ := Lib.hid hrr
  have hml : m ≤ len := by omega
  unfold maxLen at hlm
  clear hl hl' hel hel' h1 h2 hrr
  have hguard := guard43
  go_enter Tryd.func40, Tryd.ntmps40
  go_wp2_with fail
  go_loopw [5, 13] (fun _ k wr => ∃ n j : Nat, n ≤ m ∧ k = .int .i64 n ∧ wr = w.drewN j) (fun _ k _ => len - (intOf k).toNat)
  case atStart => exact ⟨0, 0, Nat.zero_le _, rfl, rfl⟩
  case round =>
    obtain ⟨n, j, hn, rfl, rfl⟩ := hrel
    by_cases hlt : n < len
    · have hn' : n < l.length := by rw [← HL.out]; exact hlt
      have hn'' : n < l'.length := by rw [← HL'.out]; exact hlt
      obtain ⟨b, off, rfl, hb, hc1, hc2⟩ := HEL.out n hn'
      obtain ⟨b', off', rfl, hb', hc1', hc2'⟩ := HEL'.out n hn''
      have J1 : Hid (n < m → l[n] = l'[n]) := fun h => H1.out n h hn' hn''
      have J2 : Hid (n = m → l[n] ≠ l'[n]) := fun h => by subst h; exact H2.out hn' hn''
      generalize l[n] = s at hc1 hc2 J1 J2
      generalize l'[n] = t at hc1' hc2' J1 J2
      by_cases hnm : n < m
      · obtain rfl := J1.out hnm
        have hne := neqSt_same s
        go_wp2_with fail
        go_quiet (fail)
        go_wp2_with fail
        go_roundw
        case rel => exact ⟨n + 1, j + nq, by omega, by go_num, rfl⟩
        case measure => simp [intOf]; omega
      · obtain rfl : n = m := by omega
        have hne := neqSt_other (J2.out rfl)
        go_wp2_with fail
        go_quiet (fail)
        go_wp2_with fail
        go_ret
        refine ⟨?_, j + nq, by rw [World.drewN_drewN]⟩
        rw [HQ.out, decide_eq_false (by omega)]
        rfl
    · go_wp2_with fail
      go_ret
      refine ⟨?_, j, rfl⟩
      rw [HQ.out, decide_eq_true (by have := HL.out; omega)]
      rfl

set_option maxHeartbeats 800000 in
theorem Equal_len (v v' : Value) (l l' : List Stp) (w : World) (hr : RdsP w v l) (hr' : RdsP w v' l') (hll : l.length ≠ l'.length) :
    Calls Tryd.prog 40 #[v, v'] w fun e w' => e = .returned (.bool false) ∧ ∃ k, w' = w.drewN k := by
  obtain ⟨ad, len, cap, rfl, hl, hlm, hel⟩ := hr
  obtain ⟨ad', len', cap', rfl, hl', _, hel'⟩ := hr'
  have hne : len ≠ len' := by omega
  have hne' : (len : Int) ≠ len' := by omega
  clear hl hl' hel hel'
  go_enter Tryd.func40, Tryd.ntmps40
  go_wp2_with fail
  go_ret
  exact ⟨rfl, 0, rfl⟩

theorem Equal_any (v v' : Value) (l l' : List Stp) (w : World) (hr : RdsP w v l) (hr' : RdsP w v' l') (r : Bool) (hrr : r = decide (l = l')) :
    Calls Tryd.prog 40 #[v, v'] w fun e w' => e = .returned (.bool r) ∧ ∃ k, w' = w.drewN k := by
  by_cases hll : l.length = l'.length
  · obtain ⟨m, h0, h1, h2, h3⟩ := first_diff l l' hll
    exact Equal_go v v' l l' w hr hr' hll m h0 h1 h2 r (hrr.trans h3)
  · have : r = false := by rw [hrr]; exact decide_eq_false fun h => hll (by rw [h])
    subst this
    exact Equal_len v v' l l' w hr hr' hll

theorem Same_any (v v' : Value) (l l' : List Stp) (w : World) (hr : RdsP w v l) (hr' : RdsP w v' l') (r : Bool) (hrr : r = decide (l = l')) :
    Calls Tryd.prog 21 #[v, v'] w fun e w' => e = .returned (.bool r) ∧ ∃ k, w' = w.drewN k := by
  have HC := Lib.hid (Equal_any v v' l l' w hr hr' r hrr)
  clear hr hr' hrr
  go_enter Tryd.func21, Tryd.ntmps21
  go_wp2_with fail
  refine HC.out.mono ?_
  rintro e w1 ⟨rfl, k, rfl⟩
  go_wp2_with fail
  go_ret
  exact ⟨rfl, k, rfl⟩
end Go.Proofs.YtlmpaeefhpahoaaDoor
