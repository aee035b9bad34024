/-
  Walks: the reference's Check.
-/
import Derived.BigQuiet
import Derived.Test.YtlmpaeefhpahoaaDoorVecF
namespace Go.Proofs.YtlmpaeefhpahoaaDoor
open Go.RowKit

def GoodAt (l : List Stp) (i : Nat) : Prop := ∀ (h : i < l.length), dev l[i].1 = true ∧ ∀ j (hj : j + 1 = i), (l[j]'(by omega)).1 < l[i].1

theorem chk_iff (l : List Stp) : chk l = true ↔ ∀ i, GoodAt l i := by
  unfold chk
  rw [Bool.and_eq_true]
  constructor
  · rintro ⟨h1, h2⟩ i hi
    refine ⟨List.all_eq_true.1 h2 _ (List.getElem_mem hi), fun j hj => ?_⟩
    exact (List.pairwise_iff_getElem.1 (rises_srt l h1)) j i (by omega) hi (by omega)
  · intro h
    refine ⟨?_, List.all_eq_true.2 fun s hs => ?_⟩
    · obtain ⟨m, h1, _, h3, h4, h5⟩ := first_fall l
      rcases h4 with h4 | h4
      · have := (h (m + 1) h4).2 m rfl
        have := h3 h4
        omega
      · rw [h5, decide_eq_true h4]
    · obtain ⟨i, hi, rfl⟩ := List.getElem_of_mem hs
      exact (h i hi).1

theorem first_not (p : Nat → Prop) : ∀ n, ∃ m, m ≤ n ∧ (∀ i, i < m → p i) ∧ (m < n → ¬ p m)
  | 0 => ⟨0, Nat.le_refl _, fun i hi => absurd hi (Nat.not_lt_zero i), fun h => absurd h (Nat.lt_irrefl _)⟩
  | n + 1 => by
    obtain ⟨m, h0, h1, h2⟩ := first_not p n
    by_cases hm : m < n
    · exact ⟨m, by omega, h1, fun _ => h2 hm⟩
    · have : m = n := by omega
      subst this
      by_cases hp : p m
      · refine ⟨m + 1, Nat.le_refl _, fun i hi => ?_, fun h => absurd h (Nat.lt_irrefl _)⟩
        rcases Nat.lt_or_ge i m with h | h
        · exact h1 i h
        · have : i = m := by omega
          subst this
          exact hp
      · exact ⟨m, by omega, h1, fun _ => hp⟩

theorem first_wrong (l : List Stp) : ∃ m, m ≤ l.length ∧ (∀ i, i < m → GoodAt l i) ∧ (m < l.length → ¬ GoodAt l m) ∧ chk l = decide (m = l.length) := by
  obtain ⟨m, h0, h1, h2⟩ := first_not (GoodAt l) l.length
  refine ⟨m, h0, h1, h2, ?_⟩
  by_cases hm : m = l.length
  · rw [decide_eq_true hm, chk_iff]
    intro i hi
    exact h1 i (by omega) hi
  · rw [decide_eq_false hm, Bool.eq_false_iff]
    intro h
    exact h2 (by omega) ((chk_iff l).1 h m)

set_option maxHeartbeats 4000000 in
theorem CheckR_go (v : Value) (L : List (List Stp)) (w : World) (hr : RdsL w v L) (m : Nat) (hm : m ≤ L.length) (h1 : ∀ i, i < m → ∀ (h : i < L.length), chk L[i] = true) (h2 : ∀ (h : m < L.length), chk L[m] = false) (q : Int) (hq : q = codeOf (decide (m = L.length))) :
    Calls Tryd.prog 17 #[v] w fun e w' => e = .returned (.int .i64 q) ∧ ∃ k, w' = w.drewN k := by
  obtain ⟨ad, len, cap, rfl, hl, hlm, hel⟩ := hr
  have HL := Lib.hid hl
  have HEL := Lib.hid hel
  have H1 := Lib.hid h1
  have H2 := Lib.hid h2
  have HQ := Lib.hid hq
  have HD := Lib.hid Device_any
  have hml : m ≤ len := by omega
  unfold maxLen at hlm
  clear hl hel h1 h2 hq
  go_enter Tryd.func17, Tryd.ntmps17
  go_wp2_with fail
  go_loopw [3] (fun k wr => ∃ n j : Nat, n ≤ m ∧ k = .int .i64 n ∧ wr = w.drewN j) (fun k _ => len - (intOf k).toNat)
  case atStart => exact ⟨0, 0, Nat.zero_le _, rfl, rfl⟩
  case round =>
    obtain ⟨n, j, hn, rfl, rfl⟩ := hrel
    by_cases hlt : n < len
    · have hn' : n < L.length := by rw [← HL.out]; exact hlt
      obtain ⟨b, off, x, rfl, hb, hc1, hx⟩ := HEL.out n hn'
      have H1n : Hid (n < m → chk L[n] = true) := fun h => H1.out n h hn'
      have H2n : Hid (n = m → chk L[n] = false) := fun h => by subst h; exact H2.out hn'
      generalize L[n] = l at hx H1n H2n
      obtain ⟨xa, xn, xc, rfl, hxl, hxm, hxe⟩ := hx
      have HXL := Lib.hid hxl
      have HXE := Lib.hid hxe
      unfold maxLen at hxm
      clear hxl hxe
      obtain ⟨M, hM, hg, hbad, hchk⟩ := first_wrong l
      have HG := Lib.hid hg
      have HB := Lib.hid hbad
      have HC := Lib.hid hchk
      have hMl : M ≤ xn := by rw [HXL.out]; exact hM
      clear hg hbad hchk hM
      go_wp2_with fail
      go_loopw [4] (fun k wi => ∃ i a : Nat, i ≤ M ∧ k = .int .i64 i ∧ wi = w.drewN a) (fun k _ => xn - (intOf k).toNat)
      case atStart => exact ⟨0, j, Nat.zero_le _, rfl, rfl⟩
      case round =>
        obtain ⟨i, a, hi, rfl, rfl⟩ := hrel
        by_cases hlt2 : i < xn
        · have hi' : i < l.length := by rw [← HXL.out]; exact hlt2
          obtain ⟨b2, off2, rfl, hb2, hd1, hd2⟩ := HXE.out i hi'
          have J1 : Hid (i < M → GoodAt l i) := HG.out i
          have J2 : Hid (i = M → ¬ GoodAt l i) := fun h => by subst h; exact HB.out hi'
          cases i with
          | zero =>
            have JG : Hid (GoodAt l 0 ↔ dev l[0].1 = true) := by
              constructor
              · intro h; exact (h hi').1
              · intro h _; exact ⟨h, fun j hj => by omega⟩
            generalize l[0] = s at hd1 hd2 JG
            simp only [Nat.zero_mul, Nat.add_zero] at hd1 hd2
            by_cases hiM : 0 < M
            · have hdv : dev s.1 = true := JG.out.1 (J1.out hiM)
              go_wp2_with fail
              go_quiet ((refine (HD.out _ _).mono ?_; rintro _ _ ⟨rfl, rfl⟩; exact ⟨rfl, _, rfl⟩))
              go_wp2_with fail
              go_roundw
              case rel => exact ⟨1, a + nq, by omega, by go_num, by first | rfl | rw [World.drewN_drewN]⟩
              case measure => simp [intOf]; omega
            · have hdv : dev s.1 = false := by
                have h0 : (0 : Nat) = M := by omega
                exact Bool.eq_false_iff.2 fun h => J2.out h0 (JG.out.2 h)
              have HF : Hid (n = m) := by
                show n = m
                rcases Nat.lt_or_ge n m with h | h
                · have := H1n.out h
                  rw [HC.out] at this
                  have := of_decide_eq_true this
                  omega
                · omega
              go_wp2_with fail
              go_quiet ((refine (HD.out _ _).mono ?_; rintro _ _ ⟨rfl, rfl⟩; exact ⟨rfl, _, rfl⟩))
              go_wp2_with fail
              go_ret
              refine ⟨?_, a + nq, by first | rfl | rw [World.drewN_drewN]⟩
              rw [HQ.out, decide_eq_false (by have := HF.out; omega)]
              rfl
          | succ i =>
            obtain ⟨b3, off3, hbb, _, hp1, hp2⟩ := HXE.out i (by omega)
            obtain ⟨rfl, rfl⟩ : b2 = b3 ∧ off2 = off3 := by simpa using hbb
            clear hbb
            have JG : Hid (GoodAt l (i + 1) ↔ dev l[i + 1].1 = true ∧ l[i].1 < l[i + 1].1) := by
              constructor
              · intro h; exact ⟨(h hi').1, (h hi').2 i rfl⟩
              · rintro ⟨h1, h2⟩ _
                exact ⟨h1, fun j hj => by have : j = i := by omega
                                          subst this; exact h2⟩
            generalize l[i + 1] = s at hd1 hd2 JG
            generalize l[i] = t at hp1 hp2 JG
            have hnl : i < xn := by omega
            have hq2 : IntKind.i64.wrap (i : Int) = i := IntWalk.i64_in _ (by omega)
            have hi1 : (i : Int) + 1 < xn := by omega
            have hi2 : 0 ≤ (i : Int) + 1 := by omega
            have hi3 : ((i : Int) + 1).toNat = i + 1 := by omega
            have hi4 : 0 < (i : Int) + 1 := by omega
            have HF : Hid (i + 1 = M → n = m) := by
              intro hiM
              rcases Nat.lt_or_ge n m with h | h
              · have := H1n.out h
                rw [HC.out] at this
                have := of_decide_eq_true this
                omega
              · omega
            by_cases hiM : i + 1 < M
            · have hdv : dev s.1 = true := (JG.out.1 (J1.out hiM)).1
              have hts : t.1 < s.1 := (JG.out.1 (J1.out hiM)).2
              have hi5 : IntKind.i64.wrap ((i : Int) + 1 + 1) = (i : Int) + 1 + 1 := IntWalk.i64_in _ (by omega)
              go_wp2_with fail
              go_quiet ((refine (HD.out _ _).mono ?_; rintro _ _ ⟨rfl, rfl⟩; exact ⟨rfl, _, rfl⟩))
              go_wp2_with fail
              go_roundw
              case rel => exact ⟨i + 2, a + nq, by omega, by go_num, by first | rfl | rw [World.drewN_drewN]⟩
              case measure => simp [intOf]; omega
            · have hiM' : Hid (i + 1 = M) := by show i + 1 = M; omega
              clear hiM
              cases hdv : dev s.1 with
              | false =>
                go_wp2_with fail
                go_quiet ((refine (HD.out _ _).mono ?_; rintro _ _ ⟨rfl, rfl⟩; exact ⟨rfl, _, rfl⟩))
                go_wp2_with fail
                go_ret
                refine ⟨?_, a + nq, by first | rfl | rw [World.drewN_drewN]⟩
                rw [HQ.out, decide_eq_false (by have := HF.out hiM'.out; omega)]
                rfl
              | true =>
                have hts : s.1 ≤ t.1 := by
                  have := J2.out hiM'.out
                  rw [JG.out] at this
                  exact Int.not_lt.1 fun h5 => this ⟨hdv, h5⟩
                go_wp2_with fail
                go_quiet ((refine (HD.out _ _).mono ?_; rintro _ _ ⟨rfl, rfl⟩; exact ⟨rfl, _, rfl⟩))
                go_wp2_with fail
                go_ret
                refine ⟨?_, a + nq, by first | rfl | rw [World.drewN_drewN]⟩
                rw [HQ.out, decide_eq_false (by have := HF.out hiM'.out; omega)]
                rfl
        · have hnm : n < m := by
            rcases Nat.lt_or_ge n m with h | h
            · exact h
            · have := H2n.out (by omega)
              rw [HC.out] at this
              have := of_decide_eq_false this
              have := HXL.out
              omega
          go_wp2_with fail
          go_roundw
          case rel => exact ⟨n + 1, a, by omega, by go_num, rfl⟩
          case measure => simp [intOf]; omega
    · go_wp2_with fail
      go_ret
      refine ⟨?_, j, rfl⟩
      rw [HQ.out, decide_eq_true (by have := HL.out; omega)]
      rfl

theorem CheckR_any (v : Value) (L : List (List Stp)) (w : World) (hr : RdsL w v L) (q : Int) (hq : q = codeOf (L.all chk)) :
    Calls Tryd.prog 17 #[v] w fun e w' => e = .returned (.int .i64 q) ∧ ∃ k, w' = w.drewN k := by
  obtain ⟨m, h0, h1, h2, h3⟩ := first_bad' chk L
  exact CheckR_go v L w hr m h0 h1 h2 q (by rw [hq, h3])
end Go.Proofs.YtlmpaeefhpahoaaDoor
