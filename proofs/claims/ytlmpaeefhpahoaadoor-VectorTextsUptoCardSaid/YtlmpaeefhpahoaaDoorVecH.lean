/-
  Walks: Below, the code's and the reference's.
-/
import Derived.Test.YtlmpaeefhpahoaaDoorVecG
namespace Go.Proofs.YtlmpaeefhpahoaaDoor
open Go.RowKit

theorem below_dN {B : Nat} {a w : World} (h : Below B a w) (k : Nat) : Below B a (w.drewN k) := ⟨h.os, h.tape, h.output, h.size, h.block⟩

theorem srt_len {l : List Stp} (h : chk l = true) : l.length ≤ 256 := by
  have h' := (chk_iff l).1 h
  have h2 : ∀ i (hi : i < l.length), (i : Int) ≤ l[i].1 := by
    intro i
    induction i with
    | zero =>
      intro hi
      have := (h' 0 hi).1
      simp only [dev, Bool.and_eq_true, decide_eq_true_eq] at this
      omega
    | succ i ih =>
      intro hi
      have := (h' (i + 1) hi).2 i rfl
      have := ih (by omega)
      omega
  rcases Nat.lt_or_ge 256 l.length with h3 | h3
  · have h4 := h2 256 h3
    have h5 := (h' 256 h3).1
    simp only [dev, Bool.and_eq_true, decide_eq_true_eq] at h5
    omega
  · exact h3

theorem chk_srt {l : List Stp} (h : chk l = true) : Srt l := by
  unfold chk at h
  rw [Bool.and_eq_true] at h
  exact rises_srt l h.1

/-- Is each stamp's version at most the other's? -/
def below1 (b : List Stp) (s : Stp) : Bool := match lk b s.1 with | none => false | some y => decide (s.2 ≤ y)

def belowB (a b : List Stp) : Bool := a.all (below1 b)

theorem rdsL_two {w : World} {x y : Value} {a b : List Stp} (e : TypeId) (hx : RdsP w x a) (hy : RdsP w y b) : RdsL (w.alloc (.cells #[x, y] e)) (.slice (some ⟨w.heap.size, 0, none⟩) 2 2) [a, b] := by
  have hb := (Below.refl w.heap.size w).alloc (Nat.le_refl _) (.cells #[x, y] e)
  refine ⟨_, _, _, rfl, rfl, by unfold maxLen; omega, fun i hi => ?_⟩
  have hi2 : i < 2 := by simpa using hi
  match i, hi2 with
  | 0, _ => exact ⟨_, _, x, rfl, by simp, by unfold World.cell? World.alloc; simp, hx.below hb⟩
  | 1, _ => exact ⟨_, _, y, rfl, by simp, by unfold World.cell? World.alloc; simp, hy.below hb⟩

theorem rdsL_one {w : World} {x : Value} {a : List Stp} (e : TypeId) (hx : RdsP w x a) : RdsL (w.alloc (.cells #[x] e)) (.slice (some ⟨w.heap.size, 0, none⟩) 1 1) [a] := by
  have hb := (Below.refl w.heap.size w).alloc (Nat.le_refl _) (.cells #[x] e)
  refine ⟨_, _, _, rfl, rfl, by unfold maxLen; omega, fun i hi => ?_⟩
  have hi2 : i < 1 := by simpa using hi
  match i, hi2 with
  | 0, _ => exact ⟨_, _, x, rfl, by simp, by unfold World.cell? World.alloc; simp, hx.below hb⟩

set_option maxHeartbeats 2000000 in
theorem Below_bad (x y : Value) (a b : List Stp) (w : World) (ha : RdsP w x a) (hb : RdsP w y b) (hc : ([a, b].all chk) = false) :
    Calls Tryd.prog 19 #[x, y] w fun e w' => e = .returned (.tuple #[.bool false, .int .i64 160]) ∧ Below w.heap.size w w' := by
  obtain ⟨xa, xn, xc, hxe⟩ : ∃ a n c, x = .slice a n c := by obtain ⟨a, n, c, h, _⟩ := ha; exact ⟨a, n, c, h⟩
  obtain ⟨ya, yn, yc, hye⟩ : ∃ a n c, y = .slice a n c := by obtain ⟨a, n, c, h, _⟩ := hb; exact ⟨a, n, c, h⟩
  subst hxe hye
  have HC := Lib.hid (Check_any _ _ _ (rdsL_two 24 ha hb) 160 (by rw [hc]; rfl))
  have HBe := Lib.hid ((Below.refl w.heap.size w).alloc (Nat.le_refl _) (.cells #[.slice xa xn xc, .slice ya yn yc] 24))
  clear ha hb hc
  go_enter Tryd.func19, Tryd.ntmps19
  go_wp2_with fail
  refine HC.out.mono ?_
  rintro e w1 ⟨rfl, hb1⟩
  have HB1 := Lib.hid (HBe.out.trans (hb1.mono (by simp)))
  clear hb1
  go_wp2_with fail
  go_ret2
  exact ⟨rfl, HB1.out⟩

set_option maxHeartbeats 2000000 in
theorem BelowR_bad (x y : Value) (a b : List Stp) (w : World) (ha : RdsP w x a) (hb : RdsP w y b) (hc : ([a, b].all chk) = false) :
    Calls Tryd.prog 20 #[x, y] w fun e w' => e = .returned (.tuple #[.bool false, .int .i64 160]) ∧ Below w.heap.size w w' := by
  obtain ⟨xa, xn, xc, hxe⟩ : ∃ a n c, x = .slice a n c := by obtain ⟨a, n, c, h, _⟩ := ha; exact ⟨a, n, c, h⟩
  obtain ⟨ya, yn, yc, hye⟩ : ∃ a n c, y = .slice a n c := by obtain ⟨a, n, c, h, _⟩ := hb; exact ⟨a, n, c, h⟩
  subst hxe hye
  have HC := Lib.hid (CheckR_any _ _ _ (rdsL_two 24 ha hb) 160 (by rw [hc]; rfl))
  have HBe := Lib.hid ((Below.refl w.heap.size w).alloc (Nat.le_refl _) (.cells #[.slice xa xn xc, .slice ya yn yc] 24))
  clear ha hb hc
  go_enter Tryd.func20, Tryd.ntmps20
  go_wp2_with fail
  refine HC.out.mono ?_
  rintro e w1 ⟨rfl, k, rfl⟩
  go_wp2_with fail
  go_ret2
  exact ⟨rfl, below_dN HBe.out k⟩

theorem below_first (a b : List Stp) : ∃ m, m ≤ a.length ∧ (∀ i, i < m → ∀ (h : i < a.length), below1 b a[i] = true) ∧ (∀ (h : m < a.length), below1 b a[m] = false) ∧ belowB a b = decide (m = a.length) := by
  unfold belowB
  induction a with
  | nil => exact ⟨0, Nat.le_refl _, fun i hi => absurd hi (Nat.not_lt_zero i), fun h => absurd h (Nat.lt_irrefl _), rfl⟩
  | cons s r ih =>
    cases hs : below1 b s with
    | false => exact ⟨0, Nat.zero_le _, fun i hi => absurd hi (Nat.not_lt_zero i), fun _ => hs, by simp [hs]⟩
    | true =>
      obtain ⟨m, h0, h1, h2, h3⟩ := ih
      refine ⟨m + 1, by simpa using h0, fun i hi h => ?_, fun h => by simpa using h2 (by simpa using h), by simp [hs, h3]⟩
      cases i with
      | zero => simpa using hs
      | succ i => simpa using h1 i (by omega) (by simpa using h)

set_option maxHeartbeats 2000000 in
theorem Below_go (x y : Value) (a b : List Stp) (w : World) (ha : RdsP w x a) (hb : RdsP w y b) (hc : ([a, b].all chk) = true) (m : Nat) (hm : m ≤ a.length) (h1 : ∀ i, i < m → ∀ (h : i < a.length), below1 b a[i] = true) (h2 : ∀ (h : m < a.length), below1 b a[m] = false) (r : Bool) (hrr : r = decide (m = a.length)) :
    Calls Tryd.prog 19 #[x, y] w fun e w' => e = .returned (.tuple #[.bool r, .int .i64 0]) ∧ Below w.heap.size w w' := by
  have hcb : chk b = true := by simp only [List.all_cons, List.all_nil, Bool.and_true, Bool.and_eq_true] at hc; exact hc.2
  have hca : chk a = true := by simp only [List.all_cons, List.all_nil, Bool.and_true, Bool.and_eq_true] at hc; exact hc.1
  have HAl : Hid (a.length ≤ 256) := srt_len hca
  have HBl : Hid (b.length ≤ 256) := srt_len hcb
  have HSb : Hid (Srt b) := chk_srt hcb
  obtain ⟨xa, xn, xc, rfl, hl, hlm, hel⟩ := id ha
  obtain ⟨ya, yn, yc, rfl, hyl, _, hyel⟩ := id hb
  have HC := Lib.hid (Check_any _ _ _ (rdsL_two 24 ha hb) 0 (by rw [hc]; rfl))
  have HBe := Lib.hid ((Below.refl w.heap.size w).alloc (Nat.le_refl _) (.cells #[.slice xa xn xc, .slice ya yn yc] 24))
  have HY := Lib.hid hb
  have HL := Lib.hid hl
  have HEL := Lib.hid hel
  have HYL := Lib.hid hyl
  have HYE := Lib.hid hyel
  have H1 := Lib.hid h1
  have H2 := Lib.hid h2
  have HQ := Lib.hid hrr
  have hml : m ≤ xn := by omega
  have hxn : xn ≤ 256 := by have := HAl.out; omega
  have hyn : yn ≤ 256 := by have := HBl.out; omega
  clear ha hb hc hl hel hyl hyel h1 h2 hrr hca hcb hlm
  go_enter Tryd.func19, Tryd.ntmps19
  go_wp2_with fail
  refine HC.out.mono ?_
  rintro e w1 ⟨rfl, hb1⟩
  have HB1 := Lib.hid (HBe.out.trans (hb1.mono (by simp)))
  clear hb1
  go_wp2_with fail
  go_loopw [8, 9, 10, 20] (fun _ _ _ k wr => ∃ n : Nat, n ≤ m ∧ k = .int .i64 n ∧ Hid (Below w.heap.size w wr)) (fun _ _ _ k _ => xn - (intOf k).toNat)
  case atStart => exact ⟨0, Nat.zero_le _, rfl, HB1⟩
  case round =>
    obtain ⟨wo, rfl⟩ : ∃ wo : World, wo = wr := ⟨wr, rfl⟩
    obtain ⟨n, hn, rfl, HB⟩ := hrel
    by_cases hlt : n < xn
    · have hn' : n < a.length := by rw [← HL.out]; exact hlt
      obtain ⟨p, off, rfl, hp, hcell, hcell'⟩ := HEL.out n hn'
      have hwb := HB.out.size
      have hc1 : wo.cell? ⟨p, off + n * 2, none⟩ = some (.int .i64 a[n].1) := (HB.out.cell (p := ⟨p, off + n * 2, none⟩) hp).trans hcell
      have hc2 : wo.cell? ⟨p, off + n * 2 + 1, none⟩ = some (.int .u64 a[n].2) := (HB.out.cell (p := ⟨p, off + n * 2 + 1, none⟩) hp).trans hcell'
      clear hcell hcell'
      have J1 : Hid (n < m → below1 b a[n] = true) := fun h => H1.out n h hn'
      have J2 : Hid (n = m → below1 b a[n] = false) := fun h => by subst h; exact H2.out hn'
      generalize a[n] = s at hc1 hc2 J1 J2
      obtain ⟨i, hi⟩ : ∃ i, pos b s.1 = i := ⟨_, rfl⟩
      have HP := Lib.hid (lk_pos b s.1 HSb.out)
      have HB0 := Lib.hid (HB.out.alloc hwb (.cells #[.int .i64 s.1, .int .u64 s.2] 43))
      have hnw : (wo.alloc (.cells #[.int .i64 s.1, .int .u64 s.2] 43)).cell? ⟨wo.heap.size, 0, none⟩ = some (.int .i64 s.1) := by unfold World.cell? World.alloc; simp
      have hnw2 : (wo.alloc (.cells #[.int .i64 s.1, .int .u64 s.2] 43)).cell? ⟨wo.heap.size, 1, none⟩ = some (.int .u64 s.2) := by unfold World.cell? World.alloc; simp
      cases hk : lk b s.1 with
      | none =>
        have HF := Lib.hid (fun W (h : RdsP W (.slice ya yn yc) b) => find_any _ b s.1 W h HSb.out (by have := HBl.out; omega) i hi false (by rw [hk]; rfl))
        have hnm : Hid (n = m) := by
          show n = m
          rcases Nat.lt_or_ge n m with h | h
          · have := J1.out h
            unfold below1 at this
            rw [hk] at this
            cases this
          · omega
        clear hk hi
        go_wp2_with fail
        refine (HF.out _ (HY.out.below HB0.out)).mono ?_
        rintro e w2 ⟨rfl, hb2⟩
        have HB2 := Lib.hid (HB0.out.trans (hb2.mono HB0.out.size))
        clear hb2
        go_wp2_with fail
        go_quiet (fail)
        go_wp2_with fail
        go_ret2
        refine ⟨?_, below_dN HB2.out nq⟩
        rw [HQ.out, decide_eq_false (by have := hnm.out; have := HL.out; omega)]
        rfl
      | some z =>
        have HF := Lib.hid (fun W (h : RdsP W (.slice ya yn yc) b) => find_any _ b s.1 W h HSb.out (by have := HBl.out; omega) i hi true (by rw [hk]; rfl))
        have hib : i < b.length ∧ ∀ h : i < b.length, b[i].2 = z := by
          have h1 := HP.out
          rw [hk] at h1
          simp only [hi] at h1
          split at h1
          · rename_i h2
            refine ⟨h2, fun _ => ?_⟩
            split at h1
            · injection h1 with h1; exact h1.symm
            · cases h1
          · cases h1
        obtain ⟨hib1, hib2⟩ := hib
        obtain ⟨q, qo, rfl, hq, hy1, hy2⟩ := HYE.out i hib1
        rw [hib2 hib1] at hy2
        have hin : i < yn := by rw [HYL.out]; exact hib1
        have HK : Hid (below1 b s = decide (s.2 ≤ z)) := by show below1 b s = _; unfold below1; rw [hk]
        clear hk hi hib2 hib1 hy1
        by_cases hzs : z < s.2
        · have hnm : Hid (n = m) := by
            show n = m
            rcases Nat.lt_or_ge n m with h | h
            · have := J1.out h
              rw [HK.out] at this
              have := of_decide_eq_true this
              omega
            · omega
          go_wp2_with fail
          refine (HF.out _ (HY.out.below HB0.out)).mono ?_
          rintro e w2 ⟨rfl, hb2⟩
          have hs2 : w2.cell? ⟨wo.heap.size, 1, none⟩ = some (.int .u64 s.2) := (hb2.cell (p := ⟨wo.heap.size, 1, none⟩) (by simp)).trans hnw2
          have HB2 := Lib.hid (HB0.out.trans (hb2.mono HB0.out.size))
          have hz2 : w2.cell? ⟨q, qo + i * 2 + 1, none⟩ = some (.int .u64 z) := (HB2.out.cell (p := ⟨q, qo + i * 2 + 1, none⟩) hq).trans hy2
          clear hb2 hnw hnw2 hc1 hc2 hy2
          go_wp2_with fail
          go_quiet (fail)
          go_wp2_with fail
          go_ret2
          refine ⟨?_, below_dN HB2.out nq⟩
          rw [HQ.out, decide_eq_false (by have := hnm.out; have := HL.out; omega)]
          rfl
        · have hnm : Hid (n < m) := by
            show n < m
            rcases Nat.lt_or_ge n m with h | h
            · exact h
            · have := J2.out (by omega)
              rw [HK.out] at this
              have := of_decide_eq_false this
              omega
          go_wp2_with fail
          refine (HF.out _ (HY.out.below HB0.out)).mono ?_
          rintro e w2 ⟨rfl, hb2⟩
          have hs2 : w2.cell? ⟨wo.heap.size, 1, none⟩ = some (.int .u64 s.2) := (hb2.cell (p := ⟨wo.heap.size, 1, none⟩) (by simp)).trans hnw2
          have HB2 := Lib.hid (HB0.out.trans (hb2.mono HB0.out.size))
          have hz2 : w2.cell? ⟨q, qo + i * 2 + 1, none⟩ = some (.int .u64 z) := (HB2.out.cell (p := ⟨q, qo + i * 2 + 1, none⟩) hq).trans hy2
          clear hb2 hnw hnw2 hc1 hc2 hy2
          go_wp2_with fail
          go_quiet (fail)
          go_wp2_with fail
          go_roundw
          case rel => exact ⟨n + 1, by have := hnm.out; omega, by go_num, below_dN HB2.out nq⟩
          case measure => simp [intOf]; omega
    · go_wp2_with fail
      go_ret2
      refine ⟨?_, HB.out⟩
      rw [HQ.out, decide_eq_true (by have := HL.out; omega)]
      rfl
end Go.Proofs.YtlmpaeefhpahoaaDoor
