/-
  Walks: the reference's Below; both Belows in one word each.
-/
import Derived.Test.YtlmpaeefhpahoaaDoorVecH
namespace Go.Proofs.YtlmpaeefhpahoaaDoor
open Go.RowKit

set_option maxHeartbeats 2000000 in
theorem BelowR_go (x y : Value) (a b : List Stp) (w : World) (ha : RdsP w x a) (hb : RdsP w y b) (hc : ([a, b].all chk) = true) (m : Nat) (hm : m ≤ a.length) (h1 : ∀ i, i < m → ∀ (h : i < a.length), below1 b a[i] = true) (h2 : ∀ (h : m < a.length), below1 b a[m] = false) (r : Bool) (hrr : r = decide (m = a.length)) :
    Calls Tryd.prog 20 #[x, y] w fun e w' => e = .returned (.tuple #[.bool r, .int .i64 0]) ∧ Below w.heap.size w w' := by
  have hca : chk a = true := by simp only [List.all_cons, List.all_nil, Bool.and_true, Bool.and_eq_true] at hc; exact hc.1
  have HAl : Hid (a.length ≤ 256) := srt_len hca
  obtain ⟨xa, xn, xc, rfl, hl, hlm, hel⟩ := id ha
  obtain ⟨ya, yn, yc, rfl, hyl, _, hyel⟩ := id hb
  have HC := Lib.hid (CheckR_any _ _ _ (rdsL_two 24 ha hb) 0 (by rw [hc]; rfl))
  have HBe := Lib.hid ((Below.refl w.heap.size w).alloc (Nat.le_refl _) (.cells #[.slice xa xn xc, .slice ya yn yc] 24))
  have HY := Lib.hid hb
  have HL := Lib.hid hl
  have HEL := Lib.hid hel
  have H1 := Lib.hid h1
  have H2 := Lib.hid h2
  have HQ := Lib.hid hrr
  have hml : m ≤ xn := by omega
  have hxn : xn ≤ 256 := by have := HAl.out; omega
  clear ha hb hc hl hel hyl hyel h1 h2 hrr hca hlm
  go_enter Tryd.func20, Tryd.ntmps20
  go_wp2_with fail
  refine HC.out.mono ?_
  rintro e w1 ⟨rfl, k1, hw1⟩
  have HB1 := Lib.hid (below_dN HBe.out k1)
  rw [← hw1] at HB1
  clear hw1
  go_wp2_with fail
  go_loopw [7, 8, 9] (fun k _ _ wr => ∃ n : Nat, n ≤ m ∧ k = .int .i64 n ∧ Hid (Below w.heap.size w wr)) (fun k _ _ _ => xn - (intOf k).toNat)
  case atStart => exact ⟨0, Nat.zero_le _, rfl, HB1⟩
  case round =>
    obtain ⟨wo, rfl⟩ : ∃ wo : World, wo = wr := ⟨wr, rfl⟩
    obtain ⟨n, hn, rfl, HB⟩ := hrel
    by_cases hlt : n < xn
    · have hn' : n < a.length := by rw [← HL.out]; exact hlt
      obtain ⟨p, off, rfl, hp, hcell, hcell'⟩ := HEL.out n hn'
      have hc1 : wo.cell? ⟨p, off + n * 2, none⟩ = some (.int .i64 a[n].1) := (HB.out.cell (p := ⟨p, off + n * 2, none⟩) hp).trans hcell
      have hc2 : wo.cell? ⟨p, off + n * 2 + 1, none⟩ = some (.int .u64 a[n].2) := (HB.out.cell (p := ⟨p, off + n * 2 + 1, none⟩) hp).trans hcell'
      clear hcell hcell'
      have J1 : Hid (n < m → below1 b a[n] = true) := fun h => H1.out n h hn'
      have J2 : Hid (n = m → below1 b a[n] = false) := fun h => by subst h; exact H2.out hn'
      generalize a[n] = s at hc1 hc2 J1 J2
      cases hk : lk b s.1 with
      | none =>
        have HF := Lib.hid (findR_any _ b s.1 wo (HY.out.below HB.out) 0 false (by rw [hk]; rfl) (by rw [hk]; rfl))
        have hnm : Hid (n = m) := by
          show n = m
          rcases Nat.lt_or_ge n m with h | h
          · have := J1.out h
            unfold below1 at this
            rw [hk] at this
            cases this
          · omega
        clear hk
        go_wp2_with fail
        refine HF.out.mono ?_
        rintro e w2 ⟨rfl, rfl⟩
        go_wp2_with fail
        go_ret2
        refine ⟨?_, HB.out⟩
        rw [HQ.out, decide_eq_false (by have := hnm.out; have := HL.out; omega)]
        rfl
      | some z =>
        have HF := Lib.hid (findR_any _ b s.1 wo (HY.out.below HB.out) z true (by rw [hk]; rfl) (by rw [hk]; rfl))
        have HK : Hid (below1 b s = decide (s.2 ≤ z)) := by show below1 b s = _; unfold below1; rw [hk]
        clear hk
        by_cases hzs : z < s.2
        · have hnm : Hid (n = m) := by
            show n = m
            rcases Nat.lt_or_ge n m with h | h
            · have := J1.out h
              rw [HK.out] at this
              have := of_decide_eq_true this
              omega
            · omega
          go_wp2_with fail
          refine HF.out.mono ?_
          rintro e w2 ⟨rfl, rfl⟩
          go_wp2_with fail
          go_ret2
          refine ⟨?_, HB.out⟩
          rw [HQ.out, decide_eq_false (by have := hnm.out; have := HL.out; omega)]
          rfl
        · have hnm : Hid (n < m) := by
            show n < m
            rcases Nat.lt_or_ge n m with h | h
            · exact h
            · have := J2.out (by omega)
              rw [HK.out] at this
              have := of_decide_eq_false this
              omega
          go_wp2_with fail
          refine HF.out.mono ?_
          rintro e w2 ⟨rfl, rfl⟩
          go_wp2_with fail
          go_roundw
          case rel => exact ⟨n + 1, by have := hnm.out; omega, by go_num, HB⟩
          case measure => simp [intOf]; omega
    · go_wp2_with fail
      go_ret2
      refine ⟨?_, HB.out⟩
      rw [HQ.out, decide_eq_true (by have := HL.out; omega)]
      rfl

/-- What Below answers. -/
def belowV (a b : List Stp) : Value := if [a, b].all chk then .tuple #[.bool (belowB a b), .int .i64 0] else .tuple #[.bool false, .int .i64 160]

theorem Below_any (x y : Value) (a b : List Stp) (w : World) (ha : RdsP w x a) (hb : RdsP w y b) :
    Calls Tryd.prog 19 #[x, y] w fun e w' => e = .returned (belowV a b) ∧ Below w.heap.size w w' := by
  unfold belowV
  cases hc : [a, b].all chk with
  | false => exact Below_bad x y a b w ha hb hc
  | true =>
    obtain ⟨m, h0, h1, h2, h3⟩ := below_first a b
    exact Below_go x y a b w ha hb hc m h0 h1 h2 (belowB a b) h3

theorem BelowR_any (x y : Value) (a b : List Stp) (w : World) (ha : RdsP w x a) (hb : RdsP w y b) :
    Calls Tryd.prog 20 #[x, y] w fun e w' => e = .returned (belowV a b) ∧ Below w.heap.size w w' := by
  unfold belowV
  cases hc : [a, b].all chk with
  | false => exact BelowR_bad x y a b w ha hb hc
  | true =>
    obtain ⟨m, h0, h1, h2, h3⟩ := below_first a b
    exact BelowR_go x y a b w ha hb hc m h0 h1 h2 (belowB a b) h3
end Go.Proofs.YtlmpaeefhpahoaaDoor
