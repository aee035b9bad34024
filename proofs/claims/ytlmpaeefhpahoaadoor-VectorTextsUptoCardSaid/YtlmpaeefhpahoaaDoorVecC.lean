/-
  Walks: rises.
-/
import Derived.Test.YtlmpaeefhpahoaaDoorVecB
namespace Go.Proofs.YtlmpaeefhpahoaaDoor
open Go.RowKit

set_option maxHeartbeats 800000 in
theorem rises_go (v : Value) (l : List Stp) (w : World) (hr : RdsP w v l) (m : Nat) (hm : m ≤ l.length) (h1 : ∀ i, i < m → ∀ (h : i + 1 < l.length), l[i].1 < l[i + 1].1) (h2 : ∀ (h : m + 1 < l.length), l[m + 1].1 ≤ l[m].1) (hm0 : m + 1 < l.length ∨ m = l.length) (r : Bool) (hrr : r = decide (m = l.length)) :
    Calls Tryd.prog 33 #[v, .func (.func 34) #[] #[]] w fun e w' => e = .returned (.bool r) ∧ Below w.heap.size w w' := by
  obtain ⟨ad, len, cap, rfl, hl, hlm, hel⟩ := hr
  have HL := Lib.hid hl
  have HEL := Lib.hid hel
  have H1 := Lib.hid h1
  have H2 := Lib.hid h2
  have HQ := Lib.hid hrr
  have HM := Lib.hid hm0
  have hml : m ≤ len := by omega
  unfold maxLen at hlm
  clear hl hel h1 h2 hrr hm0
  go_enter Tryd.func33, Tryd.ntmps33
  go_wp2_with fail
  go_loopw [5] (fun k wr => ∃ n : Nat, n ≤ m ∧ k = .int .i64 (n + 1) ∧ Hid (Below w.heap.size w wr)) (fun k _ => len - (intOf k).toNat)
  case atStart => exact ⟨0, Nat.zero_le _, rfl, Below.refl _ _⟩
  case round =>
    obtain ⟨wo, rfl⟩ : ∃ wo : World, wo = wr := ⟨wr, rfl⟩
    obtain ⟨n, hn, rfl, HB⟩ := hrel
    by_cases hlt : n + 1 < len
    · have hq2 : IntKind.i64.wrap (n : Int) = n := IntWalk.i64_in _ (by omega)
      have hnl : n < len := by omega
      have hi1 : (n : Int) + 1 < len := by omega
      have hi2 : 0 ≤ (n : Int) + 1 := by omega
      have hi3 : ((n : Int) + 1).toNat = n + 1 := by omega
      have hn' : n + 1 < l.length := by rw [← HL.out]; exact hlt
      obtain ⟨b, off, rfl, hb, hcell, hcell'⟩ := HEL.out n (by omega)
      obtain ⟨b', off', hbb, _, hcell2, hcell2'⟩ := HEL.out (n + 1) hn'
      obtain ⟨rfl, rfl⟩ : b = b' ∧ off = off' := by simpa using hbb
      have hwb := HB.out.size
      have hbw : b < wo.heap.size := Nat.lt_of_lt_of_le hb hwb
      have HS : Hid (l[n + 1].1 ≤ l[n].1 ∨ l[n].1 < l[n + 1].1) := by show _ ∨ _; omega
      have H1n : Hid (n < m → l[n].1 < l[n + 1].1) := fun h => H1.out n h hn'
      have H2n : Hid (n = m → l[n + 1].1 ≤ l[n].1) := fun h => by subst h; exact H2.out hn'
      generalize l[n] = s at hcell hcell' HS H1n H2n
      generalize l[n + 1] = t at hcell2 hcell2' HS H1n H2n
      have hc1 : ∀ q os, (Sort.grow (wo.drewN q) os).cell? ⟨b, off + n * 2, none⟩ = some (.int .i64 s.1) := cell_grown (a := ⟨b, off + n * 2, none⟩) hbw ((HB.out.cell (p := ⟨b, off + n * 2, none⟩) hb).trans hcell)
      have hc2 : ∀ q os, (Sort.grow (wo.drewN q) os).cell? ⟨b, off + n * 2 + 1, none⟩ = some (.int .u64 s.2) := cell_grown (a := ⟨b, off + n * 2 + 1, none⟩) hbw ((HB.out.cell (p := ⟨b, off + n * 2 + 1, none⟩) hb).trans hcell')
      have hc3 : ∀ q os, (Sort.grow (wo.drewN q) os).cell? ⟨b, off + (n + 1) * 2, none⟩ = some (.int .i64 t.1) := cell_grown (a := ⟨b, off + (n + 1) * 2, none⟩) hbw ((HB.out.cell (p := ⟨b, off + (n + 1) * 2, none⟩) hb).trans hcell2)
      have hc4 : ∀ q os, (Sort.grow (wo.drewN q) os).cell? ⟨b, off + (n + 1) * 2 + 1, none⟩ = some (.int .u64 t.2) := cell_grown (a := ⟨b, off + (n + 1) * 2 + 1, none⟩) hbw ((HB.out.cell (p := ⟨b, off + (n + 1) * 2 + 1, none⟩) hb).trans hcell2')
      clear hcell hcell' hcell2 hcell2' hbb
      have hmx := mixed
      have HD := Lib.hid (fun s W => device_any s W)
      unfold stv at HD
      by_cases hnm : n < m
      · have hlt2 : s.1 < t.1 := H1n.out hnm
        go_wp2_with fail
        go_quiet_grown (refine Calls.grown_of (HD.out _ _))
        go_wp2_with fail
        go_roundw
        case rel => exact ⟨n + 1, by omega, by go_num, HB.out.trans ((below_grow _ _ _).mono hwb)⟩
        case measure => simp [intOf]; omega
      · obtain rfl : n = m := by omega
        have hlt2 : t.1 ≤ s.1 := H2n.out rfl
        go_wp2_with fail
        go_quiet_grown (refine Calls.grown_of (HD.out _ _))
        go_wp2_with fail
        go_ret
        refine ⟨?_, HB.out.trans ((below_grow _ _ _).mono hwb)⟩
        rw [HQ.out]
        exact ret_bool (by have := HL.out; simp; omega)
    · go_wp2_with fail
      go_ret
      refine ⟨?_, HB.out⟩
      have := HM.out
      have := HL.out
      rw [HQ.out]
      exact ret_bool (by simp; omega)
end Go.Proofs.YtlmpaeefhpahoaaDoor
