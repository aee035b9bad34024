/-
  Walks: Text of the reference; Text in one form.
-/
import Derived.Test.YtlmpaeefhpahoaaDoorVecTE
namespace Go.Proofs.YtlmpaeefhpahoaaDoor
open Go.RowKit

theorem stS_data (d x : Nat) : (stS d x).data.toList = Tx.stB (d, x) := by
  unfold stS Tx.stB dig
  simp [ByteArray.data_append]

theorem join_snoc (sep : List UInt8) : ∀ (xs : List (List UInt8)) (y : List UInt8), xs ≠ [] → Lib.join (xs ++ [y]) sep = Lib.join xs sep ++ sep ++ y
  | [], _, h => absurd rfl h
  | x :: r, y, _ => by
    rw [List.cons_append, Lib.join_cons, Lib.join_cons]
    simp [Lib.joinTail]

theorem stB_len {x : Nat × Nat} (h1 : x.1 < 256) (h2 : x.2 < 18446744073709551616) : (Tx.stB x).length ≤ 41 := by
  unfold Tx.stB
  have := Tx.digits_len x.1 (by omega)
  have := Tx.digits_len x.2 h2
  simp
  omega

theorem ba_ext {a b : ByteArray} (h : a.data.toList = b.data.toList) : a = b := by
  cases a; cases b
  simp only at h
  congr 1
  exact Array.toList_inj.1 h

theorem ba_size (a : ByteArray) : a.size = a.data.toList.length := by simp

set_option maxHeartbeats 1600000 in
set_option maxRecDepth 20000 in
theorem TextR_go (v : Value) (l : List (Nat × Nat)) (w : World) (htab : Tab10 w) (hr : RdsP w v (l.map fun s => ((s.1 : Int), (s.2 : Int)))) (hc : chk (l.map fun s => ((s.1 : Int), (s.2 : Int))) = true) (h0 : 0 < l.length)
    (hd : ∀ s ∈ l, s.1 < 256 ∧ s.2 < 18446744073709551616) (T : ByteArray) (hT : T.data.toList = Lib.join (l.map Tx.stB) [32]) :
    Calls Tryd.prog 27 #[v] w fun e w' => e = .returned (.tuple #[.string T, .int .i64 0]) ∧ Below w.heap.size w w' := by
  have HTab := Lib.hid htab
  have HC := Lib.hid (CheckR_any _ _ _ (rdsL_one 24 hr) 0 (by simp [hc, codeOf]))
  have hll : l.length ≤ 256 := by have := srt_len hc; simpa using this
  obtain ⟨ad, len, cap, rfl, hl, hlm, hel⟩ := hr
  rw [List.length_map] at hl
  have HBe := Lib.hid ((Below.refl w.heap.size w).alloc (Nat.le_refl _) (.cells #[.slice ad len cap] 24))
  have hle : len ≤ 256 := by omega
  have hl0 : 0 < len := by omega
  have hl1 : ¬ ((len : Int) = 0) := by omega
  have hl2 : ¬ (len = 0) := by omega
  have hl3 : ((len : Int) == 0) = false := by simpa using hl2
  have HL := Lib.hid hl
  have HEL := Lib.hid hel
  have HD := Lib.hid hd
  have HT := Lib.hid hT
  clear htab hc hl hel hd hT hlm h0 hll
  go_enter Tryd.func27, Tryd.ntmps27
  go_wp2_with fail
  refine HC.out.mono ?_
  rintro e w1 ⟨rfl, k, rfl⟩
  have HB1 := Lib.hid (below_dN HBe.out k)
  go_wp2_with fail
  go_loopw [5, 6] (fun o k wr => ∃ n : Nat, ∃ S : ByteArray, n ≤ len ∧ k = .int .i64 n ∧ o = .string S ∧ S.size ≤ n * 42 ∧ Hid (S.data.toList = Lib.join ((l.take n).map Tx.stB) [32]) ∧ Hid (Below w.heap.size w wr)) (fun _ k _ => len - (intOf k).toNat)
  case atStart => exact ⟨0, ⟨#[]⟩, Nat.zero_le _, rfl, rfl, Nat.le_refl _, rfl, HB1⟩
  case round =>
    obtain ⟨wo, rfl⟩ : ∃ wo : World, wo = wr := ⟨wr, rfl⟩
    obtain ⟨n, S, hn, rfl, rfl, hS, HS, HB⟩ := hrel
    by_cases hlt : n < len
    · have hn' : n < l.length := by rw [← HL.out]; exact hlt
      obtain ⟨b, off, rfl, hb, hcell, hcell'⟩ := HEL.out n (by simpa using hn')
      simp only [List.getElem_map] at hcell hcell'
      have hwb := HB.out.size
      have HC1 : Hid (∀ W, Below w.heap.size w W → W.cell? ⟨b, off + n * 2, none⟩ = some (.int .i64 l[n].1)) := fun W h => (h.cell (p := ⟨b, off + n * 2, none⟩) hb).trans hcell
      have HC2 : Hid (∀ W, Below w.heap.size w W → W.cell? ⟨b, off + n * 2 + 1, none⟩ = some (.int .u64 l[n].2)) := fun W h => (h.cell (p := ⟨b, off + n * 2 + 1, none⟩) hb).trans hcell'
      have hsd := HD.out _ (List.getElem_mem hn')
      have HTk : Hid ((l.take (n + 1)).map Tx.stB = (l.take n).map Tx.stB ++ [Tx.stB l[n]]) := by
        show _ = _
        rw [List.take_succ_eq_append_getElem hn', List.map_append]
        rfl
      clear hcell hcell'
      generalize l[n] = s at HC1 HC2 hsd HTk
      have hc1 := HC1.out _ HB.out
      have hc2 := HC2.out _ HB.out
      have HX := Lib.hid (fun W (h : Below w.heap.size w W) => stamp_any s.1 s.2 hsd.1 hsd.2 W (tab10_below HTab.out h))
      have hlen : (stS s.1 s.2).size ≤ 41 := by rw [ba_size, stS_data]; exact stB_len hsd.1 hsd.2
      have HSt := Lib.hid (stS_data s.1 s.2)
      clear hsd
      generalize stS s.1 s.2 = P at HX hlen HSt
      cases n with
      | zero =>
        simp only [Nat.zero_mul, Nat.add_zero] at hc1 hc2
        have hS0 : S.size = 0 := by omega
        have HN : Hid ((S ++ P).data.toList = Lib.join ((l.take (0 + 1)).map Tx.stB) [32]) := by
          show _ = _
          have e : S = ⟨#[]⟩ := ba_ext (by have := HS.out; rw [this]; rfl)
          rw [HTk.out, e]
          simp [Lib.join_one, HSt.out]
        have k1 : ¬ (9223372036854775807 < S.size + P.size) := by omega
        go_wp2_with fail
        refine (HX.out _ HB.out).mono ?_
        rintro e w2 ⟨rfl, hb2⟩
        have HB2 := Lib.hid (HB.out.trans (hb2.mono HB.out.size))
        clear hb2
        go_wp2_with fail
        go_roundw
        case rel => exact ⟨1, S ++ P, by omega, by go_num, rfl, by rw [ByteArray.size_append]; omega, HN, HB2⟩
        case measure => simp [intOf]; omega
      | succ n =>
        have HN : Hid ((S ++ ⟨#[32]⟩ ++ P).data.toList = Lib.join ((l.take (n + 1 + 1)).map Tx.stB) [32]) := by
          show _ = _
          rw [HTk.out, join_snoc _ _ _ (by
            intro e
            have := congrArg List.length e
            rw [List.length_map, List.length_take, List.length_nil] at this
            omega), ← HS.out, ByteArray.data_append, ByteArray.data_append]
          simp [HSt.out]
        have k1 : ¬ (9223372036854775807 < S.size + 1) := by omega
        have k2 : ¬ (9223372036854775807 < S.size + 1 + P.size) := by omega
        have hi0 : (0 : Int) < (n : Int) + 1 := by omega
        have hi1 : (n : Int) + 1 < len := by omega
        have hi2 : (0 : Int) ≤ (n : Int) + 1 := by omega
        have hi3 : ((n : Int) + 1).toNat = n + 1 := by omega
        go_wp2_with fail
        refine (HX.out _ HB.out).mono ?_
        rintro e w2 ⟨rfl, hb2⟩
        have HB2 := Lib.hid (HB.out.trans (hb2.mono HB.out.size))
        clear hb2
        go_wp2_with fail
        go_roundw
        case rel => exact ⟨n + 1 + 1, S ++ ⟨#[32]⟩ ++ P, by omega, by go_num, rfl, by rw [ByteArray.size_append, ByteArray.size_append]; show S.size + 1 + P.size ≤ _; omega, HN, HB2⟩
        case measure => simp [intOf]; omega
    · go_wp2_with fail
      first | go_ret2 | skip
      have : S = T := ba_ext (by rw [HS.out, HT.out, List.take_of_length_le (by have := HL.out; omega)])
      subst this
      exact ⟨rfl, HB.out⟩
end Go.Proofs.YtlmpaeefhpahoaaDoor
