/-
  Walks: Text of vectors of any numbers.
-/
import Derived.Test.YtlmpaeefhpahoaaDoorVecTB
import Derived.Test.YtlmpaeefhpahoaaDoorVecTC
namespace Go.Proofs.YtlmpaeefhpahoaaDoor
open Go.RowKit

set_option maxHeartbeats 1600000 in
set_option maxRecDepth 20000 in
theorem Text_go (v : Value) (l : List (Nat × Nat)) (w : World) (htab : Tab10 w) (hr : RdsP w v (l.map fun s => ((s.1 : Int), (s.2 : Int)))) (hc : chk (l.map fun s => ((s.1 : Int), (s.2 : Int))) = true) (h0 : 0 < l.length)
    (hd : ∀ s ∈ l, s.1 < 256 ∧ s.2 < 18446744073709551616) (T : ByteArray) (hT : T = ⟨(Lib.join ((l.map tx).map (·.data.toList)) [32]).toArray⟩) (hTl : (Lib.join ((l.map tx).map (·.data.toList)) [32]).length ≤ 140737488355328) :
    Calls Tryd.prog 26 #[v] w fun e w' => e = .returned (.tuple #[.string T, .int .i64 0]) ∧ Below w.heap.size w w' := by
  have HTab := Lib.hid htab
  clear htab
  have HC := Lib.hid (Check_any _ _ _ (rdsL_one 24 hr) 0 (by simp [hc, codeOf]))
  have hll : l.length ≤ 256 := by have := srt_len hc; simpa using this
  obtain ⟨ad, len, cap, rfl, hl, hlm, hel⟩ := hr
  rw [List.length_map] at hl
  have HBe := Lib.hid ((Below.refl w.heap.size w).alloc (Nat.le_refl _) (.cells #[.slice ad len cap] 24))
  have hle : len ≤ 256 := by omega
  have hl0 : 0 < len := by omega
  have hl1 : ¬ ((len : Int) = 0) := by omega
  have hl2 : ¬ (len = 0) := by omega
  have hl3 : ((len : Int) == 0) = false := by simpa using hl2
  have HL := Lib.hid hl
  have HEL := Lib.hid hel
  have HD := Lib.hid hd
  have HT := Lib.hid hT
  have HTl := Lib.hid hTl
  clear hc hl hel hd hT hTl hlm h0 hll
  obtain ⟨i0, hi0, hz0, hz1, hz2⟩ := info_parts infoStr
  have HI0 := Lib.hid hi0
  have HZ0 := Lib.hid hz0
  have HZ1 := Lib.hid hz1
  have HZ2 := Lib.hid hz2
  clear hi0 hz0 hz1 hz2
  go_enter Tryd.func26, Tryd.ntmps26
  go_wp2_with fail
  refine HC.out.mono ?_
  rintro e w1 ⟨rfl, hb1⟩
  have HB1 := Lib.hid (HBe.out.trans (hb1.mono (by simp)))
  clear hb1
  go_wp2_with fail
  go_loopw [5, 19] (fun o k wr => ∃ n : Nat, ∃ oa oc, n ≤ len ∧ k = .int .i64 n ∧ o = .slice oa n oc ∧ Hid (wr.ownsRow w.heap.size 9 1 (.slice oa n oc) n ((l.take n).map fun s => .string (tx s))) ∧ Hid (Below w.heap.size w wr)) (fun _ k _ => len - (intOf k).toNat)
  case atStart => exact ⟨0, none, 0, Nat.zero_le _, rfl, rfl, World.ownsRow_nil _ _ _ _, HB1⟩
  case round =>
    obtain ⟨wo, rfl⟩ : ∃ wo : World, wo = wr := ⟨wr, rfl⟩
    obtain ⟨n, oa, oc, hn, rfl, rfl, HO, HB⟩ := hrel
    by_cases hlt : n < len
    · have hn' : n < l.length := by rw [← HL.out]; exact hlt
      obtain ⟨b, off, rfl, hb, hcell, hcell'⟩ := HEL.out n (by simpa using hn')
      simp only [List.getElem_map] at hcell hcell'
      have hwb := HB.out.size
      have hc1 : wo.cell? ⟨b, off + n * 2, none⟩ = some (.int .i64 l[n].1) := (HB.out.cell (p := ⟨b, off + n * 2, none⟩) hb).trans hcell
      have hc2 : wo.cell? ⟨b, off + n * 2 + 1, none⟩ = some (.int .u64 l[n].2) := (HB.out.cell (p := ⟨b, off + n * 2 + 1, none⟩) hb).trans hcell'
      have hsd := HD.out _ (List.getElem_mem hn')
      have HTk : Hid (((l.take (n + 1)).map fun s => Value.string (tx s)) = ((l.take n).map fun s => Value.string (tx s)) ++ [.string (tx l[n])]) := by
        show _ = _
        rw [List.take_succ_eq_append_getElem hn', List.map_append]
        rfl
      clear hcell hcell'
      generalize l[n] = s at hc1 hc2 hsd HTk
      have HX := Lib.hid (fun W (h : Below w.heap.size w W) => text_any s.1 s.2 hsd.1 hsd.2 W (tab10_below HTab.out h))
      clear hsd
      have HB0 := Lib.hid (HB.out.alloc hwb (.cells #[.int .i64 s.1, .int .u64 s.2] 43))
      have HO0 := Lib.hid (HO.out.alloc (.cells #[.int .i64 s.1, .int .u64 s.2] 43))
      have hnw : (wo.alloc (.cells #[.int .i64 s.1, .int .u64 s.2] 43)).cell? ⟨wo.heap.size, 0, none⟩ = some (.int .i64 s.1) := by unfold World.cell? World.alloc; simp
      have hnw2 : (wo.alloc (.cells #[.int .i64 s.1, .int .u64 s.2] 43)).cell? ⟨wo.heap.size, 1, none⟩ = some (.int .u64 s.2) := by unfold World.cell? World.alloc; simp
      go_wp2_with fail
      refine (HX.out _ HB0.out).mono ?_
      rintro e w2 ⟨rfl, hb2⟩
      have HB2 := Lib.hid (HB0.out.trans (hb2.mono HB0.out.size))
      have HO2 := Lib.hid ((ownsSt_below HO0.out hb2).alloc (.cells #[.string (tx s)] 9))
      have HB3 := Lib.hid (HB2.out.alloc HB2.out.size (.cells #[.string (tx s)] 9))
      have HNc : Hid ((w2.alloc (.cells #[.string (tx s)] 9)).cell? ⟨w2.heap.size, 0, none⟩ = some (.string (tx s))) := by show World.cell? _ _ = _; unfold World.cell? World.alloc; simp
      have HTx : Hid (stS s.1 s.2 = tx s) := rfl
      rw [HTx.out]
      clear hb2 hnw hnw2 hc1 hc2
      go_wp2_with (at_builtin; go_loud (refine wpList_append_own _ rfl (.tmp 23) (.tmp 26) 68 rfl w.heap.size 9 i0 _ 1 16 Tryd.underlying68 HI0.out HZ0.out HZ1.out HZ2.out rfl (by decide) (.slice oa n oc) n ((l.take n).map fun s => .string (tx s)) rfl HO2.out ⟨w2.heap.size, 0, none⟩ 1 1 [.string (tx s)] rfl rfl (newsV_at HNc.out) (by intro u hu; simp at hu; subst hu; rfl) (by unfold maxLen; omega) (by omega) (by have := HB3.out.size; exact this) ?_); intro v' w4 hown4 hgr4 _; obtain ⟨oa4, oc4, rfl, _, _⟩ := ownsSt_form hown4; have HO4 := Lib.hid hown4; have HG4 := Lib.hid hgr4; clear hown4 hgr4)
      go_roundw
      case rel => exact ⟨n + 1, oa4, oc4, by omega, by go_num, rfl, (by show World.ownsRow _ _ _ _ _ _ _; rw [HTk.out]; exact HO4.out), HB3.out.grown HG4.out HB3.out.size (fun j hj => (HO2.out.lt _ hj).1)⟩
      case measure => simp [intOf]; omega
    · obtain rfl : n = len := by omega
      obtain ⟨g, hoa, hcap⟩ : ∃ g, oa = some ⟨g, 0, none⟩ ∧ n ≤ oc := by
        rcases HO.out.2 with ⟨_, h2⟩ | ⟨g, _, _, h, _, _, h3, _⟩
        · omega
        · injection h with h4 h5 h6
          exact ⟨g, h4, by omega⟩
      subst hoa
      have hlx : (l.map tx).length = n := by rw [List.length_map]; exact HL.out.symm
      have HJ := Tryd.strings_Join g 0 oc (l.map tx) ⟨#[32]⟩ wo (fun j x hj => by
          have h5 := HO.out.cellAt j (by rw [Nat.mul_one, ← hlx]; exact (List.getElem?_eq_some_iff.1 hj).1)
          rw [Nat.zero_add, h5, List.take_of_length_le (by have := HL.out; omega)]
          rw [List.getElem?_map] at hj ⊢
          cases hq : l[j]? with
          | none => rw [hq] at hj; cases hj
          | some y => rw [hq] at hj; simp at hj ⊢; exact hj) (HO.out.lt g rfl).2 (by omega) (by omega) HTl.out
      rw [hlx] at HJ
      have HJ' := Lib.hid HJ
      clear HJ hlx
      have HTT : Hid (T = ⟨(Lib.join ((l.map tx).map (·.data.toList)) (⟨#[32]⟩ : ByteArray).data.toList).toArray⟩) := HT.out
      rw [← HTT.out] at HJ'
      go_wp2_with fail
      refine HJ'.out.mono ?_
      rintro e w5 ⟨rfl, hb5⟩
      have HB5 := Lib.hid (HB.out.trans (hb5.mono HB.out.size))
      clear hb5
      go_wp2_with fail
      go_ret2
      exact ⟨rfl, HB5.out⟩

end Go.Proofs.YtlmpaeefhpahoaaDoor
