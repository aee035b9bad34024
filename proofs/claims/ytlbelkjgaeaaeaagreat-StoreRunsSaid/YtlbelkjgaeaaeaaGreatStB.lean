/-
  Walks: slices.SortStableFunc: rotateCmpFunc.
-/
import Derived.Test.YtlbelkjgaeaaeaaGreatStA
namespace Go.Proofs.YtlbelkjgaeaaeaaGreat
open Go.RowKit Go.Shelf Go.Lib Go.Sort
set_option linter.unusedVariables false
set_option linter.unusedSectionVars false
variable {P : Program} {k : Nat} {α : Type} [Inhabited α]

theorem cat_cut (A X B : List α) (j : Nat) : A ++ X ++ B = A ++ X.take j ++ X.drop j ++ B := by
  rw [List.append_assoc A (X.take j), List.take_append_drop]

set_option maxHeartbeats 1600000 in
set_option maxRecDepth 20000 in
theorem rotate_w (L : RowProg P k) (enc : α → List Value) (fv : Value) (blk off cap a m b sz : Nat) (d0 : Array α) (w0 w : World) (R : RowK enc k w0 blk off d0) (p u v q : List α)
    (ha : a = p.length) (hm : m = p.length + u.length) (hb : b = p.length + u.length + v.length) (hu : u ≠ []) (hv : v ≠ []) (hd0 : d0.size = sz) (hs : (p ++ u ++ v ++ q).length = sz) (S : SWK enc k w0 blk off (p ++ u ++ v ++ q).toArray w) (hsz : sz < 2305843009213693952) :
    Calls P 105 #[.slice (some ⟨blk, off, none⟩) sz cap, .int .i64 a, .int .i64 m, .int .i64 b, fv] w fun e w' => e = .returned (.tuple #[]) ∧ SWK enc k w0 blk off (p ++ v ++ u ++ q).toArray w' := by
  have hlen : p.length + u.length + v.length + q.length = sz := by rw [← hs]; simp; omega
  have hu0 := List.length_pos_iff.2 hu
  have hv0 := List.length_pos_iff.2 hv
  have HS := Lib.hid S
  have HD0 := Lib.hid hd0
  obtain ⟨i0, hi0⟩ : ∃ i0, i0 = u.length := ⟨_, rfl⟩
  obtain ⟨j0, hj0⟩ : ∃ j0, j0 = v.length := ⟨_, rfl⟩
  obtain ⟨T, hT⟩ : ∃ T, T = p ++ v ++ u ++ q := ⟨_, rfl⟩
  rw [← hT]
  have g1 : IntKind.i64.wrap ((m : Int) - (a : Int)) = (i0 : Int) := by rw [IntWalk.i64_in _ (by omega)]; omega
  have g2 : IntKind.i64.wrap ((b : Int) - (m : Int)) = (j0 : Int) := by rw [IntWalk.i64_in _ (by omega)]; omega
  have HT := Lib.hid hT
  have HI0 := Lib.hid hi0
  have HJ0 := Lib.hid hj0
  have HP : Hid (m = p.length + i0) := by show _ = _; omega
  have HL : Hid (p.length + i0 + j0 + q.length = sz) := by show _ = _; omega
  have hi1 : 0 < i0 := by omega
  have hj1 : 0 < j0 := by omega
  have HSw := Lib.hid (swapRange_w (α := α) L enc fv blk off cap)
  have hmsz : m ≤ sz := by omega
  clear hT S hs hu hv ha hm hb hlen hu0 hv0 hi0 hj0 hd0
  have mixed := L.mixed; have t0 := L.t0; have a0 := L.a0; have z0 := L.z0; have v0 := L.v0; have t3 := L.t3; have a3 := L.a3; have z3 := L.z3; have v3 := L.v3; have t4 := L.t4; have a4 := L.a4; have z4 := L.z4; have v4 := L.v4; have ts := L.ts; have asl := L.asl; have zs := L.zs; have vs := L.vs; have tf := L.tf; have af := L.af; have zf := L.zf; have vf := L.vf; have tu := L.tu; have au := L.au; have zu := L.zu; have vu := L.vu; have aE := L.aE; have zE := L.zE
  have FG := L.fRot
  have e1 : ∀ args w, (callFunc 107 args).run P w = .ok (.enter 107 args) w := enters_of L.fSwap (by kernel_rfl) rfl
  clear L
  go_enter FG, Tryz.ntmps105
  go_wp2_with fail
  go_loopw [10, 11] (fun iv jv wr => ∃ i j : Nat, ∃ pre U V post : List α, iv = .int .i64 i ∧ jv = .int .i64 j ∧ 0 < i ∧ 0 < j ∧ Hid (i = U.length) ∧ Hid (j = V.length) ∧ Hid (m = pre.length + i) ∧ Hid (pre.length + i + j + post.length = sz) ∧ Hid (T = pre ++ V ++ U ++ post) ∧ Hid (SWK enc k w0 blk off (pre ++ U ++ V ++ post).toArray wr)) (fun iv jv _ => (intOf iv).toNat + (intOf jv).toNat)
  case atStart => exact ⟨i0, j0, p, u, v, q, rfl, rfl, hi1, hj1, HI0, HJ0, HP, HL, HT, HS⟩
  case round =>
    obtain ⟨wo, rfl⟩ : ∃ wo : World, wo = wr := ⟨wr, rfl⟩
    obtain ⟨i, j, pre, U, V, post, rfl, rfl, hi, hj, HU, HV, HM, HLn, HTt, HI⟩ := hrel
    have hm := HM.out
    have hln := HLn.out
    obtain ⟨s, hs⟩ : ∃ s, s = pre.length := ⟨_, rfl⟩
    have g3 : IntKind.i64.wrap ((m : Int) - (i : Int)) = (s : Int) := by rw [IntWalk.i64_in _ (by omega)]; omega
    by_cases heq : i = j
    · subst heq
      have HC := Lib.hid (HSw.out s m i sz d0 w0 wo R pre U [] V post hs HU.out (by have := HU.out; simp; omega) (by have := HU.out; have := HV.out; omega) HD0.out (by have := HU.out; have := HV.out; simp; omega) (by simpa using HI.out) hsz)
      clear hm hln hs
      go_wp2_with fail
      refine HC.out.mono ?_
      rintro e w2 ⟨rfl, hw2⟩
      have HW2 := Lib.hid hw2
      clear hw2
      go_wp2_with fail
      go_end0
      refine ⟨rfl, ?_⟩
      have := HW2.out
      rw [HTt.out]
      simpa using this
    · have hne : ¬ (i : Int) = (j : Int) := by omega
      by_cases hgt : j < i
      · have hgz : (j : Int) < (i : Int) := by omega
        obtain ⟨d, hd⟩ : ∃ d, d = i - j := ⟨_, rfl⟩
        have g4 : IntKind.i64.wrap ((i : Int) - (j : Int)) = (d : Int) := by rw [IntWalk.i64_in _ (by omega)]; omega
        have hl1 : (U.take j).length = j := by rw [List.length_take]; have := HU.out; omega
        have hl2 : (U.drop j).length = d := by rw [List.length_drop]; have := HU.out; omega
        have HC := Lib.hid (HSw.out s m j sz d0 w0 wo R pre (U.take j) (U.drop j) V post hs hl1.symm (by omega) (by rw [hl1]; exact HV.out.symm) HD0.out (by have := HV.out; simp only [List.length_append]; omega) (by have := HI.out; rw [List.append_assoc pre, List.take_append_drop]; exact this) hsz)
        have HN1 : Hid (d = (U.drop j).length) := hl2.symm
        have HN2 : Hid (j = (U.take j).length) := hl1.symm
        have HN3 : Hid (m = (pre ++ V).length + d) := by show _ = _; have := HV.out; simp; omega
        have HN4 : Hid ((pre ++ V).length + d + j + post.length = sz) := by show _ = _; have := HV.out; simp; omega
        have HN5 : Hid (T = (pre ++ V) ++ U.take j ++ U.drop j ++ post) := by show _ = _; rw [HTt.out]; exact cat_cut _ _ _ _
        have hd0 : 0 < d := by omega
        have hdd : d + j = i := by omega
        clear hm hln hs hd hl1 hl2
        go_wp2_with fail
        refine HC.out.mono ?_
        rintro e w2 ⟨rfl, hw2⟩
        have HW2 := Lib.hid hw2
        clear hw2
        go_wp2_with fail
        go_roundw
        case rel => exact ⟨d, j, pre ++ V, U.drop j, U.take j, post, by first | rfl | go_num, rfl, hd0, hj, HN1, HN2, HN3, HN4, HN5, HW2⟩
        case measure => simp [intOf]; omega
      · have hgz : ¬ (j : Int) < (i : Int) := by omega
        obtain ⟨d, hd⟩ : ∃ d, d = j - i := ⟨_, rfl⟩
        obtain ⟨mj, hmj⟩ : ∃ mj, mj = m + j := ⟨_, rfl⟩
        obtain ⟨t, ht⟩ : ∃ t, t = mj - i := ⟨_, rfl⟩
        have g4 : IntKind.i64.wrap ((j : Int) - (i : Int)) = (d : Int) := by rw [IntWalk.i64_in _ (by omega)]; omega
        have g5 : IntKind.i64.wrap ((m : Int) + (j : Int)) = (mj : Int) := by rw [IntWalk.i64_in _ (by omega)]; omega
        have g6 : IntKind.i64.wrap ((mj : Int) - (i : Int)) = (t : Int) := by rw [IntWalk.i64_in _ (by omega)]; omega
        have hl1 : (V.take d).length = d := by rw [List.length_take]; have := HV.out; omega
        have hl2 : (V.drop d).length = i := by rw [List.length_drop]; have := HV.out; omega
        have HC := Lib.hid (HSw.out s t i sz d0 w0 wo R pre U (V.take d) (V.drop d) post hs HU.out (by have := HU.out; omega) (by rw [hl2]; exact HU.out) HD0.out (by have := HU.out; simp only [List.length_append]; omega) (by have := HI.out; rw [List.append_assoc (pre ++ U), List.take_append_drop]; exact this) hsz)
        have HN1 : Hid (i = (V.drop d).length) := hl2.symm
        have HN2 : Hid (d = (V.take d).length) := hl1.symm
        have HN4 : Hid (pre.length + i + d + (U ++ post).length = sz) := by show _ = _; have := HU.out; simp; omega
        have HN5 : Hid (T = pre ++ V.take d ++ V.drop d ++ (U ++ post)) := by show _ = _; rw [HTt.out, List.append_assoc (pre ++ V), cat_cut pre V (U ++ post) d]
        have hd0 : 0 < d := by omega
        have hdd : d + i = j := by omega
        clear hm hln hs hd hl1 hl2 ht hmj
        go_wp2_with fail
        refine HC.out.mono ?_
        rintro e w2 ⟨rfl, hw2⟩
        have HW2 : Hid (SWK enc k w0 blk off (pre ++ V.drop d ++ V.take d ++ (U ++ post)).toArray w2) := by show SWK _ _ _ _ _ _ _; simpa using hw2
        clear hw2
        go_wp2_with fail
        go_roundw
        case rel => exact ⟨i, d, pre, V.drop d, V.take d, U ++ post, rfl, by first | rfl | go_num, hi, hd0, HN1, HN2, HM, HN4, HN5, HW2⟩
        case measure => simp [intOf]; omega
end Go.Proofs.YtlbelkjgaeaaeaaGreat
