/-
  The law VectorTexts, walked.
-/
import Derived.BigQuiet
import Derived.Test.YtlmpaeefhpahoaaDoorVecTK
namespace Go.Proofs.YtlmpaeefhpahoaaDoor
open Go.RowKit

set_option maxHeartbeats 3200000 in
set_option maxRecDepth 20000 in
theorem VectorTexts_walk (x : Value) (s : ByteArray) (l : List Stp) (w : World) (htab : Tab10 w) (hdo : DoorOk w) (ha : RdsP w x l) (hw : WfP l) (hs : s.size ≤ 1048576) :
    Calls Tryd.prog 10 #[x, .string s] w fun e w' => e = .returned (.bool true) ∧ Below w.heap.size w w' := by
  obtain ⟨T, hT⟩ : ∃ T, Tx.readT s.data.toList = T := ⟨_, rfl⟩
  have HW : Hid (∀ W, Below w.heap.size w W → DoorOk W ∧ Tab10 W ∧ RdsP W x l) := fun W hb => ⟨hdo.below hb, tab10_below htab hb, ha.below hb⟩
  obtain ⟨S, q, hSq⟩ : ∃ S q, textV l = (S, q) := ⟨_, _, rfl⟩
  have H1 := Lib.hid (fun W (h1 : Tab10 W) (h2 : RdsP W x l) => Text_any x l W h1 h2 hw)
  have H2 := Lib.hid (fun W (h1 : Tab10 W) (h2 : RdsP W x l) => TextR_any x l W h1 h2 hw)
  rw [hSq] at H1 H2
  have H3 := Lib.hid (fun W (h1 : Tab10 W) (h2 : DoorOk W) => Read_all s W h1 h2 hs T hT)
  have H4 := Lib.hid (fun W (h1 : Tab10 W) => ReadR_all s W h1 hs T hT)
  have hqc : (chk l = true ∧ q = 0 ∧ S = txtOf l) ∨ (chk l = false ∧ q = 160) := by
    unfold textV at hSq
    cases hc : chk l with
    | true => rw [hc] at hSq; injection hSq with h1 h2; exact .inl ⟨rfl, h2.symm, h1.symm⟩
    | false => rw [hc] at hSq; injection hSq with h1 h2; exact .inr ⟨rfl, h2.symm⟩
  have HQc := Lib.hid hqc
  have H5 : Hid (chk l = true → ∀ W, Tab10 W → DoorOk W → Calls Tryd.prog 28 #[.string S] W fun e w' => ∃ oa om oc, e = .returned (.tuple #[.slice oa om oc, .int .i64 0, .int .i64 0]) ∧ RdsP w' (.slice oa om oc) l ∧ Below W.heap.size W w') := by
    intro hc W h1 h2
    rcases hqc with ⟨_, _, rfl⟩ | ⟨h, _⟩
    · have hb := Tx.readT_back (natP l) (natP_lt hc hw) (natP_pair hc hw)
      have hl : (natP l).length ≤ 256 := by have := (okV_chk hc).len; simpa [natP] using this
      have := Read_all (txtOf l) W h1 h2 (by show (Tx.textOf (natP l)).toArray.size ≤ _; rw [List.size_toArray]; have := txt_len (natP_lt hc hw) hl; omega) (natP l, 0, 0) (by show Tx.readT (Tx.textOf (natP l)) = _; exact hb)
      rw [castP_natP hc hw] at this
      exact this
    · rw [h] at hc; cases hc
  have HT1 : Hid (∀ W (v v' : Value), RdsP W v (castP T.1) → RdsP W v' (castP T.1) → Calls Tryd.prog 15 #[v, v'] W fun e w' => e = .returned (.bool true) ∧ ∃ k, w' = W.drewN k) := fun W v v' h1 h2 => SameR_any v v' _ _ W h1 h2 true (by simp)
  have HT2 : Hid (∀ W (v v' : Value), RdsP W v l → RdsP W v' l → Calls Tryd.prog 15 #[v, v'] W fun e w' => e = .returned (.bool true) ∧ ∃ k, w' = W.drewN k) := fun W v v' h1 h2 => SameR_any v v' _ _ W h1 h2 true (by simp)
  have hss : (S.toList == S.toList) = true := by simp
  have hsn : (S.toList != S.toList) = false := by simp
  obtain ⟨xa, xn, xc, rfl, hx⟩ := ha
  obtain ⟨T1, T2, T3⟩ := T
  simp only at H3 H4 HT1
  obtain ⟨t2, ht2⟩ : ∃ t2 : Int, (T2 : Int) = t2 := ⟨_, rfl⟩
  rw [ht2] at H3 H4
  have e2 : (t2 == t2) = true := by simp
  have e2n : (t2 != t2) = false := by simp
  have e3 : (T3 == T3) = true := by simp
  have e3n : (T3 != T3) = false := by simp
  have eqq : (q == q) = true := by simp
  have eqn : (q != q) = false := by simp
  clear hx hT hSq hqc ht2 htab hdo hw
  go_enter Tryd.func10, Tryd.ntmps10
  go_wp2_with fail
  refine (H1.out _ (HW.out _ (Below.refl _ _)).2.1 (HW.out _ (Below.refl _ _)).2.2).mono ?_
  rintro e w1 ⟨rfl, hb1⟩
  have HB1 := Lib.hid hb1
  clear hb1
  go_wp2_with fail
  refine (H2.out _ (HW.out _ HB1.out).2.1 (HW.out _ HB1.out).2.2).mono ?_
  rintro e w2 ⟨rfl, hb2⟩
  have HB2 := Lib.hid (HB1.out.trans (hb2.mono HB1.out.size))
  clear hb2
  go_wp2_with fail
  refine (H3.out _ (HW.out _ HB2.out).2.1 (HW.out _ HB2.out).1).mono ?_
  rintro e w3 ⟨ca, cm, cc, rfl, hr3, hb3⟩
  have HB3 := Lib.hid (HB2.out.trans (hb3.mono HB2.out.size))
  have HR3 := Lib.hid hr3
  clear hb3 hr3
  go_wp2_with fail
  refine (H4.out _ (HW.out _ HB3.out).2.1).mono ?_
  rintro e w4 ⟨da, dm, dc, rfl, hr4, hb4⟩
  have HB4 := Lib.hid (HB3.out.trans (hb4.mono HB3.out.size))
  have HR4 := Lib.hid hr4
  have HC4 := Lib.hid (HR3.out.below hb4)
  clear hb4 hr4
  go_wp2_with fail
  refine (HT1.out _ _ _ HC4.out HR4.out).mono ?_
  rintro e w5 ⟨rfl, k5, rfl⟩
  go_wp2_with fail
  refine (awake_any _).mono ?_
  rintro e w6 ⟨rfl, hb6⟩
  have HB5 := below_dN HB4.out k5
  have HB6 := Lib.hid (HB5.trans (hb6.mono HB5.size))
  clear hb6 HB5
  rcases HQc.out with ⟨hc, rfl, hS⟩ | ⟨hc, rfl⟩
  · have H6 := Lib.hid (H5.out hc)
    clear hc hS
    go_wp2_with fail
    refine (H6.out _ (HW.out _ HB6.out).2.1 (HW.out _ HB6.out).1).mono ?_
    rintro e w7 ⟨fa, fm, fc, rfl, hr7, hb7⟩
    have HB7 := Lib.hid (HB6.out.trans (hb7.mono HB6.out.size))
    have HR7 := Lib.hid hr7
    clear hb7 hr7
    go_wp2_with fail
    refine (HT2.out _ _ _ HR7.out (HW.out _ HB7.out).2.2).mono ?_
    rintro e w8 ⟨rfl, k8, rfl⟩
    go_wp2_with fail
    first | go_ret | go_ret2
    exact ⟨rfl, below_dN HB7.out k8⟩
  · clear hc
    go_wp2_with fail
    first | go_ret | go_ret2
    exact ⟨rfl, HB6.out⟩
end Go.Proofs.YtlmpaeefhpahoaaDoor
