/-
  Walks: the code's and the reference's Text and Read, in every case.
-/
import Derived.BigQuiet
import Derived.Test.YtlmpaeefhpahoaaDoorVecTJ
namespace Go.Proofs.YtlmpaeefhpahoaaDoor
open Go.RowKit

/-- Stamps as numbers. -/
def natP (l : List Stp) : List (Nat × Nat) := l.map fun s => (s.1.toNat, s.2.toNat)

/-- The versions are uint64s. -/
def WfP (l : List Stp) : Prop := ∀ s ∈ l, 0 ≤ s.2 ∧ s.2 < 18446744073709551616

theorem chk_dev {l : List Stp} (h : chk l = true) : ∀ s ∈ l, 0 ≤ s.1 ∧ s.1 < 256 := by
  intro s hs
  have := (okV_chk h).2 s hs
  unfold dev at this
  simp at this
  exact this

theorem castP_natP {l : List Stp} (h : chk l = true) (hw : WfP l) : castP (natP l) = l := by
  unfold castP natP
  rw [List.map_map]
  conv => rhs; rw [← List.map_id l]
  refine List.map_congr_left fun s hs => ?_
  have h1 := chk_dev h s hs
  have h2 := hw s hs
  show ((s.1.toNat : Int), (s.2.toNat : Int)) = s
  rw [Int.toNat_of_nonneg h1.1, Int.toNat_of_nonneg h2.1]

theorem natP_lt {l : List Stp} (h : chk l = true) (hw : WfP l) : ∀ s ∈ natP l, s.1 < 256 ∧ s.2 < 18446744073709551616 := by
  intro x hx
  obtain ⟨s, hs, rfl⟩ := List.mem_map.1 hx
  have h1 := chk_dev h s hs
  have h2 := hw s hs
  exact ⟨by show s.1.toNat < 256; omega, by show s.2.toNat < 18446744073709551616; omega⟩

theorem natP_pair {l : List Stp} (h : chk l = true) (hw : WfP l) : (natP l).Pairwise (fun a b => a.1 < b.1) := by
  have hs := chk_srt h
  unfold Srt at hs
  rw [← castP_natP h hw] at hs
  unfold castP at hs
  rw [List.pairwise_map] at hs
  exact hs.imp fun h => by simp only at h; omega

/-- The text of a vector that may be. -/
def txtOf (l : List Stp) : ByteArray := ⟨(Tx.textOf (natP l)).toArray⟩

/-- What Text answers. -/
def textV (l : List Stp) : ByteArray × Int := if chk l = true then (txtOf l, 0) else (⟨#[]⟩, 160)

theorem joinTail_len : ∀ (r : List (List UInt8)) (k : Nat), (∀ y ∈ r, y.length ≤ k) → (Lib.joinTail [32] r).length ≤ r.length * (k + 1)
  | [], _, _ => by simp [Lib.joinTail]
  | y :: r, k, h => by
    have ih := joinTail_len r k (fun z hz => h z (by simp [hz]))
    have hy := h y (by simp)
    unfold Lib.joinTail at ih ⊢
    simp only [List.map_cons, List.flatten_cons, List.length_append, List.length_cons, List.length_nil]
    rw [Nat.add_mul]
    omega

theorem txt_len {l : List (Nat × Nat)} (h : ∀ s ∈ l, s.1 < 256 ∧ s.2 < 18446744073709551616) (hl : l.length ≤ 256) : (Tx.textOf l).length ≤ 20000 := by
  unfold Tx.textOf
  split
  · simp
  · cases l with
    | nil => simp at *
    | cons x r =>
      have hst : ∀ s ∈ x :: r, (Tx.stB s).length ≤ 41 := fun s hs => stB_len (h s hs).1 (h s hs).2
      rw [List.map_cons, Lib.join_cons, List.length_append]
      have h1 := hst x (by simp)
      have h2 := joinTail_len (r.map Tx.stB) 41 (fun y hy => by obtain ⟨z, hz, rfl⟩ := List.mem_map.1 hy; exact hst z (by simp [hz]))
      rw [List.length_map] at h2
      simp at hl
      omega

set_option maxHeartbeats 800000 in
theorem Text_any (v : Value) (l : List Stp) (w : World) (htab : Tab10 w) (hr : RdsP w v l) (hw : WfP l) :
    Calls Tryd.prog 26 #[v] w fun e w' => e = .returned (.tuple #[.string (textV l).1, .int .i64 (textV l).2]) ∧ Below w.heap.size w w' := by
  cases hc : chk l with
  | false =>
    have HC := Lib.hid (Check_any _ _ _ (rdsL_one 24 hr) 160 (by simp [hc, codeOf]))
    have hv : textV l = (⟨#[]⟩, 160) := by unfold textV; rw [hc]; rfl
    rw [hv]
    obtain ⟨ad, len, cap, rfl, hl, hlm, hel⟩ := hr
    have HBe := Lib.hid ((Below.refl w.heap.size w).alloc (Nat.le_refl _) (.cells #[.slice ad len cap] 24))
    clear hc hv hl hlm hel htab
    go_enter Tryd.func26, Tryd.ntmps26
    go_wp2_with fail
    refine HC.out.mono ?_
    rintro e w1 ⟨rfl, hb1⟩
    have HB1 := Lib.hid (HBe.out.trans (hb1.mono (by simp)))
    clear hb1
    go_wp2_with fail
    first | go_ret2 | go_ret | go_ret3
    exact ⟨rfl, HB1.out⟩
  | true =>
    have hv : textV l = (txtOf l, 0) := by unfold textV; rw [hc]; rfl
    rw [hv]
    by_cases h0 : l = []
    · subst h0
      have HC := Lib.hid (Check_any _ _ _ (rdsL_one 24 hr) 0 (by simp [hc, codeOf]))
      have ht : txtOf [] = ⟨#[45]⟩ := rfl
      rw [ht]
      obtain ⟨ad, len, cap, rfl, hl, hlm, hel⟩ := hr
      have HBe := Lib.hid ((Below.refl w.heap.size w).alloc (Nat.le_refl _) (.cells #[.slice ad len cap] 24))
      obtain rfl : len = 0 := hl
      clear hc hv hlm hel htab ht
      go_enter Tryd.func26, Tryd.ntmps26
      go_wp2_with fail
      refine HC.out.mono ?_
      rintro e w1 ⟨rfl, hb1⟩
      have HB1 := Lib.hid (HBe.out.trans (hb1.mono (by simp)))
      clear hb1
      go_wp2_with fail
      first | go_ret2 | go_ret | go_ret3
      exact ⟨rfl, HB1.out⟩
    · have e1 := castP_natP hc hw
      have hlt := natP_lt hc hw
      have hll : (natP l).length ≤ 256 := by have := (okV_chk hc).len; simpa [natP] using this
      have e2 : ((natP l).map tx).map (·.data.toList) = (natP l).map Tx.stB := by
        rw [List.map_map]
        exact List.map_congr_left fun s _ => stS_data s.1 s.2
      have h00 : natP l ≠ [] := by unfold natP; simpa using h0
      have e3 : Lib.join ((natP l).map Tx.stB) [32] = Tx.textOf (natP l) := by unfold Tx.textOf; rw [if_neg h00]
      have hlen := txt_len hlt hll
      refine Text_go v (natP l) w htab (by show RdsP w v (castP (natP l)); rw [e1]; exact hr) (by show chk (castP (natP l)) = true; rw [e1]; exact hc) (List.length_pos_iff.2 h00) hlt (txtOf l) (by unfold txtOf; rw [e2, e3]) (by rw [e2, e3]; omega)

set_option maxHeartbeats 800000 in
theorem TextR_any (v : Value) (l : List Stp) (w : World) (htab : Tab10 w) (hr : RdsP w v l) (hw : WfP l) :
    Calls Tryd.prog 27 #[v] w fun e w' => e = .returned (.tuple #[.string (textV l).1, .int .i64 (textV l).2]) ∧ Below w.heap.size w w' := by
  cases hc : chk l with
  | false =>
    have HC := Lib.hid (CheckR_any _ _ _ (rdsL_one 24 hr) 160 (by simp [hc, codeOf]))
    have hv : textV l = (⟨#[]⟩, 160) := by unfold textV; rw [hc]; rfl
    rw [hv]
    obtain ⟨ad, len, cap, rfl, hl, hlm, hel⟩ := hr
    have HBe := Lib.hid ((Below.refl w.heap.size w).alloc (Nat.le_refl _) (.cells #[.slice ad len cap] 24))
    clear hc hv hl hlm hel htab
    go_enter Tryd.func27, Tryd.ntmps27
    go_wp2_with fail
    refine HC.out.mono ?_
    rintro e w1 ⟨rfl, k1, rfl⟩
    go_wp2_with fail
    first | go_ret2 | go_ret | go_ret3
    exact ⟨rfl, below_dN HBe.out k1⟩
  | true =>
    have hv : textV l = (txtOf l, 0) := by unfold textV; rw [hc]; rfl
    rw [hv]
    by_cases h0 : l = []
    · subst h0
      have HC := Lib.hid (CheckR_any _ _ _ (rdsL_one 24 hr) 0 (by simp [hc, codeOf]))
      have ht : txtOf [] = ⟨#[45]⟩ := rfl
      rw [ht]
      obtain ⟨ad, len, cap, rfl, hl, hlm, hel⟩ := hr
      have HBe := Lib.hid ((Below.refl w.heap.size w).alloc (Nat.le_refl _) (.cells #[.slice ad len cap] 24))
      obtain rfl : len = 0 := hl
      clear hc hv hlm hel htab ht
      go_enter Tryd.func27, Tryd.ntmps27
      go_wp2_with fail
      refine HC.out.mono ?_
      rintro e w1 ⟨rfl, k1, rfl⟩
      go_wp2_with fail
      first | go_ret2 | go_ret | go_ret3
      exact ⟨rfl, below_dN HBe.out k1⟩
    · have e1 := castP_natP hc hw
      have hlt := natP_lt hc hw
      have h00 : natP l ≠ [] := by unfold natP; simpa using h0
      have e3 : Lib.join ((natP l).map Tx.stB) [32] = Tx.textOf (natP l) := by unfold Tx.textOf; rw [if_neg h00]
      refine TextR_go v (natP l) w htab (by show RdsP w v (castP (natP l)); rw [e1]; exact hr) (by show chk (castP (natP l)) = true; rw [e1]; exact hc) (List.length_pos_iff.2 h00) hlt (txtOf l) (by unfold txtOf; rw [e3])

theorem Read_all (s : ByteArray) (w : World) (htab : Tab10 w) (hdo : DoorOk w) (hs : s.size ≤ 1048576) (T : List (Nat × Nat) × Nat × Int) (hT : Tx.readT s.data.toList = T) :
    Calls Tryd.prog 28 #[.string s] w fun e w' => ∃ oa om oc, e = .returned (.tuple #[.slice oa om oc, .int .i64 T.2.1, .int .i64 T.2.2]) ∧ RdsP w' (.slice oa om oc) (castP T.1) ∧ Below w.heap.size w w' := by
  by_cases hne : s.data.toList = [45]
  · have hT' : T = ([], 0, 0) := by rw [← hT, Tx.readT, if_pos hne]
    subst hT'
    have hss : (s.toList == [45]) = true := by rw [Lib.toList_data]; simpa using hne
    clear hT hne htab hdo
    go_enter Tryd.func28, Tryd.ntmps28
    go_wp2_with fail
    first | go_ret2 | go_ret | go_ret3
    exact ⟨none, 0, 0, rfl, rdsP_nil _, Below.refl _ _⟩
  · exact Read_any s w htab hdo hs T hT hne

theorem ReadR_all (s : ByteArray) (w : World) (htab : Tab10 w) (hs : s.size ≤ 1048576) (T : List (Nat × Nat) × Nat × Int) (hT : Tx.readT s.data.toList = T) :
    Calls Tryd.prog 29 #[.string s] w fun e w' => ∃ oa om oc, e = .returned (.tuple #[.slice oa om oc, .int .i64 T.2.1, .int .i64 T.2.2]) ∧ RdsP w' (.slice oa om oc) (castP T.1) ∧ Below w.heap.size w w' := by
  by_cases hne : s.data.toList = [45]
  · have hT' : T = ([], 0, 0) := by rw [← hT, Tx.readT, if_pos hne]
    subst hT'
    have hss : (s.toList == [45]) = true := by rw [Lib.toList_data]; simpa using hne
    clear hT hne htab
    go_enter Tryd.func29, Tryd.ntmps29
    go_wp2_with fail
    first | go_ret2 | go_ret | go_ret3
    exact ⟨none, 0, 0, rfl, rdsP_nil _, Below.refl _ _⟩
  · exact ReadR_any s w htab hs T hT hne
end Go.Proofs.YtlmpaeefhpahoaaDoor
