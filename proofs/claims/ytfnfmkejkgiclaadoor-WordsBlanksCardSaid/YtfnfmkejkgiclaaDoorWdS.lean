/-
  The law WordsSay: its walk.
-/
import Derived.Test.YtfnfmkejkgiclaaDoorWdR
namespace Go.Proofs.YtfnfmkejkgiclaaDoor
open Go.RowKit Go.Shelf
set_option linter.unusedVariables false
set_option linter.unusedSimpArgs false

/-- What Say tells, as a pair. -/
def sayV (ss : List ByteArray) : ByteArray × Nat := match Wd.say (ss.map fun x => x.data.toList) with
  | some t => (Wd.mkB t, 0)
  | none => (⟨#[]⟩, 31)
theorem sayPost_v {ss : List ByteArray} {w w' : World} {e : Ending} (h : SayPost ss w e w') : e = .returned (.tuple #[.string (sayV ss).1, .int .i64 (sayV ss).2]) ∧ Below w.heap.size w w' := by
  unfold SayPost at h
  unfold sayV
  cases hs : Wd.say (ss.map fun x => x.data.toList) with
  | some t => rw [hs] at h; exact h
  | none => rw [hs] at h; exact h

theorem few_say (v : Value) (ss : List ByteArray) (w : World) (hr : RdsS w v (fewB ss)) : Calls Tryd.prog 14 #[v] w fun e w' => e = .returned (.tuple #[.string (sayV (fewB ss)).1, .int .i64 (sayV (fewB ss)).2]) ∧ Below w.heap.size w w' :=
  (say_any v _ w hr (fun x hx => by have := fewB_size ss x hx; omega) (by have := fewB_len ss; omega)).mono fun e w' h => sayPost_v h
theorem few_rsay (v : Value) (ss : List ByteArray) (w : World) (hr : RdsS w v (fewB ss)) : Calls Tryd.prog 15 #[v] w fun e w' => e = .returned (.tuple #[.string (sayV (fewB ss)).1, .int .i64 (sayV (fewB ss)).2]) ∧ Below w.heap.size w w' :=
  (rsay_any v _ w hr (fun x hx => by have := fewB_size ss x hx; omega) (by have := fewB_len ss; omega)).mono fun e w' h => sayPost_v h

set_option maxHeartbeats 3200000 in
set_option maxRecDepth 20000 in
theorem wordsSay_any (v : Value) (ss : List ByteArray) (w : World) (hr : RdsS w v ss) : Calls Tryd.prog 4 #[v] w fun e w' => e = .returned (.bool true) ∧ Below w.heap.size w w' := by
  have HF := Lib.hid (few_any v ss w hr)
  obtain ⟨t, ht⟩ : ∃ t, (sayV (fewB ss)).1 = t := ⟨_, rfl⟩
  obtain ⟨k, hk⟩ : ∃ k, (sayV (fewB ss)).2 = k := ⟨_, rfl⟩
  have HS := Lib.hid (fun (v : Value) (W : World) (hr : RdsS W v (fewB ss)) => few_say v ss W hr)
  have HR := Lib.hid (fun (v : Value) (W : World) (hr : RdsS W v (fewB ss)) => few_rsay v ss W hr)
  rw [ht, hk] at HS HR
  clear hr ht hk
  go_enter Tryd.func4, Tryd.ntmps4
  go_wp2_with fail
  refine HF.out.mono ?_
  rintro e w1 ⟨ad, c, rfl, hr1, hb1⟩
  have HR1 := Lib.hid hr1
  have HB1 := Lib.hid hb1
  clear hr1 hb1
  go_wp2_with fail
  refine (HS.out _ _ HR1.out).mono ?_
  rintro e w2 ⟨rfl, hb2⟩
  have HR2 := Lib.hid (HR1.out.below hb2)
  have HB2 := Lib.hid (HB1.out.trans (hb2.mono HB1.out.size))
  clear hb2
  go_wp2_with fail
  refine (HR.out _ _ HR2.out).mono ?_
  rintro e w3 ⟨rfl, hb3⟩
  have HB3 := Lib.hid (HB2.out.trans (hb3.mono HB2.out.size))
  clear hb3
  go_wp2_with fail
  refine (alive_any _).mono ?_
  rintro e w4 ⟨rfl, hb4⟩
  have HB4 := Lib.hid (HB3.out.trans (hb4.mono HB3.out.size))
  clear hb4
  go_wp2_with fail
  go_ret
  exact ⟨rfl, HB4.out⟩
end Go.Proofs.YtfnfmkejkgiclaaDoor
