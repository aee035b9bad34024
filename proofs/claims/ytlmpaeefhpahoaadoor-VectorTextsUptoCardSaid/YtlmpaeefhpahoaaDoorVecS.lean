/-
  Walks: Join.
-/
import Derived.Test.YtlmpaeefhpahoaaDoorVecR
namespace Go.Proofs.YtlmpaeefhpahoaaDoor
open Go.RowKit

set_option maxHeartbeats 800000 in
theorem Join_bad (v : Value) (L : List (List Stp)) (w : World) (hr : RdsL w v L) (hc : L.all chk = false) :
    Calls Tryd.prog 13 #[v] w fun e w' => e = .returned (.tuple #[.slice none 0 0, .int .i64 160]) ∧ Below w.heap.size w w' := by
  have HC := Lib.hid (Check_any _ _ _ hr 160 (by rw [hc]; rfl))
  obtain ⟨a, n, c, rfl, hx⟩ := hr
  clear hx
  clear hc
  go_enter Tryd.func13, Tryd.ntmps13
  go_wp2_with fail
  refine HC.out.mono ?_
  rintro e w1 ⟨rfl, hb1⟩
  have HB1 := Lib.hid hb1
  clear hb1
  go_wp2_with fail
  go_ret2
  exact ⟨rfl, HB1.out⟩

set_option maxHeartbeats 800000 in
theorem Join_good (v : Value) (L : List (List Stp)) (w : World) (hr : RdsL w v L) (hc : L.all chk = true) (p : List Stp × Bool) (hp : joinTo ([], true) L.flatten = p) :
    Calls Tryd.prog 13 #[v] w fun e w' => ∃ v', e = .returned (.tuple #[v', .int .i64 0]) ∧ Below w.heap.size w w' ∧ w'.ownsRow w.heap.size 43 2 v' p.1.length (cellsV p.1) := by
  have HC := Lib.hid (Check_any _ _ _ hr 0 (by rw [hc]; rfl))
  have HJ := Lib.hid (fun (W : World) (h : RdsL W v L) => joined_any v L W h (all_dev hc).1 (all_dev hc).2 p hp)
  have HRd := Lib.hid hr
  obtain ⟨a, n, c, rfl, hx⟩ := hr
  clear hx
  obtain ⟨out, ag⟩ := p
  clear hc hp
  generalize hR : (fun (e : Ending) (w' : World) => ∃ v', e = .returned (.tuple #[v', .int .i64 0]) ∧ Below w.heap.size w w' ∧ w'.ownsRow w.heap.size 43 2 v' (out, ag).1.length (cellsV (out, ag).1)) = R
  have HR := Lib.hid hR
  clear hR
  go_enter Tryd.func13, Tryd.ntmps13
  go_wp2_with fail
  refine HC.out.mono ?_
  rintro e w1 ⟨rfl, hb1⟩
  have HB1 := Lib.hid hb1
  clear hb1
  go_wp2_with fail
  refine (HJ.out _ (HRd.out.below HB1.out)).mono ?_
  rintro e w2 ⟨v', rfl, hown, hb2⟩
  obtain ⟨ad, cap, rfl, h3, h4⟩ := ownsSt_form hown
  have HO := Lib.hid hown
  have HB2 := Lib.hid (HB1.out.trans (hb2.mono HB1.out.size))
  clear hown hb2 h3 h4
  go_wp2_with fail
  first | go_ret2 | skip
  rw [← HR.out]
  exact ⟨_, rfl, HB2.out, ownsRow_leV HO.out HB1.out.size⟩
end Go.Proofs.YtlmpaeefhpahoaaDoor
