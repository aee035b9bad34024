/-
  Walks: Merge and Join.
-/
import Derived.Test.YtlmpaeefhpahoaaDoorVecM
namespace Go.Proofs.YtlmpaeefhpahoaaDoor
open Go.RowKit

theorem ownsRow_leV {w : World} {b b' : Nat} {e : TypeId} {size : Nat} {v : Value} {n : Nat} {xs : List Value} (h : w.ownsRow b e size v n xs) (hb : b' ≤ b) : w.ownsRow b' e size v n xs := by
  obtain ⟨h1, h2⟩ := h
  refine ⟨h1, ?_⟩
  rcases h2 with h2 | ⟨g, cap, cur, hv, hg, r⟩
  · exact .inl h2
  · exact .inr ⟨g, cap, cur, hv, Nat.le_trans hb hg, r⟩

theorem all_dev {L : List (List Stp)} (h : L.all chk = true) : (∀ l ∈ L, ∀ s ∈ l, dev s.1 = true) ∧ ∀ l ∈ L, l.length ≤ 4096 := by
  refine ⟨fun l hl s hs => ?_, fun l hl => ?_⟩
  · have := List.all_eq_true.1 h l hl
    unfold chk at this
    rw [Bool.and_eq_true] at this
    exact List.all_eq_true.1 this.2 s hs
  · have := srt_len (List.all_eq_true.1 h l hl)
    omega

set_option maxHeartbeats 800000 in
theorem Merge_bad (v : Value) (L : List (List Stp)) (w : World) (hr : RdsL w v L) (hc : L.all chk = false) :
    Calls Tryd.prog 11 #[v] w fun e w' => e = .returned (.tuple #[.slice none 0 0, .bool false, .int .i64 160]) ∧ Below w.heap.size w w' := by
  have HC := Lib.hid (Check_any _ _ _ hr 160 (by rw [hc]; rfl))
  obtain ⟨a, n, c, rfl, hx⟩ := hr
  clear hx
  clear hc
  go_enter Tryd.func11, Tryd.ntmps11
  go_wp2_with fail
  refine HC.out.mono ?_
  rintro e w1 ⟨rfl, hb1⟩
  have HB1 := Lib.hid hb1
  clear hb1
  go_wp2_with fail
  go_ret3
  exact ⟨rfl, HB1.out⟩

set_option maxHeartbeats 800000 in
theorem Merge_good (v : Value) (L : List (List Stp)) (w : World) (hr : RdsL w v L) (hc : L.all chk = true) (p : List Stp × Bool) (hp : joinTo ([], true) L.flatten = p) :
    Calls Tryd.prog 11 #[v] w fun e w' => ∃ v', e = .returned (.tuple #[v', .bool p.2, .int .i64 0]) ∧ Below w.heap.size w w' ∧ (p.2 = true → w'.ownsRow w.heap.size 43 2 v' p.1.length (cellsV p.1)) ∧ (p.2 = false → v' = .slice none 0 0) := by
  have HC := Lib.hid (Check_any _ _ _ hr 0 (by rw [hc]; rfl))
  have HJ := Lib.hid (fun (W : World) (h : RdsL W v L) => joined_any v L W h (all_dev hc).1 (all_dev hc).2 p hp)
  have HRd := Lib.hid hr
  obtain ⟨a, n, c, rfl, hx⟩ := hr
  clear hx
  obtain ⟨out, ag⟩ := p
  clear hc hp
  generalize hR : (fun (e : Ending) (w' : World) => ∃ v', e = .returned (.tuple #[v', .bool (out, ag).2, .int .i64 0]) ∧ Below w.heap.size w w' ∧ ((out, ag).2 = true → w'.ownsRow w.heap.size 43 2 v' (out, ag).1.length (cellsV (out, ag).1)) ∧ ((out, ag).2 = false → v' = .slice none 0 0)) = R
  have HR := Lib.hid hR
  clear hR
  cases ag with
  | true =>
    go_enter Tryd.func11, Tryd.ntmps11
    go_wp2_with fail
    refine HC.out.mono ?_
    rintro e w1 ⟨rfl, hb1⟩
    have HB1 := Lib.hid hb1
    clear hb1
    go_wp2_with fail
    refine (HJ.out _ (HRd.out.below HB1.out)).mono ?_
    rintro e w2 ⟨v', rfl, hown, hb2⟩
    obtain ⟨ad, cap, rfl, _, _⟩ := ownsSt_form hown
    have HO := Lib.hid hown
    have HB2 := Lib.hid (HB1.out.trans (hb2.mono HB1.out.size))
    clear hown hb2
    go_wp2_with fail
    first | go_ret3 | skip
    rw [← HR.out]
    exact ⟨_, rfl, HB2.out, fun _ => ownsRow_leV HO.out HB1.out.size, fun h => by cases h⟩
  | false =>
    go_enter Tryd.func11, Tryd.ntmps11
    go_wp2_with fail
    refine HC.out.mono ?_
    rintro e w1 ⟨rfl, hb1⟩
    have HB1 := Lib.hid hb1
    clear hb1
    go_wp2_with fail
    refine (HJ.out _ (HRd.out.below HB1.out)).mono ?_
    rintro e w2 ⟨v', rfl, hown, hb2⟩
    obtain ⟨ad, cap, rfl, _, _⟩ := ownsSt_form hown
    have HB2 := Lib.hid (HB1.out.trans (hb2.mono HB1.out.size))
    clear hown hb2
    go_wp2_with fail
    first | go_ret3 | skip
    rw [← HR.out]
    exact ⟨_, rfl, HB2.out, (fun h => by cases h), fun _ => rfl⟩
end Go.Proofs.YtlmpaeefhpahoaaDoor
