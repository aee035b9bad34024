/-
  What the functions of package cube and of its reference answer, in one form each; alive; the laws CubeCuts, CubeMeets and CubeOrder, walked.
-/
import Derived.Test.YtlbelkjgaeaaeaaGreatCubeRD
namespace Go.Proofs.YtlbelkjgaeaaeaaGreat
open Go.RowKit

namespace Cb
/-- Meet's answer. -/
def MeetS (a b : List UInt8) : List UInt8 × Bool × Int :=
  if wrong [a, b] = 0 then (match meet a b with | some m => (m, true, 0) | none => ([], false, 0)) else ([], false, wrong [a, b])
/-- Inside's answer. -/
def InsideS (a b : List UInt8) : Bool × Int :=
  if wrong [a, b] = 0 then (match meet a b with | some m => (m == a, 0) | none => (false, 0)) else (false, wrong [a, b])
/-- Has's answer. -/
def HasS (c h : List UInt8) : Bool × Int :=
  if isCube c && isHead h then (if wrong [c, h] = 0 then ((meet c h).isSome, 0) else (false, wrong [c, h])) else (false, 10)

theorem MeetS_bad {a b : List UInt8} (h : ¬ wrong [a, b] = 0) : MeetS a b = ([], false, wrong [a, b]) := by unfold MeetS; rw [if_neg h]
theorem MeetS_yes {a b m : List UInt8} (h : wrong [a, b] = 0) (hm : meet a b = some m) : MeetS a b = (m, true, 0) := by unfold MeetS; rw [if_pos h, hm]
theorem MeetS_no {a b : List UInt8} (h : wrong [a, b] = 0) (hm : meet a b = none) : MeetS a b = ([], false, 0) := by unfold MeetS; rw [if_pos h, hm]
theorem InsideS_bad {a b : List UInt8} (h : ¬ wrong [a, b] = 0) : InsideS a b = (false, wrong [a, b]) := by unfold InsideS; rw [if_neg h]
theorem InsideS_yes {a b m : List UInt8} (h : wrong [a, b] = 0) (hm : meet a b = some m) : InsideS a b = (m == a, 0) := by unfold InsideS; rw [if_pos h, hm]
theorem InsideS_no {a b : List UInt8} (h : wrong [a, b] = 0) (hm : meet a b = none) : InsideS a b = (false, 0) := by unfold InsideS; rw [if_pos h, hm]

theorem isHead_isCube {s : List UInt8} (h : isHead s = true) : isCube s = true := isHead_cube h

theorem head_no_x {s : List UInt8} (h : isHead s = true) : ∀ c ∈ s, c ≠ 120 := by
  unfold isHead ofB at h
  simp only [Bool.and_eq_true, List.all_eq_true] at h
  intro c hc e
  have := h.2 c hc
  rw [e] at this
  simp at this

theorem meet_cons (x y : UInt8) (a b : List UInt8) : meet (x :: a) (y :: b) = if ok2 x y = true then (meet a b).map (mb x y :: ·) else none := by
  unfold meet
  by_cases h1 : ok2 x y = true
  · by_cases h2 : ((a.zip b).all fun p => ok2 p.1 p.2) = true
    · rw [if_pos (by simp only [List.zip_cons_cons, List.all_cons, h1, h2, Bool.and_self]), if_pos h1, if_pos h2]; rfl
    · rw [if_neg (by simp only [List.zip_cons_cons, List.all_cons, h1, Bool.true_and]; exact h2), if_pos h1, if_neg h2]; rfl
  · rw [if_neg (by simp only [List.zip_cons_cons, List.all_cons]; simp only [Bool.not_eq_true] at h1; rw [h1]; simp), if_neg h1]

/-- A header in a cube: what they have in common is the header. -/
theorem meet_head : ∀ (h c : List UInt8), h.length = c.length → (∀ x ∈ h, x ≠ 120) → meet h c = if (meet c h).isSome = true then some h else none
  | [], [], _, _ => by simp [meet]
  | x :: h, y :: c, hl, hx => by
    have ih := meet_head h c (by simpa using hl) (fun z hz => hx z (List.mem_cons_of_mem _ hz))
    have hx0 : x ≠ 120 := hx x (List.mem_cons_self ..)
    have e1 : ok2 x y = ok2 y x := by
      unfold ok2
      rw [Bool.eq_iff_iff]
      simp [hx0]
      constructor <;> (intro h; rcases h with h | h <;> simp [h])
    have e2 : mb x y = x := by unfold mb; rw [if_neg (by simpa using hx0)]
    rw [meet_cons, meet_cons, ih, e1, e2]
    by_cases h1 : ok2 y x = true
    · rw [if_pos h1, if_pos h1]
      cases meet c h <;> simp
    · rw [if_neg h1, if_neg h1]; simp

theorem wrong_pair {a b : List UInt8} (ha : isCube a = true) (hb : isCube b = true) : wrong [a, b] = if b.length = a.length then 0 else 11 := by
  unfold wrong
  simp [ha, hb]

/-- The reference asks whether the header lies inside the cube. -/
theorem HasS_inside {c h : List UInt8} (hc : isCube c = true) (hh : isHead h = true) : InsideS h c = HasS c h := by
  have hh2 := isHead_cube hh
  unfold InsideS HasS
  rw [hc, hh, wrong_pair hc hh2, wrong_pair hh2 hc]
  simp only [Bool.and_self, if_true]
  by_cases e : h.length = c.length
  · rw [if_pos e, if_pos e.symm]
    simp only [if_true]
    rw [meet_head h c e (head_no_x hh)]
    cases hm : meet c h with
    | none => simp
    | some m => simp
  · have e' : ¬ c.length = h.length := fun x => e x.symm
    simp only [if_neg e, if_neg e']
    simp
end Cb

theorem ret3 {a a' : ByteArray} {b b' : Bool} {c c' : Int} (h : (a, b, c) = (a', b', c')) : Ending.returned (.tuple #[.string a, .bool b, .int .i64 c]) = .returned (.tuple #[.string a', .bool b', .int .i64 c']) := by
  injection h with h1 h2
  injection h2 with h2 h3
  rw [h1, h2, h3]
theorem ret2 {b b' : Bool} {c c' : Int} (h : (b, c) = (b', c')) : Ending.returned (.tuple #[.bool b, .int .i64 c]) = .returned (.tuple #[.bool b', .int .i64 c']) := by
  injection h with h1 h2
  rw [h1, h2]

theorem rMeet_any (a b : ByteArray) (w : World) (ha : a.size ≤ maxLen) (hb : b.size ≤ maxLen) (S : List UInt8 × Bool × Int) (hS : Cb.MeetS a.data.toList b.data.toList = S) :
    Calls Tryz.prog 82 #[.string a, .string b] w fun e w' => e = .returned (.tuple #[.string (bs S.1), .bool S.2.1, .int .i64 S.2.2]) ∧ Below w.heap.size w w' := by
  subst hS
  by_cases hw : Cb.wrong [a.data.toList, b.data.toList] = 0
  · cases hm : Cb.meet a.data.toList b.data.toList with
    | none => exact (rMeet_no a b w ha hb hw hm).mono fun e w' h => ⟨by rw [h.1, Cb.MeetS_no hw hm], h.2⟩
    | some m => exact (rMeet_yes a b (bs m) w ha hb hw hm).mono fun e w' h => ⟨by rw [h.1, Cb.MeetS_yes hw hm], h.2⟩
  · exact (rMeet_bad a b w ha hb hw).mono fun e w' h => ⟨by rw [h.1, Cb.MeetS_bad hw], h.2⟩

theorem rInside_any (a b : ByteArray) (w : World) (ha : a.size ≤ maxLen) (hb : b.size ≤ maxLen) (S : Bool × Int) (hS : Cb.InsideS a.data.toList b.data.toList = S) :
    Calls Tryz.prog 70 #[.string a, .string b] w fun e w' => e = .returned (.tuple #[.bool S.1, .int .i64 S.2]) ∧ Below w.heap.size w w' := by
  subst hS
  by_cases hw : Cb.wrong [a.data.toList, b.data.toList] = 0
  · cases hm : Cb.meet a.data.toList b.data.toList with
    | none => exact (rInside_no a b w ha hb hw hm).mono fun e w' h => ⟨by rw [h.1, Cb.InsideS_no hw hm], h.2⟩
    | some m => exact (rInside_yes a b (bs m) w ha hb hw hm).mono fun e w' h => ⟨by rw [h.1, Cb.InsideS_yes hw hm], h.2⟩
  · exact (rInside_bad a b w ha hb hw).mono fun e w' h => ⟨by rw [h.1, Cb.InsideS_bad hw], h.2⟩

theorem Has_any (a b : ByteArray) (w : World) (ha : a.size ≤ maxLen) (hb : b.size ≤ maxLen) (S : Bool × Int) (hS : Cb.HasS a.data.toList b.data.toList = S) :
    Calls Tryz.prog 56 #[.string a, .string b] w fun e w' => e = .returned (.tuple #[.bool S.1, .int .i64 S.2]) ∧ Below w.heap.size w w' := by
  subst hS
  cases hc : Cb.isCube a.data.toList with
  | false => exact (Has_nocube a b w ha hc).mono fun e w' h => ⟨by rw [h.1]; unfold Cb.HasS; rw [hc]; rfl, h.2⟩
  | true =>
    cases hh : Cb.isHead b.data.toList with
    | false => exact (Has_nohead a b w ha hb hc hh).mono fun e w' h => ⟨by rw [h.1]; unfold Cb.HasS; rw [hc, hh]; rfl, h.2⟩
    | true =>
      by_cases hw : Cb.wrong [a.data.toList, b.data.toList] = 0
      · cases hm : Cb.meet a.data.toList b.data.toList with
        | none => exact (Has_no a b w ha hb hh hw hm).mono fun e w' h => ⟨by rw [h.1]; unfold Cb.HasS; rw [hc, hh, hm]; simp [hw], h.2⟩
        | some m => exact (Has_yes a b (bs m) w ha hb hh hw hm).mono fun e w' h => ⟨by rw [h.1]; unfold Cb.HasS; rw [hc, hh, hm]; simp [hw], h.2⟩
      · exact (Has_bad a b w ha hb hc hh hw).mono fun e w' h => ⟨by rw [h.1]; unfold Cb.HasS; rw [hc, hh]; simp [hw], h.2⟩

set_option maxHeartbeats 400000 in
set_option maxRecDepth 20000 in
theorem rHas_nocube (a b : ByteArray) (w : World) (ha : a.size ≤ maxLen) (hw : Cb.isCube a.data.toList = false) :
    Calls Tryz.prog 58 #[.string a, .string b] w fun e w' => e = .returned (.tuple #[.bool false, .int .i64 10]) ∧ Below w.heap.size w w' := by
  have HW := Lib.hid hw
  clear hw
  go_enter Tryz.func58, Tryz.ntmps58
  go_wp2_with fail
  refine (Right_false _ ha HW.out).mono ?_
  rintro e w' ⟨rfl, rfl⟩
  go_wp2_with fail
  go_ret2
  exact ⟨rfl, Below.refl _ _⟩

set_option maxHeartbeats 400000 in
set_option maxRecDepth 20000 in
theorem rHas_nohead (a b : ByteArray) (w : World) (ha : a.size ≤ maxLen) (hb : b.size ≤ maxLen) (hw : Cb.isCube a.data.toList = true) (hh : Cb.isHead b.data.toList = false) :
    Calls Tryz.prog 58 #[.string a, .string b] w fun e w' => e = .returned (.tuple #[.bool false, .int .i64 10]) ∧ Below w.heap.size w w' := by
  have HW := Lib.hid hw
  have HH := Lib.hid hh
  clear hw hh
  go_enter Tryz.func58, Tryz.ntmps58
  go_wp2_with fail
  refine (Right_true _ ha HW.out).mono ?_
  rintro e w' ⟨rfl, rfl⟩
  go_wp2_with fail
  refine (Header_false _ hb HH.out).mono ?_
  rintro e w' ⟨rfl, rfl⟩
  go_wp2_with fail
  go_ret2
  exact ⟨rfl, Below.refl _ _⟩

set_option maxHeartbeats 400000 in
set_option maxRecDepth 20000 in
theorem rHas_ok (a b : ByteArray) (w : World) (ha : a.size ≤ maxLen) (hb : b.size ≤ maxLen) (hw : Cb.isCube a.data.toList = true) (hh : Cb.isHead b.data.toList = true) (S : Bool × Int) (hS : Cb.HasS a.data.toList b.data.toList = S) :
    Calls Tryz.prog 58 #[.string a, .string b] w fun e w' => e = .returned (.tuple #[.bool S.1, .int .i64 S.2]) ∧ Below w.heap.size w w' := by
  have HS := Lib.hid ((Cb.HasS_inside hw hh).trans hS)
  have HW := Lib.hid hw
  have HH := Lib.hid hh
  clear hw hh hS
  go_enter Tryz.func58, Tryz.ntmps58
  go_wp2_with fail
  refine (Right_true _ ha HW.out).mono ?_
  rintro e w' ⟨rfl, rfl⟩
  go_wp2_with fail
  refine (Header_true _ hb HH.out).mono ?_
  rintro e w' ⟨rfl, rfl⟩
  go_wp2_with fail
  refine (rInside_any b a _ hb ha S HS.out).mono ?_
  rintro e w' ⟨rfl, hb1⟩
  go_wp2_with fail
  go_ret2
  exact ⟨rfl, hb1⟩

theorem rHas_any (a b : ByteArray) (w : World) (ha : a.size ≤ maxLen) (hb : b.size ≤ maxLen) (S : Bool × Int) (hS : Cb.HasS a.data.toList b.data.toList = S) :
    Calls Tryz.prog 58 #[.string a, .string b] w fun e w' => e = .returned (.tuple #[.bool S.1, .int .i64 S.2]) ∧ Below w.heap.size w w' := by
  cases hc : Cb.isCube a.data.toList with
  | false => subst hS; exact (rHas_nocube a b w ha hc).mono fun e w' h => ⟨by rw [h.1]; unfold Cb.HasS; rw [hc]; rfl, h.2⟩
  | true =>
    cases hh : Cb.isHead b.data.toList with
    | false => subst hS; exact (rHas_nohead a b w ha hb hc hh).mono fun e w' h => ⟨by rw [h.1]; unfold Cb.HasS; rw [hc, hh]; rfl, h.2⟩
    | true => exact rHas_ok a b w ha hb hc hh S hS

/-- Both Cuts, in one form. -/
def CutPost (fnum : Nat) : Prop := ∀ (a b : ByteArray) (w : World), a.size ≤ maxLen → b.size ≤ maxLen →
    Calls Tryz.prog fnum #[.string a, .string b] w fun e w' => ∃ v, e = .returned (.tuple #[v, .int .i64 (Cb.wrong [a.data.toList, b.data.toList])]) ∧
      RdsS w' v ((if Cb.wrong [a.data.toList, b.data.toList] = 0 then Cb.cut a.data.toList b.data.toList else []).map bs) ∧ Below w.heap.size w w'

theorem vs_map (L : List (List UInt8)) : vs L = (L.map bs).map Value.string := by simp [vs]

end Go.Proofs.YtlbelkjgaeaaeaaGreat
