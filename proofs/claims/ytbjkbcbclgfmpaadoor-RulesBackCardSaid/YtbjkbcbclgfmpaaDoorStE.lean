/-
  Walks: slices.SortStableFunc: symMergeCmpFunc.
-/
import Derived.Test.YtbjkbcbclgfmpaaDoorRgI
import Derived.Deep.DeepCutAuto
namespace Go.Proofs.YtbjkbcbclgfmpaaDoor
open Go.RowKit Go.Shelf Go.Lib Go.Sort
set_option linter.unusedVariables false
set_option linter.unusedSectionVars false
variable {P : Program} {k : Nat} {α : Type} [Inhabited α]

theorem St.lt_of {lt : α → α → Bool} (hO : SWO lt) {x y x' y' : α} (h : lt x y = true) (h1 : lt x x' = false) (h2 : lt y' y = false) : lt x' y' = true := by
  cases hc : lt x' y' with
  | true => rfl
  | false => exact absurd (hO.ntrans _ _ _ (hO.ntrans _ _ _ h1 hc) h2) (by rw [h]; simp)

theorem St.nlt_of {lt : α → α → Bool} (hO : SWO lt) {x y x' y' : α} (h : lt x y = false) (h1 : lt x' x = false) (h2 : lt y y' = false) : lt x' y' = false :=
  hO.ntrans _ _ _ (hO.ntrans _ _ _ h1 h) h2

theorem St.mrg_nil_right {lt : α → α → Bool} (u : List α) : St.mrg lt u [] = u := rfl

/-- What the search for the middle has found. -/
theorem sym_cut {lt : α → α → Bool} (hO : SWO lt) (p u v q : List α) (a m b mid s e s0 r0 : Nat) (D : Array α) (hD : D = (p ++ u ++ v ++ q).toArray) (ha : a = p.length) (hm : m = p.length + u.length) (hb : b = p.length + u.length + v.length)
    (hs0 : a ≤ s0) (h1 : s0 ≤ s) (h2 : s ≤ r0) (h3 : r0 ≤ m) (h4 : r0 ≤ mid) (h5 : mid + m ≤ s0 + b) (he : e = mid + m - s) (e0 : s0 = a ∨ s0 + b = mid + m) (e1 : r0 = m ∨ r0 = mid)
    (I1 : ∀ c, s0 ≤ c → c < s → lt D[mid + m - 1 - c]! D[c]! = false) (I2 : ∀ c, s ≤ c → c < r0 → lt D[mid + m - 1 - c]! D[c]! = true) (hu : St.Srd lt u) (hv : St.Srd lt v) :
    St.mrg lt u v = St.mrg lt (u.take (s - a)) (v.take (e - m)) ++ St.mrg lt (u.drop (s - a)) (v.drop (e - m)) := by
  have gu : ∀ i (h : i < u.length), D[a + i]! = u[i] := fun i h => by
    rw [hD, ha, List.append_assoc (p ++ u)]
    exact get_row p u (v ++ q) i h
  have gv : ∀ i (h : i < v.length), D[m + i]! = v[i] := fun i h => by
    rw [hD, hm, show p.length + u.length = (p ++ u).length by simp]
    exact get_row (p ++ u) v q i h
  have := St.mrg_halves (lt := lt) (u1 := u.take (s - a)) (u2 := u.drop (s - a)) (v1 := v.take (e - m)) (v2 := v.drop (e - m)) hO (by rw [List.take_append_drop]; exact hu) (by rw [List.take_append_drop]; exact hv) ?_ ?_
  · rw [List.take_append_drop, List.take_append_drop] at this
    exact this
  · intro x hx y hy
    obtain ⟨i, hi, h6, rfl⟩ := mem_take_get hx
    obtain ⟨j, hj, h7, rfl⟩ := mem_drop_get hy
    have hsr : s < r0 := by omega
    have h := I2 s (Nat.le_refl _) hsr
    have hu' : s - a < u.length := by omega
    have hv' : e - 1 - m < v.length := by omega
    rw [show mid + m - 1 - s = m + (e - 1 - m) by omega, gv _ hv', show D[s]! = u[s - a] by rw [← gu _ hu']; congr 1; omega] at h
    refine St.lt_of hO h ?_ ?_
    · by_cases hq : i = e - 1 - m
      · subst hq; exact hO.irrefl _
      · exact srd_get hv hi hv' (by omega)
    · by_cases hq : j = s - a
      · subst hq; exact hO.irrefl _
      · exact srd_get hu hu' hj (by omega)
  · intro x hx y hy
    obtain ⟨i, hi, h6, rfl⟩ := mem_drop_get hx
    obtain ⟨j, hj, h7, rfl⟩ := mem_take_get hy
    have hsr : s0 < s := by omega
    have h := I1 (s - 1) (by omega) (by omega)
    have hu' : s - 1 - a < u.length := by omega
    have hv' : e - m < v.length := by omega
    rw [show mid + m - 1 - (s - 1) = m + (e - m) by omega, gv _ hv', show D[s - 1]! = u[s - 1 - a] by rw [← gu _ hu']; congr 1; omega] at h
    refine St.nlt_of hO h ?_ ?_
    · by_cases hq : i = e - m
      · subst hq; exact hO.irrefl _
      · exact srd_get hv hv' hi (by omega)
    · by_cases hq : j = s - 1 - a
      · subst hq; exact hO.irrefl _
      · exact srd_get hu hj hu' (by omega)

end Go.Proofs.YtbjkbcbclgfmpaaDoor
