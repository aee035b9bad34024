/-
  Walks: slices.Insert where a row has no room; slices.Insert at every row of the call's own.
-/
import Derived.Test.YtlmpaeefhpahoaaDoorVecK
namespace Go.Proofs.YtlmpaeefhpahoaaDoor
open Go.RowKit

theorem splice_new (X1 Z S X2 : List Value) (i k : Nat) (h1 : X1.length = i) (hS : S.length = 2) (hk : k = i + 2 + X2.length) :
    ((X1 ++ Z).take i ++ S ++ (X1 ++ Z).drop (i + 2)).take (i + 2) ++ X2 ++ ((X1 ++ Z).take i ++ S ++ (X1 ++ Z).drop (i + 2)).drop k = X1 ++ S ++ X2 ++ Z.drop (2 + X2.length) := by
  subst h1
  subst hk
  have e1 : (X1 ++ Z).take X1.length = X1 := List.take_left
  have e2 : (X1 ++ Z).drop (X1.length + 2) = Z.drop 2 := by
    rw [List.drop_append, List.drop_eq_nil_of_le (by omega)]
    simp
  rw [e1, e2]
  have e3 : (X1 ++ S ++ Z.drop 2).take (X1.length + 2) = X1 ++ S := by
    have : (X1 ++ S).length = X1.length + 2 := by rw [List.length_append, hS]
    rw [← this]
    exact List.take_left
  have e4 : (X1 ++ S ++ Z.drop 2).drop (X1.length + 2 + X2.length) = Z.drop (2 + X2.length) := by
    have : (X1 ++ S).length = X1.length + 2 := by rw [List.length_append, hS]
    rw [List.drop_append, List.drop_eq_nil_of_le (by omega), this]
    simp
  rw [e3, e4]

set_option maxHeartbeats 800000 in
set_option maxRecDepth 100000 in
theorem Insert_grow (base : Nat) (g n cap i : Nat) (xs : List Stp) (s : Stp) (sb : Nat) (w : World) (hnx : n = xs.length) (hi : i < n) (hroom : cap < n + 1) (hown : w.ownsRow base 43 2 (.slice (some ⟨g, 0, none⟩) n cap) n (cellsV xs)) (hbase : base ≤ w.heap.size) (hn : n ≤ 1000)
    (hs : w.heap[sb]? = some (.cells #[.int .i64 s.1, .int .u64 s.2] 43 (0, 0))) :
    Calls Tryd.prog 42 #[.slice (some ⟨g, 0, none⟩) n cap, .int .i64 i, .slice (some ⟨sb, 0, none⟩) 1 1] w fun e w' => ∃ v', e = .returned v' ∧ w'.ownsRow base 43 2 v' (n + 1) (cellsV (xs.take i ++ s :: xs.drop i)) ∧ w.grownBy w' (some g) := by
  rcases hown with ⟨hxl, ⟨h1, h2⟩ | ⟨g', cap', cur, hv, hg, hh, hnc, hcm, hcs, ht⟩⟩
  · cases h1
  obtain ⟨rfl, rfl⟩ : g = g' ∧ cap = cap' := by simpa using hv
  clear hv
  obtain rfl : cap = n := by omega
  unfold maxLen at hcm
  obtain ⟨i0, hi0, hz0, hz1, hz2⟩ := info_parts infoSt
  have hcur : ∀ j u, (cellsV xs)[j]? = some u → w.cell? ⟨g, j, none⟩ = some u := fun j u hj => by
    rw [← ht] at hj
    have hjl : j < cap * 2 := by
      have := (List.getElem?_eq_some_iff.1 hj).1
      simp only [List.length_take] at this
      omega
    rw [List.getElem?_take_of_lt hjl] at hj
    simp only [World.cell?, hh]
    simpa using hj
  have hsplit : cellsV xs = cellsV (xs.take i) ++ cellsV (xs.drop i) := by rw [← cellsV_append, List.take_append_drop]
  have hX1 : (cellsV (xs.take i)).length = i * 2 := by rw [cellsV_length, List.length_take]; omega
  have hX2 : (cellsV (xs.drop i)).length = (cap - i) * 2 := by rw [cellsV_length, List.length_drop]; omega
  obtain ⟨k, hk⟩ : ∃ k, k = cap + 1 - i := ⟨_, rfl⟩
  obtain ⟨gc, hgc⟩ : ∃ gc, gc = grownCap w (cap + 1) cap 43 := ⟨_, rfl⟩
  have hgc1 : cap + 1 ≤ gc := by rw [hgc]; exact grownCap_ge w (cap + 1) cap _
  have hgc2 : gc ≤ maxLen := by rw [hgc]; exact grownCap_le_maxLen w (cap + 1) cap _ (by unfold maxLen; omega)
  have hr := run_append_zeros_grow (P := Tryd.prog) w 24 3 24 43 i0 _ .i64 .i64 Tryd.underlying24 Tryd.underlying3 hi0 hz0 ⟨g, 0, none⟩ i cap (cellsV (xs.take i)) (by rw [hz1]; exact hX1)
    (fun j u hj => by
      rw [Addr.add_lit, Nat.zero_add]
      refine hcur j u ?_
      rw [hsplit, List.getElem?_append_left (List.getElem?_eq_some_iff.1 hj).1]
      exact hj) k (by omega) (by omega) (by omega) (by omega) (by omega)
  rw [show i + k = cap + 1 by omega, ← hgc] at hr
  obtain ⟨Z, hZ⟩ : ∃ Z : List Value, (Builtin.zeroCells (Value.agg #[.int .i64 0, .int .u64 0]).cells k ++ Builtin.zeroCells (Value.agg #[.int .i64 0, .int .u64 0]).cells (gc - (cap + 1))).toList = Z := ⟨_, rfl⟩
  have hZl : Z.length = (gc - i) * 2 := by
    rw [← hZ]
    simp only [Array.length_toList, Array.size_append, size_zeroCells]
    show k * 2 + (gc - (cap + 1)) * 2 = _
    omega
  obtain ⟨W2, hW2⟩ : ∃ W2, w.drew.alloc (.cells (cellsV (xs.take i) ++ Z).toArray 43) = W2 := ⟨_, rfl⟩
  have hcells : ((cellsV (xs.take i)).toArray ++ Builtin.zeroCells (Value.agg #[.int .i64 0, .int .u64 0]).cells k ++ Builtin.zeroCells (Value.agg #[.int .i64 0, .int .u64 0]).cells (gc - (cap + 1))) = (cellsV (xs.take i) ++ Z).toArray := by
    apply Array.ext'
    rw [← hZ]
    simp
  rw [hcells, hW2] at hr
  obtain ⟨g2, hg2⟩ : ∃ g2, g2 = w.heap.size := ⟨_, rfl⟩
  rw [← hg2] at hr
  have hgs : g < w.heap.size := (Array.getElem?_eq_some_iff.1 hh).1
  have hsz : (Tryd.prog.info? 43).map (·.size) = some 2 := by rw [hi0]; simp [hz1]
  have hh2 : W2.heap[g2]? = some (.cells (cellsV (xs.take i) ++ Z).toArray 43 (0, 0)) := by
    rw [← hW2, hg2]
    exact heap_alloc_new w.drew _
  have hold : ∀ q, q < w.heap.size → W2.heap[q]? = w.heap[q]? := fun q hq => by
    rw [← hW2]
    exact heap_alloc_old w.drew _ hq
  have hsbs : sb < w.heap.size := (Array.getElem?_eq_some_iff.1 hs).1
  have hcp2 : ∀ ty dc, (Builtin.copy_ #[24, 23] ty #[.slice (some ⟨g2, i * 2, none⟩) (cap + 1 - i) dc, .slice (some ⟨sb, 0, none⟩) 1 1]).run Tryd.prog W2 = .ok (goInt ((1 : Nat) : Int)) (W2.setRow g2 ((cellsV (xs.take i) ++ Z).toArray.toList.take (i * 2) ++ cellsV [s] ++ (cellsV (xs.take i) ++ Z).toArray.toList.drop (i * 2 + (cellsV [s]).length)).toArray) := fun ty dc =>
    run_copy_rowk W2 _ _ ty 43 2 g2 (i * 2) (cap + 1 - i) dc ⟨sb, 0, none⟩ 1 1 (cellsV (xs.take i) ++ Z).toArray _ (cellsV [s]) 1 Tryd.underlying24 hsz hh2 (by simp only [Nat.min_def]; split <;> omega) rfl
      (fun j u hj => by
        have hc : W2.cell? ⟨sb, j, none⟩ = (#[Value.int .i64 s.1, .int .u64 s.2] : Array Value)[j]? := by simp [World.cell?, hold sb hsbs, hs]
        rw [Addr.add_lit, Nat.zero_add, hc]
        simpa [cellsV] using hj)
      (by simp only [List.size_toArray, List.length_append, hX1, hZl]; show i * 2 + 2 ≤ _; omega) (cellsV_one _)
  obtain ⟨A2, hA2⟩ : ∃ A2, (cellsV (xs.take i) ++ Z).toArray.toList.take (i * 2) ++ cellsV [s] ++ (cellsV (xs.take i) ++ Z).toArray.toList.drop (i * 2 + (cellsV [s]).length) = A2 := ⟨_, rfl⟩
  have hA2l : A2.length = gc * 2 := by
    rw [← hA2]
    simp only [List.length_append, List.length_take, List.length_drop, hX1, hZl, cellsV_length, List.length_cons, List.length_nil]
    omega
  rw [hA2] at hcp2
  obtain ⟨W3, hW3⟩ : ∃ W3, W2.setRow g2 A2.toArray = W3 := ⟨_, rfl⟩
  rw [hW3] at hcp2
  have hh3 : W3.heap[g2]? = some (.cells A2.toArray 43 (0, 0)) := by
    rw [← hW3]
    exact setRow_heap W2 g2 _ _ _ _ hh2
  have hold3 : ∀ q, q < w.heap.size → W3.heap[q]? = w.heap[q]? := fun q hq => by
    rw [← hW3, setRow_other W2 g2 q _ (by omega)]
    exact hold q hq
  have hcp3 : ∀ ty dc sc, (Builtin.copy_ #[24, 24] ty #[.slice (some ⟨g2, (i + 1) * 2, none⟩) (cap - i) dc, .slice (some ⟨g, i * 2, none⟩) (cap - i) sc]).run Tryd.prog W3.drew = .ok (goInt ((cap - i : Nat) : Int)) (W3.drew.setRow g2 (A2.toArray.toList.take ((i + 1) * 2) ++ cellsV (xs.drop i) ++ A2.toArray.toList.drop ((i + 1) * 2 + (cellsV (xs.drop i)).length)).toArray) := fun ty dc sc =>
    run_copy_rowk W3.drew _ _ ty 43 2 g2 ((i + 1) * 2) (cap - i) dc ⟨g, i * 2, none⟩ (cap - i) sc A2.toArray _ (cellsV (xs.drop i)) (cap - i) Tryd.underlying24 hsz hh3 (by simp only [Nat.min_def]; split <;> omega) hX2
      (fun j u hj => by
        rw [Addr.add_lit]
        have h5 : W3.drew.cell? ⟨g, i * 2 + j, none⟩ = w.cell? ⟨g, i * 2 + j, none⟩ := by simp only [World.cell?, World.drew, hold3 g hgs]
        rw [h5]
        refine hcur _ _ ?_
        rw [hsplit, List.getElem?_append_right (by omega), hX1, show i * 2 + j - i * 2 = j by omega]
        exact hj)
      (by simp only [List.size_toArray, hA2l, hX2]; omega) (cellsV_one _)
  have HFin : Hid (∀ w', w' = W3.drew.setRow g2 (A2.toArray.toList.take ((i + 1) * 2) ++ cellsV (xs.drop i) ++ A2.toArray.toList.drop ((i + 1) * 2 + (cellsV (xs.drop i)).length)).toArray →
      w'.ownsRow base 43 2 (.slice (some ⟨g2, 0, none⟩) (cap + 1) gc) (cap + 1) (cellsV (xs.take i ++ s :: xs.drop i)) ∧ w.grownBy w' (some g)) := by
    intro w' hw'
    have e : A2.take ((i + 1) * 2) ++ cellsV (xs.drop i) ++ A2.drop ((i + 1) * 2 + (cellsV (xs.drop i)).length) = cellsV (xs.take i) ++ cellsV [s] ++ cellsV (xs.drop i) ++ Z.drop (2 + (cellsV (xs.drop i)).length) := by
      have h6 := splice_new (cellsV (xs.take i)) Z (cellsV [s]) (cellsV (xs.drop i)) (i * 2) (i * 2 + 2 + (cellsV (xs.drop i)).length) hX1 rfl rfl
      have h7 : (cellsV (xs.take i) ++ Z).take (i * 2) ++ cellsV [s] ++ (cellsV (xs.take i) ++ Z).drop (i * 2 + 2) = A2 := hA2
      rw [h7] at h6
      rw [show (i + 1) * 2 = i * 2 + 2 by omega]
      exact h6
    have e2 : cellsV (xs.take i ++ s :: xs.drop i) = cellsV (xs.take i) ++ cellsV [s] ++ cellsV (xs.drop i) := by
      rw [cellsV_append, show s :: xs.drop i = [s] ++ xs.drop i from rfl, cellsV_append, List.append_assoc]
    have hlen : (cellsV (xs.take i ++ s :: xs.drop i)).length = (cap + 1) * 2 := by
      rw [cellsV_length]
      simp only [List.length_append, List.length_take, List.length_cons, List.length_drop]
      omega
    refine ⟨⟨hlen, .inr ⟨g2, gc, _, rfl, by omega, by rw [hw']; exact setRow_heap W3.drew g2 A2.toArray _ _ _ hh3, hgc1, hgc2, ?_, ?_⟩⟩, ?_⟩
    · show (List.toArray _).size = _
      rw [List.size_toArray, show A2.toArray.toList = A2 from rfl, e]
      simp only [List.length_append, List.length_drop, hX1, hX2, hZl, cellsV_length, List.length_cons, List.length_nil]
      omega
    · show List.take _ (List.toArray _).toList = _
      rw [show A2.toArray.toList = A2 from rfl, e, ← e2, ← hlen]
      exact List.take_left
    · subst hw'
      refine ⟨by rw [← hW3, ← hW2]; rfl, by rw [← hW3, ← hW2]; rfl, by rw [← hW3, ← hW2]; rfl, by rw [← hW3, ← hW2]; simp [World.setRow], fun q hq _ => ?_⟩
      rw [setRow_other W3.drew g2 q _ (by omega)]
      exact hold3 q hq
  have HR := Lib.hid hr
  have HC2 := Lib.hid hcp2
  have HC3 := Lib.hid hcp3
  have HK := Lib.hid hk
  clear hr hcp2 hcp3 hk hW2 hW3 hA2 hA2l hZ hZl hX1 hX2 hsplit hcur hcells hh hh2 hh3 hold hold3 hs ht hxl hcs hnx hgc hi0 hz0 hz1 hz2 hsz hg2
  have hw1 : IntKind.i64.wrap ((i : Int) + 1) = (i : Int) + 1 := IntWalk.i64_in _ (by omega)
  have hw2 : IntKind.i64.wrap ((cap : Int) + 1) = (cap : Int) + 1 := IntWalk.i64_in _ (by omega)
  have hw3 : IntKind.i64.wrap ((cap : Int) + 1 - i) = (k : Int) := by rw [IntWalk.i64_in _ (by omega)]; have := HK.out; omega
  have hb0 : ¬ ((i : Int) = cap) := by omega
  have hb1 : (0 : Int) ≤ (i : Int) + 1 := by omega
  have hb3 : ((i : Int) + 1).toNat = i + 1 := by omega
  have hb5 : ¬ (cap = i) := by omega
  have hb6 : ¬ (gc = i) := by omega
  have hb7 : ¬ (gc = i + 1) := by omega
  have hb8 : (i : Int) ≤ cap := by omega
  have hb9 : (i : Int) + 1 ≤ (cap : Int) + 1 := by omega
  have hb10 : (i : Int) ≤ (cap : Int) + 1 := by omega
  go_enter Tryd.func42, Tryd.ntmps42
  go_wp2_with (first | (at_builtin; refine Lib.wpList_append_run _ rfl (.tmp 34) (.tmp 39) 24 3 rfl _ _ rfl rfl _ _ HR.out ?_) | refine wpList_copy_runI _ rfl (.tmp 43) (.tmp 44) 24 23 rfl (.slice (some ⟨g2, i * 2, none⟩) (cap + 1 - i) (gc - i)) (.slice (some ⟨sb, 0, none⟩) 1 1) (by simp [Act.eval]) (by simp [Act.eval]) (HC2.out _ _) ?_)
  go_region_law (first | refine step_copy_runV rfl (.tmp 50) (.tmp 53) 24 24 rfl (.slice (some ⟨g2, (i + 1) * 2, none⟩) (cap - i) (gc - (i + 1))) (.slice (some ⟨g, i * 2, none⟩) (cap - i) (cap - i)) (by simp [Act.eval, Act.put]) (by simp [Act.eval, Act.put]) (HC3.out _ _ _) ?_)
  all_goals (go_wp2_with fail)
  all_goals go_ret
  all_goals exact ⟨_, rfl, HFin.out _ (by rw [← List.append_assoc])⟩

/-- slices.Insert of one stamp into a row of the call's own. -/
theorem Insert_any (base : Nat) (v : Value) (n i : Nat) (xs : List Stp) (s : Stp) (sb : Nat) (w : World) (hnx : n = xs.length) (hi : i ≤ n) (hown : w.ownsRow base 43 2 v n (cellsV xs)) (hbase : base ≤ w.heap.size) (hn : n ≤ 1000) (hsb : v.ownBlock ≠ some sb)
    (hs : w.heap[sb]? = some (.cells #[.int .i64 s.1, .int .u64 s.2] 43 (0, 0))) :
    Calls Tryd.prog 42 #[v, .int .i64 i, .slice (some ⟨sb, 0, none⟩) 1 1] w fun e w' => ∃ v', e = .returned v' ∧ w'.ownsRow base 43 2 v' (n + 1) (cellsV (xs.take i ++ s :: xs.drop i)) ∧ w.grownBy w' v.ownBlock := by
  by_cases hin : i = n
  · subst hin
    rw [show xs.take i ++ s :: xs.drop i = xs ++ [s] by rw [hnx, List.take_length, List.drop_length]]
    exact Insert_end base v xs s sb i w hnx hown hbase hn hs
  · rcases id hown with ⟨_, ⟨_, h2⟩ | ⟨g, cap, cur, rfl, _⟩⟩
    · omega
    · by_cases hr : n + 1 ≤ cap
      · exact Insert_room base g n cap i xs s sb w hnx (by omega) hr hown hn (fun e => hsb (by rw [e]; rfl)) hs
      · exact Insert_grow base g n cap i xs s sb w hnx (by omega) (by omega) hown hbase hn hs
end Go.Proofs.YtlmpaeefhpahoaaDoor
