/-
  Walks: slices.Insert inside a row.
-/
import Derived.Lib.Overlaps
import Derived.Deep.RegionLaw
import Derived.Test.YtlmpaeefhpahoaaDoorVecJ
namespace Go.Proofs.YtlmpaeefhpahoaaDoor
open Go.RowKit

theorem step_copy_runV {P : Program} {ops : Array Oper} {o : Oper} {a : Act} {w : World} {K : Act → World → Prop} {Q : Exit → Act → World → Prop} {E : Prop}
    (hg : o.guard = none) (d x : Operand) (dT sT : TypeId) (hop : o.op = Op.call { callee := Callee.builtin Builtin.copy, args := #[d, x], argTypes := #[dT, sT] })
    (v u : Value) (hd : a.eval d = v) (hx : a.eval x = u) {v' : Value} {w' : World} (hr : (Builtin.copy_ #[dT, sT] o.type #[v, u]).run P w = .ok v' w') (hK : K (a.put o.dst v') w') :
    if Region.wanted o (yielded ops a.tmps) = true then Oper.wp P o a w K Q else E := step_copy_runI hg d x dT sT hop v u hd hx hr hK

theorem splice_in (X1 X2 S R : List Value) (i k : Nat) (h1 : X1.length = i) (h2 : 2 ≤ X2.length) (hk : k = i + 2 + X2.length) :
    (((X1 ++ X2 ++ R).take (i + 2) ++ X2 ++ (X1 ++ X2 ++ R).drop k).take i ++ S ++ ((X1 ++ X2 ++ R).take (i + 2) ++ X2 ++ (X1 ++ X2 ++ R).drop k).drop (i + 2)) = X1 ++ S ++ X2 ++ R.drop 2 := by
  subst h1
  subst hk
  have e1 : (X1 ++ X2 ++ R).take (X1.length + 2) = X1 ++ X2.take 2 := by
    rw [List.append_assoc, List.take_length_add_append, List.take_append_of_le_length h2]
  have e2 : (X1 ++ X2 ++ R).drop (X1.length + 2 + X2.length) = R.drop 2 := by
    rw [List.drop_append, List.length_append]
    rw [List.drop_eq_nil_of_le (by simp only [List.length_append]; omega)]
    rw [show X1.length + 2 + X2.length - (X1.length + X2.length) = 2 by omega]
    simp
  rw [e1, e2]
  have e3 : (X1 ++ X2.take 2 ++ X2 ++ R.drop 2).take X1.length = X1 := by
    rw [List.append_assoc, List.append_assoc]
    exact List.take_left
  have e4 : (X1 ++ X2.take 2 ++ X2 ++ R.drop 2).drop (X1.length + 2) = X2 ++ R.drop 2 := by
    rw [List.append_assoc]
    have : (X1 ++ X2.take 2).length = X1.length + 2 := by simp; omega
    rw [← this]
    exact List.drop_left
  rw [e3, e4]
  simp

set_option maxHeartbeats 800000 in
set_option maxRecDepth 100000 in
theorem Insert_room (base : Nat) (g n cap i : Nat) (xs : List Stp) (s : Stp) (sb : Nat) (w : World) (hnx : n = xs.length) (hi : i < n) (hroom : n + 1 ≤ cap) (hown : w.ownsRow base 43 2 (.slice (some ⟨g, 0, none⟩) n cap) n (cellsV xs)) (hn : n ≤ 1000) (hsb : sb ≠ g)
    (hs : w.heap[sb]? = some (.cells #[.int .i64 s.1, .int .u64 s.2] 43 (0, 0))) :
    Calls Tryd.prog 42 #[.slice (some ⟨g, 0, none⟩) n cap, .int .i64 i, .slice (some ⟨sb, 0, none⟩) 1 1] w fun e w' => ∃ v', e = .returned v' ∧ w'.ownsRow base 43 2 v' (n + 1) (cellsV (xs.take i ++ s :: xs.drop i)) ∧ w.grownBy w' (some g) := by
  rcases hown with ⟨hxl, ⟨h1, h2⟩ | ⟨g', cap', cur, hv, hg, hh, hnc, hcm, hcs, ht⟩⟩
  · cases h1
  obtain ⟨rfl, rfl⟩ : g = g' ∧ cap = cap' := by simpa using hv
  clear hv
  unfold maxLen at hcm
  -- the row's cells
  obtain ⟨R, hR⟩ : ∃ R, cur.toList = cellsV (xs.take i) ++ cellsV (xs.drop i) ++ R := by
    refine ⟨cur.toList.drop (n * 2), ?_⟩
    rw [← cellsV_append, List.take_append_drop, ← ht, List.take_append_drop]
  have hX1 : (cellsV (xs.take i)).length = i * 2 := by rw [cellsV_length, List.length_take]; omega
  have hX2 : (cellsV (xs.drop i)).length = (n - i) * 2 := by rw [cellsV_length, List.length_drop]; omega
  have hRl : R.length = (cap - n) * 2 := by
    have := congrArg List.length hR
    simp only [List.length_append, hX1, hX2, Array.length_toList, hcs] at this
    omega
  have hgs : g < w.heap.size := (Array.getElem?_eq_some_iff.1 hh).1
  have hsz : (Tryd.prog.info? 43).map (·.size) = some 2 := by
    obtain ⟨i0, hi0, _, h1, _⟩ := info_parts infoSt
    rw [hi0]; simp [h1]
  have hov : ∀ lb cb, (callFunc 55 #[.slice (some ⟨sb, 0, none⟩) 1 1, .slice (some ⟨g, (i + 1) * 2, none⟩) lb cb]).run Tryd.prog w = .ok (.value (.bool false)) w := fun lb cb => by
    rw [run_callFunc_extern Tryd.func55 (by kernel_rfl) (by kernel_rfl) (by kernel_rfl) (e := Extern.SlicesOverlaps.overlaps #[23, 23] #[4]) (by kernel_rfl),
      Lib.run_overlaps_apart w 23 4 43 Tryd.underlying23 2 Tryd.sizeOf43 ⟨sb, 0, none⟩ ⟨g, (i + 1) * 2, none⟩ 1 1 lb cb hsb 43 43 2 (cap * 2) (by simp [World.shape?, hs]) (by simp [World.shape?, hh, hcs]) (by omega) (by simp [World.frozen?, hs]) (by simp [World.frozen?, hs])]
    rfl
  have hcp1 : ∀ ty dc sc, (Builtin.copy_ #[24, 24] ty #[.slice (some ⟨g, (i + 1) * 2, none⟩) (n - i) dc, .slice (some ⟨g, i * 2, none⟩) (n + 1 - i) sc]).run Tryd.prog w.drew = .ok (goInt ((n - i : Nat) : Int)) (w.drew.setRow g (cur.toList.take ((i + 1) * 2) ++ cellsV (xs.drop i) ++ cur.toList.drop ((i + 1) * 2 + (cellsV (xs.drop i)).length)).toArray) := fun ty dc sc =>
    run_copy_rowk w.drew _ _ ty 43 2 g ((i + 1) * 2) (n - i) dc ⟨g, i * 2, none⟩ (n + 1 - i) sc cur _ (cellsV (xs.drop i)) (n - i) Tryd.underlying24 hsz hh (by simp only [Nat.min_def]; split <;> omega) hX2
      (fun j u hj => by
        rw [Addr.add_lit]
        have : cur.toList[i * 2 + j]? = some u := by
          rw [hR, List.append_assoc, List.getElem?_append_right (by omega), hX1, show i * 2 + j - i * 2 = j by omega]
          have hjl : j < (cellsV (xs.drop i)).length := (List.getElem?_eq_some_iff.1 hj).1
          rw [List.getElem?_append_left hjl]
          exact hj
        simp only [World.cell?, World.drew, hh]
        simpa using this)
      (by rw [hX2, hcs]; omega) (cellsV_one _)
  go_enter Tryd.func42, Tryd.ntmps42
  have HR := Lib.hid hR
  have HH := Lib.hid hh
  have HS := Lib.hid hs
  have HT := Lib.hid ht
  have HC1 := Lib.hid hcp1
  have HSZ := Lib.hid hsz
  have HX := Lib.hid hxl
  have HX1 := Lib.hid hX1
  have HX2 := Lib.hid hX2
  have HRl := Lib.hid hRl
  have HCS := Lib.hid hcs
  have HNX := Lib.hid hnx
  clear hR hh hs ht hcp1 hsz hxl hX1 hX2 hRl hcs hnx
  have hw1 : IntKind.i64.wrap ((i : Int) + 1) = (i : Int) + 1 := IntWalk.i64_in _ (by omega)
  have hw2 : IntKind.i64.wrap ((n : Int) + 1) = (n : Int) + 1 := IntWalk.i64_in _ (by omega)
  have hb0 : ¬ ((i : Int) = n) := by omega
  have hb1 : (0 : Int) ≤ (i : Int) + 1 := by omega
  have hb2 : (0 : Int) ≤ (n : Int) + 1 := by omega
  have hb3 : ((i : Int) + 1).toNat = i + 1 := by omega
  have hb4 : ((n : Int) + 1).toNat = n + 1 := by omega
  have hb5 : ¬ (cap = i) := by omega
  have hb6 : ¬ (cap = i + 1) := by omega
  have hb7 : (n : Int) + 1 ≤ cap := by omega
  have hb8 : (i : Int) ≤ n := by omega
  have hb9 : (i : Int) + 1 ≤ (n : Int) + 1 := by omega
  have hb10 : (i : Int) ≤ (n : Int) + 1 := by omega
  -- the two copies
  obtain ⟨W1, hW1⟩ : ∃ W1, W1 = w.drew.setRow g (cur.toList.take ((i + 1) * 2) ++ cellsV (xs.drop i) ++ cur.toList.drop ((i + 1) * 2 + (cellsV (xs.drop i)).length)).toArray := ⟨_, rfl⟩
  have HW1 := Lib.hid hW1
  rw [← hW1] at HC1
  clear hW1
  have HG1 : Hid (W1.heap[g]? = some (.cells (cur.toList.take ((i + 1) * 2) ++ cellsV (xs.drop i) ++ cur.toList.drop ((i + 1) * 2 + (cellsV (xs.drop i)).length)).toArray 43 (0, 0))) := by
    show W1.heap[g]? = _
    rw [HW1.out]
    exact setRow_heap w.drew g cur _ _ _ HH.out
  have HS1 : Hid (W1.heap[sb]? = some (.cells #[.int .i64 s.1, .int .u64 s.2] 43 (0, 0))) := by
    show W1.heap[sb]? = _
    rw [HW1.out, setRow_other w.drew g sb _ hsb]
    exact HS.out
  have HL1 : Hid ((cur.toList.take ((i + 1) * 2) ++ cellsV (xs.drop i) ++ cur.toList.drop ((i + 1) * 2 + (cellsV (xs.drop i)).length)).length = cap * 2) := by
    show List.length _ = _
    have h1 := HX2.out
    have h2 := HCS.out
    simp only [List.length_append, List.length_take, List.length_drop, Array.length_toList, h1, h2]
    omega
  obtain ⟨A1, hA1⟩ : ∃ A1, A1 = cur.toList.take ((i + 1) * 2) ++ cellsV (xs.drop i) ++ cur.toList.drop ((i + 1) * 2 + (cellsV (xs.drop i)).length) := ⟨_, rfl⟩
  rw [← hA1] at HG1 HL1
  have HA1 := Lib.hid hA1
  clear hA1
  have HC2 : Hid (∀ ty dc, (Builtin.copy_ #[24, 23] ty #[.slice (some ⟨g, i * 2, none⟩) (n + 1 - i) dc, .slice (some ⟨sb, 0, none⟩) 1 1]).run Tryd.prog W1 = .ok (goInt ((1 : Nat) : Int)) (W1.setRow g (A1.toArray.toList.take (i * 2) ++ cellsV [s] ++ A1.toArray.toList.drop (i * 2 + (cellsV [s]).length)).toArray)) := fun ty dc =>
    run_copy_rowk W1 _ _ ty 43 2 g (i * 2) (n + 1 - i) dc ⟨sb, 0, none⟩ 1 1 A1.toArray _ (cellsV [s]) 1 Tryd.underlying24 HSZ.out HG1.out (by simp only [Nat.min_def]; split <;> omega) rfl
      (fun j u hj => by
        have hc : W1.cell? ⟨sb, j, none⟩ = (#[Value.int .i64 s.1, .int .u64 s.2] : Array Value)[j]? := by simp [World.cell?, HS1.out]
        rw [Addr.add_lit, Nat.zero_add, hc]
        simpa [cellsV] using hj)
      (by have := HL1.out; simp only [List.size_toArray, this]; show i * 2 + 2 ≤ cap * 2; omega) (cellsV_one _)
  go_wp2_with (simp only [hov])
  go_region_law (first | refine step_copy_runV rfl (.tmp 73) (.tmp 76) 24 24 rfl (.slice (some ⟨g, (i + 1) * 2, none⟩) (n - i) (cap - (i + 1))) (.slice (some ⟨g, i * 2, none⟩) (n + 1 - i) (cap - i)) (by simp [Act.eval, Act.put]) (by simp [Act.eval, Act.put]) (HC1.out _ _ _) ?_)
  go_wp2_with (refine wpList_copy_runI _ rfl (.tmp 80) (.tmp 81) 24 23 rfl (.slice (some ⟨g, i * 2, none⟩) (n + 1 - i) (cap - i)) (.slice (some ⟨sb, 0, none⟩) 1 1) (by simp [Act.eval]) (by simp [Act.eval]) (HC2.out _ _) ?_)
  go_ret
  refine ⟨_, rfl, ?_, ?_⟩
  · have e : A1.take (i * 2) ++ cellsV [s] ++ A1.drop (i * 2 + (cellsV [s]).length) = cellsV (xs.take i) ++ cellsV [s] ++ cellsV (xs.drop i) ++ R.drop 2 := by
      rw [HA1.out, HR.out, HX2.out]
      have h1 := HX1.out
      have h2 := HX2.out
      have := splice_in (cellsV (xs.take i)) (cellsV (xs.drop i)) (cellsV [s]) R (i * 2) ((i + 1) * 2 + (n - i) * 2) h1 (by rw [h2]; omega) (by rw [h2]; omega)
      rw [show (i + 1) * 2 = i * 2 + 2 by omega] at this ⊢
      exact this
    have e2 : cellsV (xs.take i ++ s :: xs.drop i) = cellsV (xs.take i) ++ cellsV [s] ++ cellsV (xs.drop i) := by
      rw [cellsV_append, show s :: xs.drop i = [s] ++ xs.drop i from rfl, cellsV_append, List.append_assoc]
    have hlen : (cellsV (xs.take i ++ s :: xs.drop i)).length = (n + 1) * 2 := by
      rw [cellsV_length]
      have := HNX.out
      simp only [List.length_append, List.length_take, List.length_cons, List.length_drop]
      omega
    refine ⟨hlen, .inr ⟨g, cap, _, rfl, hg, setRow_heap W1 g A1.toArray _ _ _ HG1.out, hroom, by unfold maxLen; omega, ?_, ?_⟩⟩
    · show (List.toArray _).size = _
      simp only [List.size_toArray]
      rw [← List.append_assoc, e]
      have h1 := HX1.out
      have h2 := HX2.out
      have h3 := HRl.out
      simp only [List.length_append, List.length_drop, h1, h2, h3, cellsV_length, List.length_cons, List.length_nil]
      omega
    · show List.take _ (List.toArray _).toList = _
      simp only
      rw [← List.append_assoc, e, ← e2, ← hlen]
      exact List.take_left
  · refine ⟨?_, ?_, ?_, ?_, fun k hk hne => ?_⟩
    · rw [HW1.out]; rfl
    · rw [HW1.out]; rfl
    · rw [HW1.out]; rfl
    · rw [HW1.out]; simp [World.setRow]
    · have hkg : k ≠ g := fun e => hne (by rw [e])
      rw [setRow_other W1 g k _ hkg, HW1.out, setRow_other w.drew g k _ hkg]
      rfl
end Go.Proofs.YtlmpaeefhpahoaaDoor
