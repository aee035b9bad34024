/-
  Laws of memory: copy at elements of more cells than one; append of zeros onto a row that has no room.
-/
import Derived.Laws.AppendOwn
import Derived.Laws.CopyRow
import Derived.Lib.AppendZeros
import Derived.Shelf.Spec.SlicesInsert
import Derived.Test.YtlmpaeefhpahoaaDoorVecI
namespace Go.Proofs.YtlmpaeefhpahoaaDoor
open Go.RowKit

theorem run_copy_rowk {P : Program} (w : World) (dT sT ty elem : TypeId) (k g o dLen dCap : Nat) (a : Addr) (sLen sCap : Nat) (cur : Array Value) (t : TypeId) (cs : List Value) (m : Nat)
    (hu : P.underlying dT = some (.slice elem)) (hs : (P.info? elem).map (·.size) = some k)
    (hg : w.heap[g]? = some (.cells cur t (0, 0))) (hm : m = Nat.min sLen dLen) (hn : cs.length = m * k)
    (hsrc : ∀ j v, cs[j]? = some v → w.cell? (a.add j) = some v) (hfit : o + cs.length ≤ cur.size) (h1 : ∀ v ∈ cs, v.oneCell' = true) :
    (Builtin.copy_ #[dT, sT] ty #[.slice (some ⟨g, o, none⟩) dLen dCap, .slice (some a) sLen sCap]).run P w =
      .ok (goInt m) (w.setRow g (cur.toList.take o ++ cs ++ cur.toList.drop (o + cs.length)).toArray) := by
  have hl := run_loadCells_list (P := P) w a cs hsrc
  have hst := run_storeCells_at P g o t cs 0 cur w hg (by simpa using hfit) h1
  cases hq : P.info? elem with
  | none => simp [hq] at hs
  | some i =>
    have hi : i.size = k := by simpa [hq] using hs
    simp [Builtin.copy_, run_underlying hu, Builtin.lenOf, Builtin.firstCells, sizeOf, typeInfo, hq, hi, ← hm, ← hn, hl, hst]

theorem run_append_zeros_grow {P : Program} (w : World) (t tn ty e : TypeId) (i : TypeInfo) (z : Value) (k kn : IntKind) (ht : P.underlying t = some (.slice e)) (htn : P.underlying tn = some (.int kn)) (hi : P.info? e = some i) (hz : i.zero = some z)
    (a : Addr) (sLen sCap : Nat) (xs : List Value) (hx : xs.length = sLen * i.size) (holds : ∀ j u, xs[j]? = some u → w.cell? (a.add j) = some u)
    (n : Nat) (h0 : 0 < n) (hs : 0 < i.size) (hroom : sCap < sLen + n) (h63 : sLen + n ≤ 4096) (hb : i.bytes ≤ 64) :
    (Builtin.append_ #[t, tn] ty #[.slice (some a) sLen sCap, .int k n]).run P w =
      .ok (.slice (some ⟨w.heap.size, 0, none⟩) (sLen + n) (grownCap w (sLen + n) sCap e)) (w.drew.alloc (.cells (xs.toArray ++ Builtin.zeroCells z.cells n ++ Builtin.zeroCells z.cells (grownCap w (sLen + n) sCap e - (sLen + n))) e)) := by
  have hn : n ≠ 0 := by omega
  have hw : IntKind.i64.wrap (n : Int) = n := by rw [IntKind.wrap_i64]; omega
  have h63' : ¬ (9223372036854775807 < (sLen : Int) + (n : Int)) := by omega
  have hmul : (sLen + n) * i.bytes ≤ 140737488355328 := Nat.le_trans (Nat.mul_le_mul h63 hb) (by omega)
  have h48' : ¬ (281474976710656 < Builtin.nextslicecap (sLen + n) sCap * i.bytes) := Nat.not_lt.2 (growslice_fits (bytes := i.bytes) (old := sCap) (need := sLen + n) (by omega) hmul)
  have h48i : ¬ (281474976710656 < (n : Int) * (i.bytes : Int)) := by
    rw [← Int.natCast_mul]
    have : n * i.bytes ≤ 4096 * 64 := Nat.mul_le_mul (by omega) hb
    omega
  have hneg : ¬ ((n : Int) < 0) := by omega
  have hns : ¬ (n * i.size = 0) := Nat.mul_ne_zero hn (by omega)
  have hld := run_firstCells_some (P := P) w.drew i.size sLen a sLen sCap xs hx holds
  have hno : ¬ (sLen + n ≤ sCap) := by omega
  simp [Builtin.append_, run_underlying ht, run_underlying htn, sizeOf, typeInfo, zeroValue, hi, hz, asInt, asIntOf, hw, hneg, hns, h63', h48', h48i, hno, Question.forced, hld, newRow, grownCap]

theorem run_append_two {P : Program} (w : World) (t t' ty e e' : TypeId) (ht : P.underlying t = some (.slice e)) (ht' : P.underlying t' = some (.slice e')) (args : Array Value) :
    (Builtin.append_ #[t, t'] ty args).run P w = (Builtin.append_ #[t, t] ty args).run P w := by
  simp only [Builtin.append_]
  match args[0]?, args[1]? with
  | none, _ => simp
  | some x, none => simp
  | some x, some y => cases x <;> simp [run_underlying ht, run_underlying ht']

/-- The cells of stamps. -/
def cellsV (l : List Stp) : List Value := l.flatMap fun s => [.int .i64 s.1, .int .u64 s.2]
theorem cellsV_nil : cellsV [] = [] := rfl
theorem cellsV_cons (s : Stp) (l : List Stp) : cellsV (s :: l) = .int .i64 s.1 :: .int .u64 s.2 :: cellsV l := rfl
theorem cellsV_append (a b : List Stp) : cellsV (a ++ b) = cellsV a ++ cellsV b := by simp [cellsV]
theorem cellsV_length : ∀ (l : List Stp), (cellsV l).length = l.length * 2
  | [] => rfl
  | s :: l => by rw [cellsV_cons]; simp [cellsV_length l]; omega
theorem cellsV_one (l : List Stp) : ∀ u ∈ cellsV l, u.oneCell' = true := by
  intro u hu
  obtain ⟨s, _, hu⟩ := List.mem_flatMap.1 hu
  simp only [List.mem_cons, List.mem_nil_iff, or_false] at hu
  rcases hu with rfl | rfl <;> rfl
theorem cellsV_get : ∀ (l : List Stp) (i : Nat) (h : i < l.length), (cellsV l)[i * 2]? = some (.int .i64 l[i].1) ∧ (cellsV l)[i * 2 + 1]? = some (.int .u64 l[i].2)
  | [], i, h => absurd h (Nat.not_lt_zero i)
  | s :: l, 0, _ => by simp [cellsV_cons]
  | s :: l, i + 1, h => by
    have := cellsV_get l i (by simpa using h)
    rw [cellsV_cons, show (i + 1) * 2 = i * 2 + 2 by omega]
    simpa using this

/-- What a row of the call's own reads as. -/
theorem owns_rdsP {w : World} {b : Nat} {v : Value} {l : List Stp} {n : Nat} (hn : n = l.length) (h : w.ownsRow b 43 2 v n (cellsV l)) : RdsP w v l := by
  subst hn
  obtain ⟨h1, h2⟩ := h
  rcases h2 with ⟨h2, h3⟩ | ⟨g, cap, cur, hv, hg, hh, hn, hc, hs, ht⟩
  · exact ⟨none, l.length, 0, by rw [h2, h3], rfl, by omega, fun i hi => by omega⟩
  · refine ⟨_, l.length, cap, hv, rfl, by omega, fun i hi => ⟨g, 0, rfl, ?_, ?_, ?_⟩⟩
    · rcases Nat.lt_or_ge g w.heap.size with h | h
      · exact h
      · simp [Array.getElem?_eq_none h] at hh
    · have h4 := (cellsV_get l i hi).1
      rw [← ht, List.getElem?_take_of_lt (by omega)] at h4
      simp only [World.cell?, hh, Nat.zero_add]
      simpa using h4
    · have h4 := (cellsV_get l i hi).2
      rw [← ht, List.getElem?_take_of_lt (by omega)] at h4
      simp only [World.cell?, hh, Nat.zero_add]
      simpa using h4

theorem infoSt : (Tryd.prog.info? 43).map (fun i => (i.zero, i.size, i.bytes)) = some (some (.agg #[.int .i64 0, .int .u64 0]), 2, 16) := by kernel_rfl

theorem ownsSt_form {w : World} {b : Nat} {e : TypeId} {k : Nat} {v : Value} {n : Nat} {xs : List Value} (h : w.ownsRow b e k v n xs) : ∃ ad cap, v = .slice ad n cap ∧ n ≤ cap ∧ cap ≤ maxLen := by
  rcases h.2 with ⟨h1, h2⟩ | ⟨g, cap, cur, hv, _, _, h3, h4, _⟩
  · exact ⟨none, 0, by rw [h1, h2], by omega, Nat.zero_le _⟩
  · exact ⟨_, cap, hv, h3, h4⟩

set_option maxHeartbeats 1600000 in
theorem Insert_end (base : Nat) (v : Value) (xs : List Stp) (s : Stp) (sb n : Nat) (w : World) (hnx : n = xs.length) (hown : w.ownsRow base 43 2 v n (cellsV xs)) (hbase : base ≤ w.heap.size) (hn : n ≤ 1000)
    (hs : w.heap[sb]? = some (.cells #[.int .i64 s.1, .int .u64 s.2] 43 (0, 0))) :
    Calls Tryd.prog 42 #[v, .int .i64 n, .slice (some ⟨sb, 0, none⟩) 1 1] w fun e w' => ∃ v', e = .returned v' ∧ w'.ownsRow base 43 2 v' (n + 1) (cellsV (xs ++ [s])) ∧ w.grownBy w' v.ownBlock := by
  obtain ⟨i0, hi, hz0, hz1, hz2⟩ := info_parts infoSt
  obtain ⟨v', w', hr, hown', hgr, _⟩ := run_append_own (P := Tryd.prog) w base 24 24 43 i0 _ 2 16 Tryd.underlying24 hi hz0 hz1 hz2 rfl (by decide) v n (cellsV xs) hown ⟨sb, 0, none⟩ 1 1 (cellsV [s]) rfl
    (fun j u hj => by
      have hc : w.cell? ⟨sb, j, none⟩ = (#[Value.int .i64 s.1, .int .u64 s.2] : Array Value)[j]? := by simp [World.cell?, hs]
      rw [Addr.add_lit, Nat.zero_add, hc]
      simpa [cellsV] using hj)
    (cellsV_one _) (by unfold maxLen; omega) (by omega) hbase
  rw [← run_append_two w _ 23 _ _ _ Tryd.underlying24 Tryd.underlying23] at hr
  have HR := Lib.hid hr
  have HO : Hid (w'.ownsRow base 43 2 v' (n + 1) (cellsV (xs ++ [s]))) := by rw [cellsV_append]; exact hown'
  have HG := Lib.hid hgr
  obtain ⟨ad, cap, rfl, hnc, hcm⟩ := ownsSt_form hown
  unfold maxLen at hcm
  clear hr hown' hgr hown hnx
  by_cases hc : n = cap
  · subst hc
    go_enter Tryd.func42, Tryd.ntmps42
    go_wp2_with (at_builtin; refine Lib.wpList_append_run _ rfl _ _ 24 23 rfl _ _ rfl rfl _ _ HR.out ?_)
    go_ret
    exact ⟨_, rfl, HO.out, HG.out⟩
  · have hc' : ¬ ((n : Int) = cap) := by omega
    go_enter Tryd.func42, Tryd.ntmps42
    go_wp2_with (at_builtin; refine Lib.wpList_append_run _ rfl _ _ 24 23 rfl _ _ rfl rfl _ _ HR.out ?_)
    go_ret
    exact ⟨_, rfl, HO.out, HG.out⟩
end Go.Proofs.YtlmpaeefhpahoaaDoor
