/-
  Walks over package cube: of.
-/
import Derived.WalkKit
import Derived.WalkSpells
import Derived.WalkLawsBesides
import Derived.Lib.Hide
import Derived.Test.YtlamhpiiikcpiaaGreatDoorShelf
import Derived.Test.YtlamhpiiikcpiaaGreatDoorRgA
import Derived.Lib.ConvBytes
import Derived.Laws.BytesArg
import Derived.Test.YtlamhpiiikcpiaaGreatDoorProg
import Derived.BigQuiet
import Derived.Deep.QuietTactic
import Derived.Defers
import Derived.Recover
import Derived.WideLaws
import Derived.Laws.Pointers
import Derived.Deep.RegionHeld3
import Derived.Deep.AppendLies
namespace Go.Proofs.YtlamhpiiikcpiaaGreatDoor
open Go.RowKit
theorem ib_any (s : ByteArray) (c : UInt8) (w : World) :
    Calls Tryz.prog 102 #[.string s, .int .u8 (c.toNat : Int)] w fun e w' => e = .returned (.int .i64 (Lib.indexByte s.data.toList c)) ∧ w = w' := by
  refine (Tryz.strings_IndexByte s c.toNat w).mono ?_
  rintro e w' ⟨rfl, rfl⟩
  exact ⟨by simp, rfl⟩
theorem all_take_succ (s : ByteArray) (n : Nat) (h : n < s.size) (p : UInt8 → Bool) : (s.data.toList.take (n + 1)).all p = ((s.data.toList.take n).all p && p s[n]) := by
  rw [List.take_succ_eq_append_getElem (by simpa using h)]
  simp
  rfl
theorem all_of_byte {s : ByteArray} {n : Nat} (h : n < s.size) {p : UInt8 → Bool} (hp : p s[n] = false) : s.data.toList.all p = false := by
  rw [List.all_eq_false]
  exact ⟨s[n], by rw [Array.mem_toList_iff]; exact Array.getElem_mem (xs := s.data) (i := n) h, by simp [hp]⟩
theorem ret_bool {a b : Bool} (h : a = b) : Ending.returned (.bool a) = .returned (.bool b) := by rw [h]
set_option maxHeartbeats 400000 in
set_option maxRecDepth 20000 in
theorem of_any (s kinds : ByteArray) (w : World) (hs : s.size ≤ maxLen) :
    Calls Tryz.prog 66 #[.string s, .string kinds] w fun e w' => e = .returned (.bool (Cb.ofB s.data.toList kinds.data.toList)) ∧ w = w' := by
  unfold maxLen at hs
  by_cases h1 : 1 ≤ s.size ∧ s.size ≤ 128
  · obtain ⟨h1, h2⟩ := h1
    go_enter Tryz.func66, Tryz.ntmps66
    go_wp2_with fail
    go_loop [5, 16] (fun _ k => ∃ n : Nat, n ≤ s.size ∧ k = .int .i64 n ∧ Hid ((s.data.toList.take n).all (fun c => kinds.data.toList.contains c) = true)) (fun _ k => s.size - (intOf k).toNat)
    case atStart => exact ⟨0, Nat.zero_le _, rfl, rfl⟩
    case round =>
      obtain ⟨n, hn, rfl, HA⟩ := hrel
      by_cases hlt : n < s.size
      · have hi := Cb.indexByte_lt kinds.data.toList s[n]
        by_cases hc : kinds.data.toList.contains s[n] = true
        · have hge : 0 ≤ Lib.indexByte kinds.data.toList s[n] := by
            rcases Int.lt_or_le (Lib.indexByte kinds.data.toList s[n]) 0 with h | h
            · rw [hi.1 h] at hc; cases hc
            · exact h
          have HC := Lib.hid hc
          clear hi hc
          go_wp2_with ((with_reducible refine (ib_any _ _ _).mono ?_); rintro e w' ⟨rfl, rfl⟩)
          go_round
          case rel => exact ⟨n + 1, by omega, by go_num, by unfold Hid; rw [all_take_succ s n hlt, HA.out, HC.out]; rfl⟩
          case measure => simp [intOf]; omega
        · have hlt0 : Lib.indexByte kinds.data.toList s[n] < 0 := hi.2 (by simpa using hc)
          have HC := Lib.hid (all_of_byte hlt (p := fun c => kinds.data.toList.contains c) (by simpa using hc))
          clear hi hc
          go_wp2_with ((with_reducible refine (ib_any _ _ _).mono ?_); rintro e w' ⟨rfl, rfl⟩)
          go_ret
          exact ⟨ret_bool (by unfold Cb.ofB; rw [HC.out]; simp), rfl⟩
      · have HE : Hid (n = s.size) := by unfold Hid; omega
        go_wp2_with fail
        go_ret
        have h3 := HA.out
        rw [HE.out, List.take_of_length_le (by simp)] at h3
        exact ⟨ret_bool (by unfold Cb.ofB; rw [h3]; simp; omega), rfl⟩
  · have HF := Lib.hid (show Cb.ofB s.data.toList kinds.data.toList = false from by unfold Cb.ofB; simp; omega)
    go_enter Tryz.func66, Tryz.ntmps66
    go_wp2_with fail
    all_goals
      go_ret
      exact ⟨ret_bool HF.out.symm, rfl⟩
end Go.Proofs.YtlamhpiiikcpiaaGreatDoor
/-
  A slice value that reads as a list of one-cell values: nil, or a row of cells.
-/
namespace Go.Proofs.YtlamhpiiikcpiaaGreatDoor
open Go.RowKit
theorem cell_set_same {w : World} {a : Addr} {u : Value} (v : Value) (h : w.cell? a = some u) : (w.setCell a v).cell? a = some v := by
  first | exact World.cell?_setCell_same _ _ _ h | exact World.cell?_setCell_same _ _ h | exact World.cell?_setCell_same _ h
theorem cell_set_other {w : World} {a b : Addr} (v : Value) (h : a ≠ b) : (w.setCell a v).cell? b = w.cell? b := by
  first | exact World.cell?_setCell_other _ _ _ _ h | exact World.cell?_setCell_other _ _ _ h | exact World.cell?_setCell_other _ _ h
/-- The slice v reads as xs. -/
def Rds (w : World) (v : Value) (xs : List Value) : Prop :=
  (∃ a c, v = .slice a 0 c ∧ xs = [] ∧ (a = none → c = 0)) ∨
  ∃ b off cap, v = .slice (some ⟨b, off, none⟩) xs.length cap ∧ xs.length ≤ cap ∧ cap ≤ maxLen ∧ b < w.heap.size ∧ ∀ i (h : i < xs.length), w.cell? ⟨b, off + i, none⟩ = some xs[i]
/-- The slice v reads as strings. -/
def RdsS (w : World) (v : Value) (ss : List ByteArray) : Prop := Rds w v (ss.map Value.string)
/-- The slice v reads as strings: nil, or a row. -/
theorem rdsS_cases {w : World} {v : Value} {ss : List ByteArray} (h : RdsS w v ss) :
    (∃ a c, v = .slice a 0 c ∧ ss = []) ∨
    ∃ b off len cap, v = .slice (some ⟨b, off, none⟩) len cap ∧ len = ss.length ∧ len ≤ cap ∧ cap ≤ maxLen ∧ b < w.heap.size ∧ ∀ i (h : i < ss.length), w.cell? ⟨b, off + i, none⟩ = some (.string ss[i]) := by
  rcases h with ⟨a, c, h1, h2, _⟩ | ⟨b, off, cap, h1, h2, h3, h4, h5⟩
  · exact .inl ⟨a, c, h1, by simpa using h2⟩
  · simp only [List.length_map] at h1 h2 h5
    exact .inr ⟨b, off, _, cap, h1, rfl, h2, h3, h4, fun i hi => by rw [h5 i hi]; simp⟩
theorem rdsS_mk {w : World} {ss : List ByteArray} {b off cap : Nat} (h2 : ss.length ≤ cap) (h3 : cap ≤ maxLen) (h4 : b < w.heap.size) (h5 : ∀ i (h : i < ss.length), w.cell? ⟨b, off + i, none⟩ = some (.string ss[i])) :
    RdsS w (.slice (some ⟨b, off, none⟩) ss.length cap) ss :=
  .inr ⟨b, off, cap, by simp, by simpa using h2, h3, h4, fun i hi => by simp only [List.length_map] at hi; rw [h5 i hi]; simp⟩
theorem rdsS_nil (w : World) : RdsS w (.slice none 0 0) [] := .inl ⟨_, _, rfl, rfl, fun _ => rfl⟩
theorem rdsS_empty (w : World) (a : Addr) (c : Nat) : RdsS w (.slice (some a) 0 c) [] := .inl ⟨_, _, rfl, rfl, fun h => by cases h⟩
theorem Rds.below {w w' : World} {v : Value} {xs : List Value} (h : Rds w v xs) (hb : Below w.heap.size w w') : Rds w' v xs := by
  rcases h with h | ⟨b, off, cap, h1, h2, h3, h4, h5⟩
  · exact .inl h
  · exact .inr ⟨b, off, cap, h1, h2, h3, Nat.lt_of_lt_of_le h4 hb.size, fun i hi => (hb.cell (p := ⟨b, off + i, none⟩) h4).trans (h5 i hi)⟩
theorem RdsS.below {w w' : World} {v : Value} {ss : List ByteArray} (h : RdsS w v ss) (hb : Below w.heap.size w w') : RdsS w' v ss := Rds.below h hb
theorem ownsRow_le {w : World} {b b' : Nat} {e : TypeId} {size : Nat} {v : Value} {n : Nat} {xs : List Value} (h : w.ownsRow b e size v n xs) (hb : b' ≤ b) : w.ownsRow b' e size v n xs := by
  obtain ⟨h1, h2⟩ := h
  refine ⟨h1, ?_⟩
  rcases h2 with h2 | ⟨g, cap, cur, hv, hg, r⟩
  · exact .inl h2
  · exact .inr ⟨g, cap, cur, hv, Nat.le_trans hb hg, r⟩
/-- What a row of the call's own, one cell an element, reads as. -/
theorem ownsRow_rds {w : World} {b : Nat} {e : TypeId} {v : Value} {n : Nat} {xs : List Value} (h : w.ownsRow b e 1 v n xs) : Rds w v xs := by
  obtain ⟨h1, h2⟩ := h
  simp only [Nat.mul_one] at h1 h2
  rcases h2 with ⟨h2, h3⟩ | ⟨g, cap, cur, hv, hg, hh, hn, hc, hs, ht⟩
  · subst h3
    exact .inl ⟨_, _, h2, List.length_eq_zero_iff.1 h1, fun _ => rfl⟩
  · subst h1
    refine .inr ⟨g, 0, cap, hv, hn, hc, ?_, fun i hi => ?_⟩
    · rcases Nat.lt_or_ge g w.heap.size with h | h
      · exact h
      · simp [Array.getElem?_eq_none h] at hh
    · have hi2 : i < cur.size := by omega
      have : cur[i]? = some xs[i] := by
        have h4 : cur.toList[i]? = some xs[i] := by
          have : (cur.toList.take xs.length)[i]? = xs[i]? := by rw [ht]
          rw [List.getElem?_take_of_lt hi, List.getElem?_eq_getElem hi] at this
          exact this
        simpa using h4
      simp [World.cell?, hh, this]
end Go.Proofs.YtlamhpiiikcpiaaGreatDoor
/-
  Walks over package cube: must.
-/
namespace Go.Proofs.YtlamhpiiikcpiaaGreatDoor
open Go.RowKit
/-- A panic of package cube. -/
abbrev cubeFault (code : Int) : Ending := .panicked [{ v := .iface 141 (.agg #[.int .i64 code]), recovered := false }]
/-- Strings as lists of bytes. -/
abbrev lb (ss : List ByteArray) : List (List UInt8) := ss.map (·.data.toList)
theorem cub_true {s : ByteArray} (w : World) (hs : s.size ≤ maxLen) (h : Cb.isCube s.data.toList = true) :
    Calls Tryz.prog 66 #[.string s, .string ⟨#[48, 49, 120]⟩] w fun e w' => e = .returned (.bool true) ∧ w = w' :=
  (of_any s _ w hs).mono fun _ _ ⟨h1, h2⟩ => ⟨h1.trans (ret_bool h), h2⟩
theorem cub_false {s : ByteArray} (w : World) (hs : s.size ≤ maxLen) (h : Cb.isCube s.data.toList = false) :
    Calls Tryz.prog 66 #[.string s, .string ⟨#[48, 49, 120]⟩] w fun e w' => e = .returned (.bool false) ∧ w = w' :=
  (of_any s _ w hs).mono fun _ _ ⟨h1, h2⟩ => ⟨h1.trans (ret_bool h), h2⟩
theorem must_nil (a : Option Addr) (c : Nat) (w : World) : Calls Tryz.prog 64 #[.slice a 0 c] w fun e w' => e = .returned (.tuple #[]) ∧ w = w' := by
  go_enter Tryz.func64, Tryz.ntmps64
  go_wp2_with fail
  go_loop [3, 8] (fun _ k => k = .int .i64 0) (fun _ k => 0)
  case atStart => rfl
  case round =>
    subst hrel
    go_wp2_with fail
    go_loop [5, 20] (fun _ k => k = .int .i64 0) (fun _ k => 0)
    case atStart => rfl
    case round =>
      subst hrel
      go_wp2_with fail
      exact bodyPost_end (v := .tuple #[]) (results_none rfl _ _ _) rfl ⟨rfl, rfl⟩
set_option maxHeartbeats 400000 in
set_option maxRecDepth 20000 in
theorem must_cube (ss : List ByteArray) (b off len cap : Nat) (w : World) (hl : Hid (len = ss.length)) (hlm : len ≤ 9223372036854775807)
    (hsz : ∀ s ∈ ss, s.size ≤ maxLen)
    (hc : Hid (∀ i (h : i < ss.length), w.cell? ⟨b, off + i, none⟩ = some (.string ss[i])))
    (hw : (lb ss).all Cb.isCube = false) :
    Calls Tryz.prog 64 #[.slice (some ⟨b, off, none⟩) len cap] w fun e w' => e = cubeFault 10 ∧ w = w' := by
  obtain ⟨m, hm, h1, h2⟩ := Cb.first_false _ _ hw
  have hm' : m < len := by rw [hl.out]; simpa using hm
  have H1 : Hid (Cb.isCube (ss[m]'(by simpa using hm)).data.toList = false) := by simpa [Hid] using h1
  have H2 : Hid (∀ i (hi : i < m), Cb.isCube (ss[i]'(by have := hl.out; omega)).data.toList = true) := fun i hi => by simpa using h2 i hi
  have H3 := Lib.hid hsz
  clear hw h1 h2 hsz
  go_enter Tryz.func64, Tryz.ntmps64
  go_wp2_with fail
  go_loop [3, 8] (fun _ k => ∃ n : Nat, n ≤ m ∧ k = .int .i64 n) (fun _ k => len - (intOf k).toNat)
  case atStart => exact ⟨0, Nat.zero_le _, rfl⟩
  case round =>
    obtain ⟨n, hn, rfl⟩ := hrel
    have hlt : n < len := by omega
    have hn' : n < ss.length := by rw [← hl.out]; omega
    have hcell := hc.out n hn'
    have hsn := H3.out _ (List.getElem_mem hn')
    by_cases hnm : n < m
    · have ho := Lib.hid (H2.out n hnm)
      go_wp2_with ((with_reducible refine (cub_true _ hsn ho.out).mono ?_); rintro e w' ⟨rfl, rfl⟩)
      go_round
      case rel => exact ⟨n + 1, by omega, by go_num⟩
      case measure => simp [intOf]; omega
    · have ho : Hid (Cb.isCube (ss[n]'hn').data.toList = false) := by
        have := H1.out; have e : n = m := by omega
        subst e; exact this
      go_wp2_with ((with_reducible refine (cub_false _ hsn ho.out).mono ?_); rintro e w' ⟨rfl, rfl⟩)
      exact ⟨rfl, rfl, rfl⟩
set_option maxHeartbeats 400000 in
set_option maxRecDepth 20000 in
theorem must_rest (ss : List ByteArray) (b off len cap : Nat) (w : World) (hl : Hid (len = ss.length)) (hlm : len ≤ 9223372036854775807) (m : Nat) (hm : m ≤ len)
    (hsz : ∀ s ∈ ss, s.size ≤ maxLen) (R : Ending → World → Prop)
    (hc : Hid (∀ i (h : i < ss.length), w.cell? ⟨b, off + i, none⟩ = some (.string ss[i])))
    (hw : (lb ss).all Cb.isCube = true)
    (h2 : Hid (∀ i (hi : i < m) (h : i < ss.length), ss[i].size = (ss[0]'(by omega)).size))
    (h3 : Hid (∀ (h : m < ss.length), ss[m].size ≠ (ss[0]'(by omega)).size))
    (hR : Hid (R (if m < len then cubeFault 11 else .returned (.tuple #[])) w)) :
    Calls Tryz.prog 64 #[.slice (some ⟨b, off, none⟩) len cap] w R := by
  have H1 : Hid (∀ i (h : i < ss.length), Cb.isCube ss[i].data.toList = true) := fun i h => by
    have := Cb.all_get hw i (by simpa using h)
    simpa using this
  have H3 := Lib.hid hsz
  clear hw hsz
  go_enter Tryz.func64, Tryz.ntmps64
  go_wp2_with fail
  go_loop [3, 8] (fun _ k => ∃ n : Nat, n ≤ len ∧ k = .int .i64 n) (fun _ k => len - (intOf k).toNat)
  case atStart => exact ⟨0, Nat.zero_le _, rfl⟩
  case round =>
    obtain ⟨n, hn, rfl⟩ := hrel
    by_cases hlt : n < len
    · have hn' : n < ss.length := by rw [← hl.out]; omega
      have hcell := hc.out n hn'
      have hsn := H3.out _ (List.getElem_mem hn')
      have ho := Lib.hid (H1.out n hn')
      go_wp2_with ((with_reducible refine (cub_true _ hsn ho.out).mono ?_); rintro e w' ⟨rfl, rfl⟩)
      go_round
      case rel => exact ⟨n + 1, by omega, by go_num⟩
      case measure => simp [intOf]; omega
    · go_wp2_with fail
      go_loop [5, 20] (fun _ k => ∃ n : Nat, n ≤ m ∧ k = .int .i64 n) (fun _ k => len - (intOf k).toNat)
      case atStart => exact ⟨0, Nat.zero_le _, rfl⟩
      case round =>
        obtain ⟨n, hn, rfl⟩ := hrel
        by_cases hnm : n < m
        · have hn' : n < ss.length := by rw [← hl.out]; omega
          have h0' : 0 < ss.length := by omega
          have hcell := hc.out n hn'
          have hcell0 := hc.out 0 h0'
          have hsn := H3.out _ (List.getElem_mem hn')
          have hs0 := H3.out _ (List.getElem_mem h0')
          have ho := h2.out n hnm hn'
          have hlt2 : n < len := by omega
          have hlt0 : 0 < len := by omega
          simp only [Nat.add_zero] at hcell0
          unfold maxLen at hsn hs0
          go_wp2_with fail
          go_round
          case rel => exact ⟨n + 1, by omega, by go_num⟩
          case measure => simp [intOf]; omega
        · obtain rfl : n = m := by omega
          by_cases hlt3 : n < len
          · have hn' : n < ss.length := by rw [← hl.out]; omega
            have h0' : 0 < ss.length := by omega
            have hcell := hc.out n hn'
            have hcell0 := hc.out 0 h0'
            have hsn := H3.out _ (List.getElem_mem hn')
            have hs0 := H3.out _ (List.getElem_mem h0')
            have ho := h3.out hn'
            have ho2 : (((ss[n].size : Nat) : Int) == ((ss[0].size : Nat) : Int)) = false := by rw [beq_eq_false_iff_ne]; omega
            have hlt0 : 0 < len := by omega
            simp only [Nat.add_zero] at hcell0
            unfold maxLen at hsn hs0
            go_wp2_with fail
            refine ⟨rfl, ?_⟩
            have := hR.out
            rw [if_pos hlt3] at this
            exact this
          · go_wp2_with fail
            have := hR.out
            rw [if_neg hlt3] at this
            exact bodyPost_end (v := .tuple #[]) (results_none rfl _ _ _) rfl this
theorem lb_len (ss : List ByteArray) (i : Nat) (h : i < (lb ss).length) (h' : i < ss.length) (h0 : 0 < ss.length) :
    ((lb ss)[i].length == ((lb ss).headD []).length) = (ss[i].size == (ss[0]'h0).size) := by
  have e1 : (lb ss)[i].length = ss[i].size := by simp
  have e2 : ((lb ss).headD []).length = (ss[0]'h0).size := by
    cases ss with
    | nil => simp at h0
    | cons s0 r => simp
  rw [e1, e2]
/-- What 'must' does with strings that a slice reads as. -/
theorem must_any (ss : List ByteArray) (v : Value) (w : World) (hr : RdsS w v ss) (hsz : ∀ s ∈ ss, s.size ≤ maxLen) :
    Calls Tryz.prog 64 #[v] w fun e w' => (e = if Cb.wrong (lb ss) = 0 then .returned (.tuple #[]) else cubeFault (Cb.wrong (lb ss))) ∧ w = w' := by
  rcases rdsS_cases hr with ⟨_, _, rfl, rfl⟩ | ⟨b, off, len, cap, rfl, hl, h2, h3, h4, h5⟩
  · exact (must_nil _ _ w).mono fun e w' h => ⟨by rw [h.1]; simp [Cb.wrong], h.2⟩
  · unfold maxLen at h3
    by_cases hw : (lb ss).all Cb.isCube = true
    · by_cases hq : (lb ss).all (fun s => s.length == ((lb ss).headD []).length) = true
      · have hz : Cb.wrong (lb ss) = 0 := by unfold Cb.wrong; rw [if_pos hw, if_pos hq]
        refine must_rest ss b off len cap w hl (by omega) len (Nat.le_refl _) hsz _ h5 hw ?_ ?_ ?_
        · intro i hi h
          have := Cb.all_get hq i (by simpa using h)
          rw [lb_len ss i _ h (by omega)] at this
          simpa using this
        · intro h; omega
        · show _ ∧ _
          rw [if_neg (Nat.lt_irrefl _), if_pos hz]
          exact ⟨rfl, rfl⟩
      · have hz : Cb.wrong (lb ss) = 11 := by unfold Cb.wrong; rw [if_pos hw, if_neg hq]
        obtain ⟨m, hm, hm1, hm2⟩ := Cb.first_false _ _ (by simpa using hq : (lb ss).all (fun s => s.length == ((lb ss).headD []).length) = false)
        have hm' : m < ss.length := by simpa using hm
        refine must_rest ss b off len cap w hl (by omega) m (by omega) hsz _ h5 hw ?_ ?_ ?_
        · intro i hi h
          have := hm2 i hi
          rw [lb_len ss i _ h (by omega)] at this
          simpa using this
        · intro h
          rw [lb_len ss m _ h (by omega)] at hm1
          simpa using hm1
        · show _ ∧ _
          rw [if_pos (by omega), hz, if_neg (by decide)]
          exact ⟨rfl, rfl⟩
    · have hz : Cb.wrong (lb ss) = 10 := by unfold Cb.wrong; rw [if_neg hw]
      refine (must_cube ss b off len cap w hl (by omega) hsz h5 (by simpa using hw)).mono fun e w' h => ⟨?_, h.2⟩
      rw [h.1, hz, if_neg (by decide)]
theorem must_ok {ss : List ByteArray} {v : Value} {w : World} (hr : RdsS w v ss) (hsz : ∀ s ∈ ss, s.size ≤ maxLen) (h : Cb.wrong (lb ss) = 0) :
    Calls Tryz.prog 64 #[v] w fun e w' => e = .returned (.tuple #[]) ∧ w = w' :=
  (must_any ss v w hr hsz).mono fun e w' ⟨h1, h2⟩ => ⟨by rw [h1, if_pos h], h2⟩
theorem must_bad {ss : List ByteArray} {v : Value} {w : World} (hr : RdsS w v ss) (hsz : ∀ s ∈ ss, s.size ≤ maxLen) (h : ¬ Cb.wrong (lb ss) = 0) :
    Calls Tryz.prog 64 #[v] w fun e w' => e = cubeFault (Cb.wrong (lb ss)) ∧ w = w' :=
  (must_any ss v w hr hsz).mono fun e w' ⟨h1, h2⟩ => ⟨by rw [h1, if_neg h], h2⟩
end Go.Proofs.YtlamhpiiikcpiaaGreatDoor
/-
  []byte(s) of any string, and back: what a walk needs of them.
-/
namespace Go.Proofs.YtlamhpiiikcpiaaGreatDoor
open Go.RowKit
theorem bytes_of (w : World) (a : ByteArray) : ∃ W1 cap, (convert 9 92 (.string a)).run Tryz.prog w = .ok (.slice (some ⟨w.heap.size, 0, none⟩) a.size cap) W1 ∧
    Below w.heap.size w W1 ∧ W1.heap.size = w.heap.size + 1 ∧
    (∀ j (h : j < a.size), W1.cell? ⟨w.heap.size, j, none⟩ = some (.int .u8 (a[j].toNat : Int))) ∧ (∀ j, j < a.size → W1.frozen? ⟨w.heap.size, j, none⟩ = false) := by
  refine ⟨_, _, Lib.run_convert_string_bytes w 9 92 5 a Tryz.underlying9 Tryz.underlying92 Tryz.underlying5, ?_, Lib.bytesWorld_size w _ a, ?_, ?_⟩
  · refine ⟨?_, ?_, ?_, ?_, fun k hk => Lib.bytesWorld_at_old w _ a k hk⟩
    · simp [Lib.bytesWorld, World.freeze, World.alloc, World.drew, -World.alloc_eq, -World.drew_eq]
    · simp [Lib.bytesWorld, World.freeze, World.alloc, World.drew, -World.alloc_eq, -World.drew_eq]
    · simp [Lib.bytesWorld, World.freeze, World.alloc, World.drew, -World.alloc_eq, -World.drew_eq]
    · rw [Lib.bytesWorld_size]; omega
  · intro j h
    rw [Lib.bytesWorld_cell w _ a j h]
    have : a.data.toList.getD j 0 = a[j] := by
      rw [List.getD_eq_getElem?_getD, List.getElem?_eq_getElem (by simpa using h)]; rfl
    rw [this]
  · intro j h
    unfold World.frozen?
    rw [Lib.bytesWorld_at_new]
    have : a.size ≤ (Lib.bytesCells w 5 a).size := by simp [Lib.bytesCells]
    simp; omega
/-- string(b) of a row of bytes. -/
theorem bytes_back (w : World) (b off len cap : Nat) (l : List UInt8) (hlen : l.length = len)
    (hcell : ∀ i (h : i < l.length), w.cell? ⟨b, off + i, none⟩ = some (.int .u8 (l[i].toNat : Int))) :
    (convert 92 9 (.slice (some ⟨b, off, none⟩) len cap)).run Tryz.prog w = .ok (.string ⟨l.toArray⟩) w := by
  have h := run_convert_bytes_arg (P := Tryz.prog) w 92 5 Tryz.underlying92 Tryz.underlying5 b off len cap (l.map fun c => (c.toNat : Int)) (by simpa using hlen)
    (fun i hi => by rw [hcell i (by omega)]; simp [List.getD_eq_getElem?_getD, List.getElem?_eq_getElem (show i < l.length by omega)]) 9 Tryz.underlying9
  have e : ((fun n : Int => UInt8.ofNat n.toNat) ∘ fun c : UInt8 => (c.toNat : Int)) = id := by funext c; simp
  have hs : strOfNums (l.map fun c => (c.toNat : Int)) = (⟨l.toArray⟩ : ByteArray) := by simp [strOfNums, e]
  rw [h, hs]
end Go.Proofs.YtlamhpiiikcpiaaGreatDoor
/-
  Walks over package cube: meet.
-/
namespace Go.Proofs.YtlamhpiiikcpiaaGreatDoor
open Go.RowKit
theorem u8_eq (x y : UInt8) : (((x.toNat : Nat) : Int) == ((y.toNat : Nat) : Int)) = (x == y) := by
  rw [Bool.eq_iff_iff, beq_iff_eq, beq_iff_eq, ← UInt8.toNat_inj]; omega
set_option maxHeartbeats 1000000 in
set_option maxRecDepth 20000 in
theorem meet_loop (a b : ByteArray) (w : World) (hb : Hid (b.size = a.size)) (ha : a.size ≤ 9223372036854775807) (m : Nat) (hm : m ≤ a.size)
    (H1 : Hid (∀ i (h : i < m), Cb.ok2 (a[i]'(by omega)) (b[i]'(by have := hb.out; omega)) = true))
    (H2 : Hid (∀ (h : m < a.size), Cb.ok2 a[m] (b[m]'(by have := hb.out; omega)) = false)) :
    Calls Tryz.prog 67 #[.string a, .string b] w fun e w' => Below w.heap.size w w' ∧
      e = .returned (if m < a.size then .tuple #[.string ⟨#[]⟩, .bool false] else .tuple #[.string ⟨(List.zipWith Cb.mb a.data.toList b.data.toList).toArray⟩, .bool true]) := by
  obtain ⟨W1, cap, hconv, hbel, hsz, hcell, hfro⟩ := bytes_of w a
  have HC := Lib.hid hcell
  have HF := Lib.hid hfro
  have HS := Lib.hid hsz
  have HBel := Lib.hid hbel
  have hlt1 : w.heap.size < W1.heap.size := by omega
  clear hcell hfro hsz hbel
  go_enter Tryz.func67, Tryz.ntmps67
  go_wp2_with fail
  go_loopw [7, 12] (fun _ k wr => ∃ n : Nat, n ≤ m ∧ k = .int .i64 n ∧ Hid (Below w.heap.size w wr) ∧ w.heap.size < wr.heap.size ∧
      Hid (∀ j (h : j < a.size), wr.cell? ⟨w.heap.size, j, none⟩ = some (.int .u8 ((if j < n then Cb.mb a[j] (b[j]'(by have := hb.out; omega)) else a[j]).toNat : Int))) ∧
      Hid (∀ j, j < a.size → wr.frozen? ⟨w.heap.size, j, none⟩ = false)) (fun _ k _ => a.size - (intOf k).toNat)
  case atStart => exact ⟨0, Nat.zero_le _, rfl, HBel, hlt1, fun j h => by rw [if_neg (by omega)]; exact HC.out j h, HF⟩
  case round =>
    obtain ⟨n, hn, rfl, hbw, hlw, hcw, hfw⟩ := hrel
    by_cases hlt : n < a.size
    · have hltb : n < b.size := by have := hb.out; omega
      have hcn := hcw.out n hlt
      have hfn := hfw.out n hlt
      by_cases hx : a[n] = 120
      · have hx1 : (((a[n].toNat : Nat) : Int) == 120) = true := by rw [hx]; rfl
        have HX := Lib.hid hx
        have hnm : n < m := by
          rcases Nat.lt_or_ge n m with h | h
          · exact h
          · obtain rfl : n = m := by omega
            have := H2.out hlt
            simp [Cb.ok2, hx] at this
        clear hx
        go_wp2_with fail
        go_roundw
        case rel =>
          refine ⟨n + 1, by omega, by go_num, hbw.out.setCell (Nat.le_refl _) _, ?_, fun j h => ?_, fun j h => ?_⟩
          · simpa [World.setCell] using hlw
          · by_cases hj : j = n
            · subst hj
              rw [cell_set_same _ hcn, if_pos (by omega)]
              have : Cb.mb a[j] (b[j]'hltb) = b[j]'hltb := by unfold Cb.mb; rw [HX.out]; rfl
              rw [this]
            · rw [cell_set_other _ (by intro e; injection e with _ e _; exact hj e.symm), hcw.out j h]
              have : (j < n + 1) = (j < n) := by apply propext; omega
              simp only [this]
          · rw [World.frozen?_setCell]; exact hfw.out j h
        case measure => simp [intOf]; omega
      · have hx1 : (((a[n].toNat : Nat) : Int) == 120) = false := by rw [show (120 : Int) = ((120 : UInt8).toNat : Int) from rfl, u8_eq]; simpa using hx
        have HX := Lib.hid hx
        have hz0 : (0 : Int) ≤ n := by omega
        have hmba : Hid (Cb.mb a[n] (b[n]'hltb) = a[n]) := by unfold Hid Cb.mb; rw [if_neg (by simpa using hx)]
        clear hx
        by_cases hnm : n < m
        · have hok := H1.out n hnm
          have hrel' : ∀ k : Nat, ∃ n_1 : Nat, n_1 ≤ m ∧ Value.int IntKind.i64 ((n : Int) + 1) = Value.int IntKind.i64 (n_1 : Int) ∧ Hid (Below w.heap.size w (wr.drewN k)) ∧ w.heap.size < (wr.drewN k).heap.size ∧
              Hid (∀ j (h : j < a.size), (wr.drewN k).cell? ⟨w.heap.size, j, none⟩ = some (.int .u8 ((if j < n_1 then Cb.mb a[j] (b[j]'(by have := hb.out; omega)) else a[j]).toNat : Int))) ∧
              Hid (∀ j, j < a.size → (wr.drewN k).frozen? ⟨w.heap.size, j, none⟩ = false) := by
            intro k
            refine ⟨n + 1, by omega, by go_num, ⟨hbw.out.os, hbw.out.tape, hbw.out.output, hbw.out.size, hbw.out.block⟩, hlw, fun j h => ?_, hfw⟩
            rw [World.cell?_drewN, hcw.out j h]
            by_cases hj : j = n
            · subst hj; rw [if_neg (by omega), if_pos (by omega), hmba.out]
            · have : (j < n + 1) = (j < n) := by apply propext; omega
              simp only [this]
          have HR := Lib.hid hrel'
          clear hrel'
          by_cases hy : b[n]'hltb = 120
          · have hy1 : (((b[n].toNat : Nat) : Int) == 120) = true := by rw [hy]; rfl
            have hy2 : (((b[n].toNat : Nat) : Int) != 120) = false := by rw [bne, hy1]; rfl
            clear hy hok
            go_wp2_with fail
            go_quiet (fail)
            go_wp2_with fail
            go_roundw
            case rel => exact HR.out _
            case measure => simp [intOf]; omega
          · have hy1 : (((b[n].toNat : Nat) : Int) == 120) = false := by rw [show (120 : Int) = ((120 : UInt8).toNat : Int) from rfl, u8_eq]; simpa using hy
            have hy2 : (((b[n].toNat : Nat) : Int) != 120) = true := by rw [bne, hy1]; rfl
            have hz1 : (((b[n].toNat : Nat) : Int) != ((a[n].toNat : Nat) : Int)) = false := by
              rw [bne, u8_eq]
              have hax := HX.out
              unfold Cb.ok2 at hok
              simp [hax, hy] at hok
              simp [hok]
            clear hy hok
            go_wp2_with fail
            go_quiet (fail)
            go_wp2_with fail
            go_roundw
            case rel => exact HR.out _
            case measure => simp [intOf]; omega
        · obtain rfl : n = m := by omega
          have hok := H2.out hlt
          have hy1 : (((b[n].toNat : Nat) : Int) == 120) = false := by
            rw [show (120 : Int) = ((120 : UInt8).toNat : Int) from rfl, u8_eq]
            unfold Cb.ok2 at hok
            simp at hok ⊢
            exact hok.1.2
          have hy2 : (((b[n].toNat : Nat) : Int) != 120) = true := by rw [bne, hy1]; rfl
          have hz1 : (((b[n].toNat : Nat) : Int) != ((a[n].toNat : Nat) : Int)) = true := by
            rw [bne, u8_eq]
            unfold Cb.ok2 at hok
            simp at hok ⊢
            exact hok.2
          clear hok
          have hbd : Hid (∀ k, Below w.heap.size w (wr.drewN k)) := fun k => ⟨hbw.out.os, hbw.out.tape, hbw.out.output, hbw.out.size, hbw.out.block⟩
          go_wp2_with fail
          go_quiet (fail)
          go_wp2_with fail
          go_ret2
          exact ⟨hbd.out _, by first | rfl | (rw [if_pos hlt]; rfl)⟩
    · have hnm : Hid (n = a.size) := by unfold Hid; omega
      have hback := bytes_back wr w.heap.size 0 a.size cap (List.zipWith Cb.mb a.data.toList b.data.toList) (by have := hb.out; simp; omega) (fun i hi => by
        have hi' : i < a.size := by have := hb.out; simp at hi; omega
        rw [Nat.zero_add, hcw.out i hi', if_pos (by have := hnm.out; omega)]
        simp
        rfl)
      have hmm : ¬ m < a.size := by have := hnm.out; omega
      go_wp2_with fail
      go_ret2
      exact ⟨hbw.out, by first | rfl | (rw [if_neg hmm]; rfl)⟩
theorem meet_yes {a b m : ByteArray} (w : World) (hb : b.size = a.size) (ha : a.size ≤ maxLen) (h : Cb.meet a.data.toList b.data.toList = some m.data.toList) :
    Calls Tryz.prog 67 #[.string a, .string b] w fun e w' => e = .returned (.tuple #[.string m, .bool true]) ∧ Below w.heap.size w w' := by
  unfold Cb.meet at h
  split at h
  · rename_i hall
    injection h with h
    refine (meet_loop a b w hb (by unfold maxLen at ha; omega) a.size (Nat.le_refl _) (fun i hi => ?_) (fun h => absurd h (Nat.lt_irrefl _))).mono fun e w' ⟨h1, h2⟩ => ⟨?_, h1⟩
    · have := Cb.all_get hall i (by simp; omega)
      simp at this
      exact this
    · rw [h2, if_neg (Nat.lt_irrefl _), h]
  · cases h
theorem meet_no {a b : ByteArray} (w : World) (hb : b.size = a.size) (ha : a.size ≤ maxLen) (h : Cb.meet a.data.toList b.data.toList = none) :
    Calls Tryz.prog 67 #[.string a, .string b] w fun e w' => e = .returned (.tuple #[.string ⟨#[]⟩, .bool false]) ∧ Below w.heap.size w w' := by
  unfold Cb.meet at h
  split at h
  · cases h
  · rename_i hall
    obtain ⟨m, hm, h1, h2⟩ := Cb.first_false _ _ (by simpa using hall : (a.data.toList.zip b.data.toList).all (fun p => Cb.ok2 p.1 p.2) = false)
    have hm' : m < a.size := by simp at hm; omega
    refine (meet_loop a b w hb (by unfold maxLen at ha; omega) m (by omega) (fun i hi => ?_) (fun h => ?_)).mono fun e w' ⟨h1, h2⟩ => ⟨?_, h1⟩
    · have := h2 i hi
      simp at this
      exact this
    · simp at h1
      exact h1
    · rw [h2, if_pos hm']
end Go.Proofs.YtlamhpiiikcpiaaGreatDoor
/-
  Walks over package cube: the deferred call that recovers.
-/
namespace Go.Proofs.YtlamhpiiikcpiaaGreatDoor
open Go.RowKit
set_option maxHeartbeats 400000 in
set_option maxRecDepth 20000 in
theorem caught_idle (p : Addr) (w : World) :
    CallsD Tryz.prog 63 #[.pointer (some p)] .returning w fun e u' w' => e = .returned (.tuple #[]) ∧ u' = .returning ∧ w = w' := by
  refine callsD_of_wpS Tryz.func63 rfl fun c₀ cs hu => ?_
  simp only [Tryz.ntmps63, List.size_toArray, List.length_cons, List.length_nil, Nat.reduceAdd, Nat.reduceSub, Array.replicate_succ,
     Array.replicate_zero, List.push_toArray, List.append_toArray, List.nil_append, List.cons_append]
  apply wpS_seq
  apply wpS_region
  simp [wpOpsS, go_sem, recoverD, hu, Exit.thenS]
  have HU := Lib.hid hu
  clear hu
  apply wpS_of_wp
  generalize hQ : (fun e a' w' => bodyPostS _ _ _ _ _ e a' _ w') = Q
  have HQ := Lib.hid hQ
  clear hQ
  go_wp2_with fail
  rw [← HQ.out]
  exact ⟨rfl, _, by rw [← HU.out], .tuple #[], results_none rfl _ _ _, rfl, rfl, rfl⟩
theorem run_assert_fault (x : Array Value) (w : World) :
    (Instr.typeAssert (.iface 141 (.agg x)) 20 141 true).run Tryz.prog w = .ok (.tuple #[.agg x, .bool true]) w := by
  kernel_rfl
set_option maxHeartbeats 400000 in
set_option maxRecDepth 20000 in
theorem caught_catches (p : Addr) (w : World) (code x : Int) (older : List PanicEntry) (hp : p.block < w.heap.size) (hc : w.cell? p = some (.int .i64 x)) (hz : w.frozen? p = false) :
    CallsD Tryz.prog 63 #[.pointer (some p)] (.panicking ({ v := .iface 141 (.agg #[.int .i64 code]), recovered := false } :: older)) w fun e u' w' =>
      e = .returned (.tuple #[]) ∧ u' = .panicking ({ v := .iface 141 (.agg #[.int .i64 code]), recovered := true } :: older) ∧ Below p.block w w' ∧ w'.cell? p = some (.int .i64 code) := by
  have hta := run_assert_fault #[.int .i64 code] w
  have hB : Below w.heap.size w (w.alloc (.cells #[.int .i64 code] 141)) := (Below.refl _ _).alloc (Nat.le_refl _) _
  have hc2 : (w.alloc (.cells #[.int .i64 code] 141)).cell? p = some (.int .i64 x) := (hB.cell hp).trans hc
  have hz2 : (w.alloc (.cells #[.int .i64 code] 141)).frozen? p = false := (hB.frozen hp).trans hz
  have HB := Lib.hid ((hB.mono (Nat.le_of_lt hp)).setCell (p := p) (Nat.le_refl _) (.int .i64 code))
  have HC := Lib.hid (cell_set_same (.int .i64 code) hc2)
  clear hB
  refine callsD_of_wpS Tryz.func63 rfl fun c₀ cs hu => ?_
  simp only [Tryz.ntmps63, List.size_toArray, List.length_cons, List.length_nil, Nat.reduceAdd, Nat.reduceSub, Array.replicate_succ,
     Array.replicate_zero, List.push_toArray, List.append_toArray, List.nil_append, List.cons_append]
  apply wpS_seq
  apply wpS_region
  simp [wpOpsS, go_sem, recoverD, hu, Exit.thenS]
  have HU := Lib.hid hu
  clear hu
  apply wpS_of_wp
  generalize hQ : (fun e a' w' => bodyPostS _ _ _ _ _ e a' _ w') = Q
  have HQ := Lib.hid hQ
  clear hQ
  go_wp2_with fail
  rw [← HQ.out]
  exact ⟨rfl, _, rfl, .tuple #[], results_none rfl _ _ _, rfl, rfl, HB.out, HC.out⟩
/-- Behind a body that returned: nothing is recovered. -/
theorem door_ret {fn : Func} {tmps : Array Value} {R : Ending → World → Prop} {p : Addr} {W : World} (h : ∃ v, (results fn tmps).run Tryz.prog W = .ok v W ∧ R (.returned v) W) :
    Leaves Tryz.prog fn tmps R [{ target := .fn (.func 63) #[], args := #[.pointer (some p)] }] .returning W := by
  refine leaves_cons (f := 63) (args := #[.pointer (some p)]) (by simp) (by simp [go_sem]) ?_
  refine (caught_idle _ _).mono ?_
  rintro e u' w'' ⟨rfl, rfl, rfl⟩
  exact h
/-- Behind a body that panicked with a fault of the package: its code is laid. -/
theorem door_fault {fn : Func} {tmps : Array Value} {R : Ending → World → Prop} {p : Addr} {W : World} (code x : Int) (hp : p.block < W.heap.size) (hc : W.cell? p = some (.int .i64 x)) (hz : W.frozen? p = false)
    (h : ∀ W', Below p.block W W' → W'.cell? p = some (.int .i64 code) → ∃ v, (results fn tmps).run Tryz.prog W' = .ok v W' ∧ R (.returned v) W') :
    Leaves Tryz.prog fn tmps R [{ target := .fn (.func 63) #[], args := #[.pointer (some p)] }] (.panicking [{ v := .iface 141 (.agg #[.int .i64 code]), recovered := false }]) W := by
  refine leaves_cons (f := 63) (args := #[.pointer (some p)]) (by simp) (by simp [go_sem]) ?_
  refine (caught_catches _ _ code x [] hp hc hz).mono ?_
  rintro e u' w'' ⟨rfl, rfl, hB, hC⟩
  exact h w'' hB hC
end Go.Proofs.YtlamhpiiikcpiaaGreatDoor
/-
  Walks over package cube: Meet, Inside, Has.
-/
namespace Go.Proofs.YtlamhpiiikcpiaaGreatDoor
open Go.RowKit
theorem two_rds (w : World) (a b : ByteArray) (o : Nat) (ho : o = w.heap.size) (t : TypeId) : RdsS (w.alloc (.cells #[.string a, .string b] t)) (.slice (some ⟨o, 0, none⟩) 2 2) [a, b] := by
  subst ho
  refine rdsS_mk (ss := [a, b]) (by simp) (by unfold maxLen; simp) (by simp) ?_
  intro i hi
  match i, hi with
  | 0, _ => simp [go_sem]
  | 1, _ => simp [go_sem]
theorem str_beq (a b : ByteArray) : (a.toList == b.toList) = (a.data.toList == b.data.toList) := by rw [Lib.toList_data, Lib.toList_data]
theorem two_le {a b : ByteArray} (ha : a.size ≤ maxLen) (hb : b.size ≤ maxLen) : ∀ s ∈ [a, b], s.size ≤ maxLen := by
  intro s hs
  simp at hs
  rcases hs with rfl | rfl <;> assumption
end Go.Proofs.YtlamhpiiikcpiaaGreatDoor
/-
  Walks over package cube: cut.
-/
namespace Go.Proofs.YtlamhpiiikcpiaaGreatDoor
open Go.RowKit
/-- A list of bytes as a string. -/
abbrev bs (l : List UInt8) : ByteArray := ⟨l.toArray⟩
/-- Lists of bytes as strings' values. -/
abbrev vs (L : List (List UInt8)) : List Value := L.map fun l => Value.string (bs l)
end Go.Proofs.YtlamhpiiikcpiaaGreatDoor
/-
  Walks over package cube: Has, Cut.
-/
namespace Go.Proofs.YtlamhpiiikcpiaaGreatDoor
open Go.RowKit
theorem hd_true {s : ByteArray} (w : World) (hs : s.size ≤ maxLen) (h : Cb.isHead s.data.toList = true) :
    Calls Tryz.prog 66 #[.string s, .string ⟨#[48, 49]⟩] w fun e w' => e = .returned (.bool true) ∧ w = w' :=
  (of_any s _ w hs).mono fun _ _ ⟨h1, h2⟩ => ⟨h1.trans (ret_bool h), h2⟩
theorem hd_false {s : ByteArray} (w : World) (hs : s.size ≤ maxLen) (h : Cb.isHead s.data.toList = false) :
    Calls Tryz.prog 66 #[.string s, .string ⟨#[48, 49]⟩] w fun e w' => e = .returned (.bool false) ∧ w = w' :=
  (of_any s _ w hs).mono fun _ _ ⟨h1, h2⟩ => ⟨h1.trans (ret_bool h), h2⟩
set_option maxHeartbeats 400000 in
set_option maxRecDepth 20000 in
theorem Has_nocube (a b : ByteArray) (w : World) (ha : a.size ≤ maxLen) (hw : Cb.isCube a.data.toList = false) :
    Calls Tryz.prog 34 #[.string a, .string b] w fun e w' => e = .returned (.tuple #[.bool false, .int .i64 10]) ∧ Below w.heap.size w w' := by
  have HW := Lib.hid hw
  clear hw
  go_enter_defers Tryz.func34, Tryz.ntmps34
  go_wp2_with fail
  refine (cub_false _ ha HW.out).mono ?_
  rintro e w' ⟨rfl, rfl⟩
  go_wp2_with fail
  refine door_fault (p := ⟨w.heap.size, 0, none⟩) _ 0 ?_ ?_ ?_ fun W' hB hC => ?_
  · simp
  · simp [go_sem]
  · simp [go_sem]
  · exact ⟨_, by simp [results, Tryz.results34, go_sem, hC], rfl, ((Below.refl _ w).alloc (Nat.le_refl _) _).trans hB⟩
set_option maxHeartbeats 400000 in
set_option maxRecDepth 20000 in
theorem Has_nohead (a b : ByteArray) (w : World) (ha : a.size ≤ maxLen) (hb : b.size ≤ maxLen) (hw : Cb.isCube a.data.toList = true) (hh : Cb.isHead b.data.toList = false) :
    Calls Tryz.prog 34 #[.string a, .string b] w fun e w' => e = .returned (.tuple #[.bool false, .int .i64 10]) ∧ Below w.heap.size w w' := by
  have HW := Lib.hid hw
  have HH := Lib.hid hh
  clear hw hh
  go_enter_defers Tryz.func34, Tryz.ntmps34
  go_wp2_with fail
  refine (cub_true _ ha HW.out).mono ?_
  rintro e w' ⟨rfl, rfl⟩
  go_wp2_with fail
  refine (hd_false _ hb HH.out).mono ?_
  rintro e w' ⟨rfl, rfl⟩
  go_wp2_with fail
  refine door_fault (p := ⟨w.heap.size, 0, none⟩) _ 0 ?_ ?_ ?_ fun W' hB hC => ?_
  · simp
  · simp [go_sem]
  · simp [go_sem]
  · exact ⟨_, by simp [results, Tryz.results34, go_sem, hC], rfl, ((Below.refl _ w).alloc (Nat.le_refl _) _).trans hB⟩
set_option maxHeartbeats 400000 in
set_option maxRecDepth 20000 in
theorem Has_bad (a b : ByteArray) (w : World) (ha : a.size ≤ maxLen) (hb : b.size ≤ maxLen) (hc : Cb.isCube a.data.toList = true) (hh : Cb.isHead b.data.toList = true) (hw : ¬ Cb.wrong [a.data.toList, b.data.toList] = 0) :
    Calls Tryz.prog 34 #[.string a, .string b] w fun e w' => e = .returned (.tuple #[.bool false, .int .i64 (Cb.wrong [a.data.toList, b.data.toList])]) ∧ Below w.heap.size w w' := by
  have HC := Lib.hid hc
  have HH := Lib.hid hh
  have HW := Lib.hid hw
  clear hw hc hh
  go_enter_defers Tryz.func34, Tryz.ntmps34
  go_wp2_with fail
  refine (cub_true _ ha HC.out).mono ?_
  rintro e w' ⟨rfl, rfl⟩
  go_wp2_with fail
  refine (hd_true _ hb HH.out).mono ?_
  rintro e w' ⟨rfl, rfl⟩
  go_wp2_with fail
  refine (must_bad (ss := [a, b]) (two_rds _ _ _ _ (by simp) _) (two_le ha hb) HW.out).mono ?_
  rintro e w' ⟨rfl, rfl⟩
  go_wp2_with fail
  refine door_fault (p := ⟨w.heap.size, 0, none⟩) _ 0 ?_ ?_ ?_ fun W' hB hC => ?_
  · simp; omega
  · simp [go_sem]
  · simp [go_sem]
  · exact ⟨_, by simp [results, Tryz.results34, go_sem, hC], rfl, (((Below.refl _ w).alloc (Nat.le_refl _) _).alloc (by simp) _).trans hB⟩
set_option maxHeartbeats 400000 in
set_option maxRecDepth 20000 in
theorem Has_yes (a b m : ByteArray) (w : World) (ha : a.size ≤ maxLen) (hb : b.size ≤ maxLen) (hh : Cb.isHead b.data.toList = true) (hw : Cb.wrong [a.data.toList, b.data.toList] = 0) (hm : Cb.meet a.data.toList b.data.toList = some m.data.toList) :
    Calls Tryz.prog 34 #[.string a, .string b] w fun e w' => e = .returned (.tuple #[.bool true, .int .i64 0]) ∧ Below w.heap.size w w' := by
  have hsz : b.size = a.size := by simpa using (Cb.wrong_two hw).2.2
  have HC := Lib.hid (Cb.wrong_two hw).1
  have HH := Lib.hid hh
  have HW := Lib.hid hw
  have HM := Lib.hid hm
  have HS := Lib.hid hsz
  clear hw hm hsz hh
  go_enter_defers Tryz.func34, Tryz.ntmps34
  go_wp2_with fail
  refine (cub_true _ ha HC.out).mono ?_
  rintro e w' ⟨rfl, rfl⟩
  go_wp2_with fail
  refine (hd_true _ hb HH.out).mono ?_
  rintro e w' ⟨rfl, rfl⟩
  go_wp2_with fail
  refine (must_ok (ss := [a, b]) (two_rds _ _ _ _ (by simp) _) (two_le ha hb) HW.out).mono ?_
  rintro e w' ⟨rfl, rfl⟩
  go_wp2_with fail
  refine (meet_yes _ HS.out ha HM.out).mono ?_
  rintro e w' ⟨rfl, hb1⟩
  have hc0 : w'.cell? ⟨w.heap.size, 0, none⟩ = some (.int .i64 0) := (hb1.cell (p := ⟨w.heap.size, 0, none⟩) (by simp; omega)).trans (by simp [go_sem])
  have hf0 : w'.frozen? ⟨w.heap.size, 0, none⟩ = false := (hb1.frozen (p := ⟨w.heap.size, 0, none⟩) (by simp; omega)).trans (by simp [go_sem])
  have hB := Lib.hid ((((Below.refl _ w).alloc (Nat.le_refl _) _).alloc (by simp) _).trans (hb1.mono (by simp; omega)))
  clear hb1
  go_wp2_with fail
  have hc1 := cell_set_same (.int .i64 0) hc0
  refine door_ret ⟨_, by simp [results, Tryz.results34, go_sem, hc1], rfl, hB.out.setCell (Nat.le_refl _) _⟩
set_option maxHeartbeats 400000 in
set_option maxRecDepth 20000 in
theorem Has_no (a b : ByteArray) (w : World) (ha : a.size ≤ maxLen) (hb : b.size ≤ maxLen) (hh : Cb.isHead b.data.toList = true) (hw : Cb.wrong [a.data.toList, b.data.toList] = 0) (hm : Cb.meet a.data.toList b.data.toList = none) :
    Calls Tryz.prog 34 #[.string a, .string b] w fun e w' => e = .returned (.tuple #[.bool false, .int .i64 0]) ∧ Below w.heap.size w w' := by
  have hsz : b.size = a.size := by simpa using (Cb.wrong_two hw).2.2
  have HC := Lib.hid (Cb.wrong_two hw).1
  have HH := Lib.hid hh
  have HW := Lib.hid hw
  have HM := Lib.hid hm
  have HS := Lib.hid hsz
  clear hw hm hsz hh
  go_enter_defers Tryz.func34, Tryz.ntmps34
  go_wp2_with fail
  refine (cub_true _ ha HC.out).mono ?_
  rintro e w' ⟨rfl, rfl⟩
  go_wp2_with fail
  refine (hd_true _ hb HH.out).mono ?_
  rintro e w' ⟨rfl, rfl⟩
  go_wp2_with fail
  refine (must_ok (ss := [a, b]) (two_rds _ _ _ _ (by simp) _) (two_le ha hb) HW.out).mono ?_
  rintro e w' ⟨rfl, rfl⟩
  go_wp2_with fail
  refine (meet_no _ HS.out ha HM.out).mono ?_
  rintro e w' ⟨rfl, hb1⟩
  have hc0 : w'.cell? ⟨w.heap.size, 0, none⟩ = some (.int .i64 0) := (hb1.cell (p := ⟨w.heap.size, 0, none⟩) (by simp; omega)).trans (by simp [go_sem])
  have hf0 : w'.frozen? ⟨w.heap.size, 0, none⟩ = false := (hb1.frozen (p := ⟨w.heap.size, 0, none⟩) (by simp; omega)).trans (by simp [go_sem])
  have hB := Lib.hid ((((Below.refl _ w).alloc (Nat.le_refl _) _).alloc (by simp) _).trans (hb1.mono (by simp; omega)))
  clear hb1
  go_wp2_with fail
  have hc1 := cell_set_same (.int .i64 0) hc0
  refine door_ret ⟨_, by simp [results, Tryz.results34, go_sem, hc1], rfl, hB.out.setCell (Nat.le_refl _) _⟩
end Go.Proofs.YtlamhpiiikcpiaaGreatDoor
