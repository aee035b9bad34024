/-
  Walks: the iterator over a text's lines.
-/
import Derived.RangeFuncNested
import Derived.RangeFuncBound
import Derived.RangeFuncCalls
import Derived.RangeFuncLeaves
import Derived.Shelf.Abstract
import Derived.Shelf.RegionOpen
import Derived.WalkKit
import Derived.OwnWalkIn
import Derived.TacticsInMore
import Derived.LoopNIn
import Derived.LoopIn
import Derived.Test.YtfnfmkejkgiclaaDoorWdC
namespace Go.Proofs.YtfnfmkejkgiclaaDoor
open Go.RowKit Go.Shelf
set_option linter.unusedVariables false
set_option linter.unusedSimpArgs false
attribute [local go_sem] Oper.semAt_some

/-- What the iterator's captured variables hold. -/
structure ItSt (N : Nat) (sc : ByteArray) (W : World) : Prop where
  s : W.heap[N + 6]? = some (.cells #[.string sc] 9 (0, 0))
  p : W.heap[N + 7]? = some (.cells #[.string ⟨#[10]⟩] 9 (0, 0))
  v : W.heap[N + 8]? = some (.cells #[.int .i64 0] 3 (0, 0))

theorem ItSt.cells {N : Nat} {sc : ByteArray} {W : World} (h : ItSt N sc W) : W.cell? ⟨N + 6, 0, none⟩ = some (.string sc) ∧ W.cell? ⟨N + 7, 0, none⟩ = some (.string ⟨#[10]⟩) ∧ W.cell? ⟨N + 8, 0, none⟩ = some (.int .i64 0) ∧ W.frozen? ⟨N + 6, 0, none⟩ = false := by
  refine ⟨?_, ?_, ?_, ?_⟩
  · simp [World.cell?, h.s]
  · simp [World.cell?, h.p]
  · simp [World.cell?, h.v]
  · simp [World.frozen?, h.s]

theorem one_set {W : World} {b : Nat} {v : Value} {t : TypeId} (h : W.heap[b]? = some (.cells #[v] t (0, 0))) (u : Value) : (W.setCell ⟨b, 0, none⟩ u).heap[b]? = some (.cells #[u] t (0, 0)) := by
  obtain ⟨hlt, he⟩ := Array.getElem?_eq_some_iff.1 h
  simp [World.setCell, hlt, Array.getElem_modify, he]

theorem far_set {W : World} {a : Addr} {k : Nat} (u : Value) (h : k ≠ a.block) : (W.setCell a u).heap[k]? = W.heap[k]? := Below.heap_setCell _ _ _ _ h

theorem ItSt.set {N : Nat} {sc : ByteArray} {W : World} (h : ItSt N sc W) (u : ByteArray) : ItSt N u (W.setCell ⟨N + 6, 0, none⟩ (.string u)) :=
  ⟨one_set h.s _, (far_set _ (by show N + 7 ≠ N + 6; omega)).trans h.p, (far_set _ (by show N + 8 ≠ N + 6; omega)).trans h.v⟩

theorem index_none_mem {l : List UInt8} (h : Lib.indexByte l 10 = -1) : (10 : UInt8) ∉ l := by
  intro hm
  obtain ⟨k, hk, e⟩ := List.getElem_of_mem hm
  exact Lib.indexByte_none h k (by rw [List.getElem?_eq_getElem hk, e])

theorem index_some_split {l : List UInt8} {i : Nat} (h : Lib.indexByte l 10 = i) : i < l.length ∧ Wd.split l = l.take i :: Wd.split (l.drop (i + 1)) := by
  obtain ⟨h1, h2⟩ := Lib.indexByte_some h
  have hi : i < l.length := by
    rcases Nat.lt_or_ge i l.length with h | h
    · exact h
    · rw [List.getElem?_eq_none h] at h1; cases h1
  refine ⟨hi, ?_⟩
  have e : l = l.take i ++ 10 :: l.drop (i + 1) := by
    have hd := List.drop_eq_getElem_cons hi
    rw [List.getElem?_eq_getElem hi] at h1
    injection h1 with h1
    rw [h1] at hd
    rw [← hd, List.take_append_drop]
  have hno : (10 : UInt8) ∉ l.take i := by
    intro hm
    obtain ⟨k, hk, e2⟩ := List.getElem_of_mem hm
    have hk2 : k < i := by rw [List.length_take] at hk; omega
    refine h2 k hk2 ?_
    rw [List.getElem?_eq_getElem (by omega)]
    rw [List.getElem_take] at e2
    rw [e2]
  have := Wd.split_some (l.take i) (l.drop (i + 1)) hno
  rw [← e] at this
  exact this

/-- How long the text is that a cell holds. -/
def cellS (w : World) (a : Addr) : Nat := match w.cell? a with | some (.string s) => s.size | _ => 0

def IterPost (L : List (List UInt8)) (J : List (List UInt8) → World → Prop) (Jp : List PanicEntry → World → Prop) (e : Ending) (W' : World) : Prop :=
  ((∃ v, e = .returned v) ∧ J L W') ∨ ∃ ch, e = .panicked ch ∧ Jp ch W'

set_option maxHeartbeats 4000000 in
set_option maxRecDepth 20000 in
theorem iter_any (n l N : Nat) (hn : 1 ≤ n) (s : ByteArray) (hs : s.size ≤ 1048576) (J : List (List UInt8) → World → Prop) (Jp : List PanicEntry → World → Prop)
    (hset : ∀ pre W u, J pre W → J pre (W.setCell ⟨N + 6, 0, none⟩ (.string u)))
    (hY : ∀ pre x rest sc W, Wd.split s.data.toList = pre ++ x :: rest → J pre W → ItSt N sc W → YieldAt Fence.wide (n - 1) Tryd.prog l #[.string (Wd.mkB x)] W fun e W' =>
      (e = .returned (.bool true) ∧ J (pre ++ [x]) W' ∧ ItSt N sc W') ∨ (∃ ch, e = .panicked ch ∧ Jp ch W'))
    (W : World) (h0 : J [] W) (hit : ItSt N s W) :
    CallsIn Fence.wide n Tryd.prog 42 #[.func (.yield l) #[] #[], .pointer (some ⟨N + 7, 0, none⟩), .pointer (some ⟨N + 6, 0, none⟩), .pointer (some ⟨N + 8, 0, none⟩)] W (IterPost (Wd.split s.data.toList) J Jp) := by
  have HIt := Lib.hid hit
  have HJ := Lib.hid h0
  have HY := Lib.hid hY
  have HS := Lib.hid hset
  obtain ⟨c6, c7, c8, f6⟩ := hit.cells
  clear hit h0 hY hset
  refine callsIn_of_wp Tryd.func42 rfl trivial ?_ rfl
  simp only [Tryd.ntmps42, List.size_toArray, List.length_cons, List.length_nil, Nat.reduceAdd, Nat.reduceSub, Array.replicate_succ, Array.replicate_zero, List.push_toArray, List.append_toArray, List.nil_append, List.cons_append]
  gi_wp2
  gi_loopw [7] (fun _ wr => ∃ (pre : List (List UInt8)) (sc : ByteArray), Hid (Wd.split s.data.toList = pre ++ Wd.split sc.data.toList) ∧ sc.size ≤ 1048576 ∧ Hid (J pre wr) ∧ Hid (ItSt N sc wr))
    (fun _ wr => cellS wr ⟨N + 6, 0, none⟩)
  case atStart => exact ⟨[], s, by show _ = _; rw [List.nil_append], hs, HJ, HIt⟩
  case round =>
    obtain ⟨pre, sc, hsp, hsc, hj, hI⟩ := hrel
    obtain ⟨d6, d7, d8, g6⟩ := hI.out.cells
    have hm : cellS wr ⟨N + 6, 0, none⟩ = sc.size := by unfold cellS; rw [d6]
    have HM := Lib.hid hm
    clear hm c6 c7 c8 f6
    obtain ⟨z, hz⟩ : ∃ z, Lib.indexByte sc.data.toList 10 = z := ⟨_, rfl⟩
    have HX : Hid (CallsIn Fence.wide (n - 1) Tryd.prog 44 #[.string sc, .string ⟨#[10]⟩] wr fun e w' => e = .returned (.int .i64 z) ∧ wr = w') :=
      callsIn_wide.2 ((Tryd.strings_Index_one sc 10 wr).mono (by rintro e w' ⟨rfl, rfl⟩; rw [hz]; exact ⟨rfl, rfl⟩))
    by_cases hz0 : z < 0
    · have hz1 : z = -1 := by have := Lib.indexByte_ge sc.data.toList 10; omega
      have hsp2 : Wd.split sc.data.toList = [sc.data.toList] := Wd.split_none _ (index_none_mem (by rw [hz, hz1]))
      obtain ⟨fn, tmps, assign, body, hy, hR⟩ := HY.out pre sc.data.toList [] sc wr (by rw [hsp.out, hsp2]) hj.out hI.out
      rw [Wd.mkB_of] at hy
      have HR := Lib.hid hR
      have HE : Hid (Wd.split s.data.toList = pre ++ [sc.data.toList]) := by show _ = _; rw [hsp.out, hsp2]
      clear hR hz hz1 hsp2
      gi_wp2_with (refine ⟨trivial, ?_⟩; gi_at_call 44; refine HX.out.mono ?_; rintro e w' ⟨rfl, rfl⟩)
      refine HR.out.mono ?_
      rintro e W3 (⟨rfl, hJ3, hI3⟩ | ⟨ch, rfl, hP⟩)
      · have H3 := Lib.hid hJ3
        clear hJ3 hI3
        gi_wp2
        go_end0
        exact .inl ⟨⟨_, rfl⟩, by rw [HE.out]; exact H3.out⟩
      · exact ⟨rfl, .inr ⟨ch, rfl, hP⟩⟩
    · obtain ⟨i, hi⟩ : ∃ i : Nat, z = i := ⟨z.toNat, by omega⟩
      subst hi
      obtain ⟨hil, hsp2⟩ := index_some_split hz
      have hlen : sc.data.toList.length = sc.size := (Lib.size_eq sc).symm
      have hii : i < sc.size := by omega
      obtain ⟨fn, tmps, assign, body, hy, hR⟩ := HY.out pre (sc.data.toList.take i) (Wd.split (sc.data.toList.drop (i + 1))) sc wr (by rw [hsp.out, hsp2]) hj.out hI.out
      have hmk : Wd.mkB (sc.data.toList.take i) = sc.extract 0 i := by rw [← Wd.mkB_of (sc.extract 0 i), Lib.extract_data]; simp
      rw [hmk] at hy
      have HR := Lib.hid hR
      have hdr : (sc.extract (i + 1) sc.size).data.toList = sc.data.toList.drop (i + 1) := Lib.extract_to_end _ _
      have HE : Hid (Wd.split s.data.toList = (pre ++ [sc.data.toList.take i]) ++ Wd.split (sc.extract (i + 1) sc.size).data.toList) := by show _ = _; rw [hsp.out, hsp2, hdr]; simp
      have hsz : (sc.extract (i + 1) sc.size).size = sc.size - (i + 1) := by rw [ByteArray.size_extract]; omega
      have HZ := Lib.hid hsz
      have hi0 : (0 : Int) ≤ (i : Int) := by omega
      have hi1 : (i : Int) ≤ (sc.size : Int) := by omega
      have hi2 : (i : Int) + 1 ≤ (sc.size : Int) := by omega
      have hi3 : ((i : Int) + 1).toNat = i + 1 := by omega
      have hi4 : IntKind.i64.wrap ((i : Int) + 1) = (i : Int) + 1 := IntWalk.i64_in _ (by omega)
      have hi5 : (0 : Int) ≤ (i : Int) + 1 := by omega
      clear hR hz hsp2 hmk hdr hsz hil hlen
      gi_wp2_with (refine ⟨trivial, ?_⟩; gi_at_call 44; refine HX.out.mono ?_; rintro e w' ⟨rfl, rfl⟩)
      refine HR.out.mono ?_
      rintro e W3 (⟨rfl, hJ3, hI3⟩ | ⟨ch, rfl, hP⟩)
      · have H3 := Lib.hid hJ3
        have HI3 := Lib.hid hI3
        obtain ⟨e6, e7, e8, f6⟩ := hI3.cells
        clear hJ3 hI3 d6 d7 d8 g6
        gi_wp2
        go_roundw
        case rel => exact ⟨_, _, HE, by rw [HZ.out]; omega, HS.out _ _ _ H3.out, HI3.out.set _⟩
        case measure =>
          rw [HM.out]
          have : cellS (W3.setCell ⟨N + 6, 0, none⟩ (.string (sc.extract (i + 1) sc.size))) ⟨N + 6, 0, none⟩ = sc.size - (i + 1) := by
            unfold cellS; rw [cell_set_same _ e6]; exact HZ.out
          rw [this]; omega
      · exact ⟨rfl, .inr ⟨ch, rfl, hP⟩⟩
end Go.Proofs.YtfnfmkejkgiclaaDoor
