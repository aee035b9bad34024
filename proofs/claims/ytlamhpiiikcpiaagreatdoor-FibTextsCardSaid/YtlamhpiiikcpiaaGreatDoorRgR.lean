/-
  strings.Builder as this program bears it (its panic's text is not loaded): copyCheck, WriteString, WriteByte. Turned from the shelf's own walks.
-/
import Derived.Test.YtlamhpiiikcpiaaGreatDoorShelf
import Derived.Lib.Builder
import Derived.Lib.AppendStr
import Derived.Lib.UnsafeStr
import Derived.WalkKit
import Derived.Laws.Externs
import Derived.Test.YtlamhpiiikcpiaaGreatDoorRgP
import Derived.Test.YtlamhpiiikcpiaaGreatDoorRgQ
import Derived.Test.YtlamhpiiikcpiaaGreatDoorRgM
import Derived.Test.YtlamhpiiikcpiaaGreatDoorRgK
namespace Go.Proofs.YtlamhpiiikcpiaaGreatDoor
open Go.RowKit Go.Shelf
set_option linter.unusedVariables false
set_option linter.unusedSimpArgs false
theorem sizeBuilder : (Tryz.prog.info? 94).map (·.size) = some 2 := by kernel_rfl
theorem liesBuilder : liesAt Tryz.prog Tryz.prog.depth 94 (2 / Tryz.prog.cellsOf 94) 0 94 1 = true := by kernel_rfl
theorem infoByteB : (Tryz.prog.info? 5).map (fun i => (i.zero, i.size, i.bytes)) = some (some (.int .u8 0), 1, 1) := by kernel_rfl
set_option maxHeartbeats 1000000 in
set_option maxRecDepth 100000 in
theorem bCheck_used (b : Nat) (w : World) (h0 : w.cell? ⟨b, 0, none⟩ = some (.pointer (some ⟨b, 0, none⟩))) :
    Calls Tryz.prog 76 #[.pointer (some ⟨b, 0, none⟩)] w fun e w' => e = .returned (.tuple #[]) ∧ w' = w := by
  obtain ⟨j, hj, _⟩ := Option.map_eq_some_iff.1 sizeBuilder
  go_enter Tryz.func76, Tryz.ntmps76
  go_wp2_with fail
  rw [Lib.run_neq_ptr_same w _ Tryz.underlying91 hj]
  go_wp2_with fail
  first | refine bodyPost_end (v := .tuple #[]) (results_none rfl _ _ _) rfl ?_ | refine bodyPost_ret (v := .tuple #[]) (results_none rfl _ _ _) rfl ?_
  exact ⟨rfl, rfl⟩
set_option maxHeartbeats 1000000 in
set_option maxRecDepth 100000 in
theorem bCheck_fresh (b : Nat) (w : World) (h0 : w.cell? ⟨b, 0, none⟩ = some (.pointer none)) (hsh : w.shape? b = some (94, 2)) (hfz : w.frozen? ⟨b, 0, none⟩ = false) :
    Calls Tryz.prog 76 #[.pointer (some ⟨b, 0, none⟩)] w fun e w' => e = .returned (.tuple #[]) ∧ w' = w.setCell ⟨b, 0, none⟩ (.pointer (some ⟨b, 0, none⟩)) := by
  obtain ⟨j, hj, hjs⟩ := Option.map_eq_some_iff.1 sizeBuilder
  go_enter Tryz.func76, Tryz.ntmps76
  go_wp2_with fail
  rw [Lib.run_to_unsafe w ⟨b, 0, none⟩ Tryz.underlying91 Tryz.underlying189 hj (by rw [hjs]; decide) hsh (Nat.zero_lt_succ 1)]
  simp only [Result.andThen]
  rw [Oper.upon_value]
  go_wp2_with fail
  rw [run_callFunc_extern Tryz.func107 (by kernel_rfl) (by kernel_rfl) (by kernel_rfl) (e := Extern.AbiNoEscape.same) (by kernel_rfl)]
  rw [Lib.run_noEscape]
  simp only [Result.andThen]
  rw [Oper.upon_value]
  go_wp2_with fail
  rw [Lib.run_from_unsafe w ⟨b, 0, none⟩ Tryz.underlying189 Tryz.underlying91 hj hsh liesBuilder]
  simp only [Result.andThen]
  rw [Oper.upon_value]
  go_wp2_with fail
  first | refine bodyPost_end (v := .tuple #[]) (results_none rfl _ _ _) rfl ?_ | refine bodyPost_ret (v := .tuple #[]) (results_none rfl _ _ _) rfl ?_
  exact ⟨rfl, rfl⟩
theorem bCheck_any (B b : Nat) (bs : List Value) (w : World) (h : Lib.IsBuilder 94 5 B b bs w) :
    Calls Tryz.prog 76 #[.pointer (some ⟨b, 0, none⟩)] w fun e w' => e = .returned (.tuple #[]) ∧ (Lib.BuilderAt 94 5 B b (.pointer (some ⟨b, 0, none⟩)) bs w' ∧ Below B w w') := by
  rcases h with h | h
  · refine (bCheck_fresh b w h.cell0 h.shape h.frozen0).mono ?_
    rintro e w' ⟨rfl, rfl⟩
    exact ⟨rfl, h.used _, (Below.refl B w).setCell (p := ⟨b, 0, none⟩) h.1 _⟩
  · refine (bCheck_used b w h.cell0).mono ?_
    rintro e w' ⟨rfl, rfl⟩
    exact ⟨rfl, h, Below.refl B _⟩
set_option maxHeartbeats 2000000 in
set_option maxRecDepth 100000 in
theorem bByte_any (B b : Nat) (bs : List Value) (c : Int) (w : World) (h : Lib.IsBuilder 94 5 B b bs w) (hlen : bs.length + 1 ≤ 140737488355328) (hBw : B ≤ w.heap.size) :
    Calls Tryz.prog 42 #[.pointer (some ⟨b, 0, none⟩), .int .u8 c] w fun e w' => e = .returned .nilIface ∧ (Lib.BuilderAt 94 5 B b (.pointer (some ⟨b, 0, none⟩)) (bs ++ [.int .u8 c]) w' ∧ Below B w w') := by
  obtain ⟨i0, hi, hz0, hz1, hz2⟩ := info_parts infoByteB
  have HC := bCheck_any B b bs w h
  go_enter Tryz.func42, Tryz.ntmps42
  go_wp2_with fail
  refine HC.mono ?_
  rintro e w1 ⟨rfl, h1, hb1⟩
  obtain ⟨hB, v, hbk, hown, hne⟩ := h1
  have c0 : w1.cell? ⟨b, 0, none⟩ = some (.pointer (some ⟨b, 0, none⟩)) := by rw [Lib.cell_of_heap hbk]; rfl
  have c1 : w1.cell? ⟨b, 1, none⟩ = some v := by rw [Lib.cell_of_heap hbk]; rfl
  go_wp2_with (at_builtin; refine wpList_append_own _ rfl _ _ 92 rfl B 5 i0 (.int .u8 0) 1 1 Tryz.underlying92 hi hz0 hz1 hz2 rfl (by decide) _ _ _ rfl (hown.alloc _) ⟨w1.heap.size, 0, none⟩ 1 1 [.int .u8 c] rfl rfl ?c1 ?c2 ?c3 ?c4 ?c5 ?_)
  case c1 =>
    intro j u hj
    match j, hj with
    | 0, hj => simp at hj; subst hj; simp [Addr.add]
  case c2 => intro u hu; simp at hu; subst hu; rfl
  case c3 => unfold maxLen; omega
  case c4 => omega
  case c5 => have := hb1.size; simp; omega
  intro v' w2 hown' hgrow _
  have hlt : b < w1.heap.size := by
    rcases Nat.lt_or_ge b w1.heap.size with h' | h'
    · exact h'
    · simp [Array.getElem?_eq_none h'] at hbk
  have hb2 : w2.heap[b]? = some (.cells #[.pointer (some ⟨b, 0, none⟩), v] 94 (0, 0)) := by
    rw [hgrow.block b (by simp; omega) (fun e => hne e.symm), Lib.alloc_old w1 _ b hlt]
    exact hbk
  have d0 : w2.cell? ⟨b, 0, none⟩ = some (.pointer (some ⟨b, 0, none⟩)) := by rw [Lib.cell_of_heap hb2]; rfl
  have d1 : w2.cell? ⟨b, 1, none⟩ = some v := by rw [Lib.cell_of_heap hb2]; rfl
  have f1 : w2.frozen? ⟨b, 1, none⟩ = false := Lib.frozen_of_heap hb2 1
  obtain ⟨g, cap, rfl⟩ : ∃ g cap, v' = .slice (some ⟨g, 0, none⟩) (bs.length + 1) cap := by
    rcases hown'.2 with ⟨_, h0⟩ | ⟨g, cap, cur, hv, _⟩
    · omega
    · exact ⟨g, cap, hv⟩
  clear HC h
  go_wp2_with fail
  go_ret
  refine ⟨rfl, ?_, ?_⟩
  · exact Lib.BuilderAt.put (T := 94) (e := 5) hB hb2 (bs' := bs ++ [.int .u8 c]) (by simpa using hown') (by decide)
  · exact ((hb1.alloc (by have := hb1.size; omega) _).grown hgrow (by have := hb1.size; simp; omega) (fun k hk => (hown.lt k hk).1)).setCell (p := ⟨b, 1, none⟩) hB _
set_option maxHeartbeats 2000000 in
set_option maxRecDepth 100000 in
theorem bString_any (B b : Nat) (bs : List Value) (s : ByteArray) (w : World) (h : Lib.IsBuilder 94 5 B b bs w) (hlen : bs.length + s.size ≤ 140737488355328) (hBw : B ≤ w.heap.size) :
    Calls Tryz.prog 41 #[.pointer (some ⟨b, 0, none⟩), .string s] w fun e w' => e = .returned (.tuple #[.int .i64 s.size, .nilIface]) ∧ (Lib.BuilderAt 94 5 B b (.pointer (some ⟨b, 0, none⟩)) (bs ++ Lib.strCells s) w' ∧ Below B w w') := by
  obtain ⟨i0, hi, hz0, hz1, hz2⟩ := info_parts infoByteB
  have HC := bCheck_any B b bs w h
  go_enter Tryz.func41, Tryz.ntmps41
  go_wp2_with fail
  refine HC.mono ?_
  rintro e w1 ⟨rfl, h1, hb1⟩
  obtain ⟨hB, v, hbk, hown, hne⟩ := h1
  have c0 : w1.cell? ⟨b, 0, none⟩ = some (.pointer (some ⟨b, 0, none⟩)) := by rw [Lib.cell_of_heap hbk]; rfl
  have c1 : w1.cell? ⟨b, 1, none⟩ = some v := by rw [Lib.cell_of_heap hbk]; rfl
  go_wp2_with (at_builtin; refine Lib.wpList_append_own_string _ rfl _ _ 92 9 rfl B 5 i0 Tryz.underlying92 Tryz.underlying9 hi hz0 hz1 hz2 _ _ _ rfl hown s rfl ?c3 ?c4 ?c5 ?_)
  case c3 => unfold maxLen; omega
  case c4 => omega
  case c5 => have := hb1.size; omega
  intro v' w2 hown' hgrow _
  have hlt : b < w1.heap.size := by
    rcases Nat.lt_or_ge b w1.heap.size with h' | h'
    · exact h'
    · simp [Array.getElem?_eq_none h'] at hbk
  have hb2 : w2.heap[b]? = some (.cells #[.pointer (some ⟨b, 0, none⟩), v] 94 (0, 0)) := by
    rw [hgrow.block b hlt (fun e => hne e.symm)]
    exact hbk
  have d0 : w2.cell? ⟨b, 0, none⟩ = some (.pointer (some ⟨b, 0, none⟩)) := by rw [Lib.cell_of_heap hb2]; rfl
  have d1 : w2.cell? ⟨b, 1, none⟩ = some v := by rw [Lib.cell_of_heap hb2]; rfl
  have f1 : w2.frozen? ⟨b, 1, none⟩ = false := Lib.frozen_of_heap hb2 1
  obtain ⟨ao, n', cap, rfl⟩ : ∃ ao n' cap, v' = .slice ao n' cap := by
    rcases hown'.2 with ⟨hv, _⟩ | ⟨g, cap, cur, hv, _⟩
    · exact ⟨_, _, _, hv⟩
    · exact ⟨_, _, _, hv⟩
  clear HC h
  go_wp2_with fail
  go_ret2
  refine ⟨rfl, ?_, ?_⟩
  · exact Lib.BuilderAt.put (T := 94) (e := 5) hB hb2 (bs' := bs ++ Lib.strCells s) (by simpa [Lib.strCells_length] using hown') (by decide)
  · exact (hb1.grown hgrow (by have := hb1.size; omega) (fun k hk => (hown.lt k hk).1)).setCell (p := ⟨b, 1, none⟩) hB _
end Go.Proofs.YtlamhpiiikcpiaaGreatDoor
/-
  Walks over package rules: Print.
-/
namespace Go.Proofs.YtlamhpiiikcpiaaGreatDoor
open Go.RowKit Go.Shelf Go.Lib Go.Sort
set_option linter.unusedVariables false
set_option linter.unusedSectionVars false
set_option linter.unusedSimpArgs false
namespace Pr
/-- The text of rules, behind those that are seen; or why there is none, and where. -/
def printF (width : Int) : List Rl → List Rl → Except (Int × Nat) (List UInt8)
  | [], _ => .ok []
  | r :: rest, seen =>
    if ¬ Rp.checkR r width = 0 then .error (Rp.checkR r width, seen.length)
    else if knownB seen r.p r.m = true then .error (52, seen.length)
    else (printF width rest (seen ++ [r])).map (fun t => lineT r ++ 10 :: t)
/-- The text of rules; or why there is none, and where. -/
def print (L : List Rl) (width : Int) : Except (Int × Nat) (List UInt8) :=
  if width < 1 ∨ 128 < width then .error (1, 0) else if 4096 < L.length then .error (3, 0) else printF width L []
theorem printF_step {width : Int} {L : List Rl} {i : Nat} (h : i < L.length) : printF width (L.drop i) (L.take i) =
    if ¬ Rp.checkR L[i] width = 0 then .error (Rp.checkR L[i] width, i)
    else if knownB (L.take i) L[i].p L[i].m = true then .error (52, i)
    else (printF width (L.drop (i + 1)) (L.take (i + 1))).map (fun t => lineT L[i] ++ 10 :: t) := by
  rw [List.drop_eq_getElem_cons h, List.take_succ_eq_append_getElem h]
  have e : (L.take i).length = i := by rw [List.length_take]; omega
  simp only [printF, e]
/-- A text ahead of what is still to come. -/
def ahd (acc : List UInt8) (x : Except (Int × Nat) (List UInt8)) : Except (Int × Nat) (List UInt8) := x.map (acc ++ ·)
theorem ahd_err (acc : List UInt8) (e : Int × Nat) : ahd acc (.error e) = .error e := rfl
theorem ahd_more (acc t : List UInt8) (x : Except (Int × Nat) (List UInt8)) : ahd acc (x.map (fun u => t ++ 10 :: u)) = ahd (acc ++ t ++ [10]) x := by
  cases x with
  | error e => rfl
  | ok u => simp [ahd, Except.map]
theorem line_len {r : Rl} {width : Int} (h : Rp.checkR r width = 0) : (lineT r).length ≤ 17157 := by
  obtain ⟨h1, h2, h3, h4, h5, h6, h7⟩ := check_ok h
  obtain ⟨hk, hp⟩ := action_names h7
  have hpl : r.ps.length ≤ 64 := by
    unfold Rp.actionB at h7
    split at h7
    · have : r.ps.length = 0 := by simpa using h7
      omega
    · split at h7
      · unfold Rp.portsB at h7
        simp only [Bool.and_eq_true, decide_eq_true_eq] at h7
        exact h7.2
      · cases h7
  have hall : ∀ x ∈ (ruleL r).map (fun x => x.data.toList), x.length ≤ 128 := by
    intro y hy
    obtain ⟨x, hx, rfl⟩ := List.mem_map.1 hy
    rw [← Lib.size_eq]
    unfold ruleL at hx
    rcases List.mem_append.1 hx with hx | hx
    · simp only [List.mem_cons, List.not_mem_nil, or_false] at hx
      rcases hx with e | e | e
      · rw [e]; decide
      · rw [e, Wd.mkB_size, Lib.decDigits_length]
        have h9 : r.p.toNat < 10 ^ 10 := by omega
        have := nDigits_le h9
        omega
      · rw [e]; omega
    · exact Nat.le_trans (said_small hk hp x hx) (by omega)
  have hj := Wd.jn_len 128 _ hall
  rw [List.length_map] at hj
  have hl : (ruleL r).length ≤ 133 := by
    have := saidL_len r.k r.ps
    unfold ruleL
    rw [List.length_append, this]
    simp only [List.length_cons, List.length_nil]
    split <;> omega
  unfold lineT
  exact Nat.le_trans hj (Nat.mul_le_mul_right 129 hl)
end Pr
theorem builder_but {S : Nat → Prop} {T e : TypeId} {B b : Nat} {bs : List Value} {w w' : World} (h : Lib.IsBuilder T e B b bs w) (hb : But S w w') (hs : ∀ k, S k → k < B) : Lib.IsBuilder T e B b bs w' := by
  have key : ∀ p, Lib.BuilderAt T e B b p bs w → Lib.BuilderAt T e B b p bs w' := by
    rintro p ⟨hB, v, hbk, hown, hne⟩
    exact ⟨hB, v, (hb.block b (heapLt hbk) (fun e => by have := hs b e; omega)).trans hbk, ownsRow_butS' hown hb (fun g hg e => by have := (own_ge hown g hg).1; have := hs g e; omega), hne⟩
  exact h.imp (key _) (key _)
theorem but_of_below {B : Nat} {w w' : World} (h : Below B w w') : But (fun k => B ≤ k) w w' :=
  ⟨h.os, h.tape, h.output, h.size, fun k _ hn => h.block k (by omega)⟩
theorem cells_mkB (a t : List UInt8) : Lib.byteCells a ++ Lib.strCells (Wd.mkB t) = Lib.byteCells (a ++ t) := by
  rw [strCells_eq, Wd.mkB_list]
  unfold Lib.byteCells bytesV
  rw [List.map_append]
theorem cells_ten (a : List UInt8) : Lib.byteCells a ++ [.int .u8 10] = Lib.byteCells (a ++ [10]) := by
  unfold Lib.byteCells
  rw [List.map_append]
  rfl
/-- Between two rules: the keys seen, the text so far. -/
structure PnSt (w : World) (M : Nat) (L : List Rl) (acc : List UInt8) (W : World) : Prop where
  bel : Below w.heap.size w W
  lo : w.heap.size ≤ M
  sz : M + 1 < W.heap.size
  mp : MapSt W M L
  bd : Lib.IsBuilder 94 5 (M + 1) (M + 1) (Lib.byteCells acc) W
theorem PnSt.below {w : World} {M : Nat} {L : List Rl} {acc : List UInt8} {W W' : World} (h : PnSt w M L acc W) (hb : Below W.heap.size W W') : PnSt w M L acc W' :=
  ⟨h.bel.trans (hb.mono h.bel.size), h.lo, Nat.lt_of_lt_of_le h.sz hb.size, h.mp.but (S := fun _ => False) (But.below hb) (fun h => h), builder_but h.bd (S := fun _ => False) (But.below hb) (fun _ h => h.elim)⟩
theorem PnSt.mapped {w : World} {M : Nat} {L K : List Rl} {acc : List UInt8} {W W' : World} (h : PnSt w M L acc W) (hb : But (fun k => k = M) W W') (hm : MapSt W' M K) : PnSt w M K acc W' :=
  ⟨h.bel.trans (hb.toBelow h.bel.size (fun k hk => by have := h.lo; omega)), h.lo, Nat.lt_of_lt_of_le h.sz hb.size, hm, builder_but h.bd hb (fun k hk => by omega)⟩
theorem PnSt.built {w : World} {M : Nat} {L : List Rl} {acc acc' : List UInt8} {W W' : World} (h : PnSt w M L acc W) (hb : Below (M + 1) W W') (hd : Lib.IsBuilder 94 5 (M + 1) (M + 1) (Lib.byteCells acc') W') : PnSt w M L acc' W' :=
  ⟨h.bel.trans (hb.mono (by have := h.lo; omega)), h.lo, Nat.lt_of_lt_of_le h.sz hb.size, h.mp.but (but_of_below hb) (by omega), hd⟩
/-- What Print answers. -/
def PrintPost (L : List Rl) (width : Int) (w : World) (e : Ending) (w' : World) : Prop :=
  (match Pr.print L width with
  | .ok t => e = .returned (.tuple #[.string (Wd.mkB t), .int .i64 0, .int .i64 0])
  | .error (c, i) => e = .returned (.tuple #[.string ⟨#[]⟩, .int .i64 i, .int .i64 c])) ∧ Below w.heap.size w w'
theorem printPost_err {L : List Rl} {width : Int} {w w' : World} {c : Int} {i : Nat} (h : Pr.print L width = .error (c, i)) (hb : Below w.heap.size w w') : PrintPost L width w (.returned (.tuple #[.string ⟨#[]⟩, .int .i64 i, .int .i64 c])) w' := by
  unfold PrintPost
  rw [h]
  exact ⟨rfl, hb⟩
theorem printPost_ok {L : List Rl} {width : Int} {w w' : World} {t : List UInt8} (h : Pr.print L width = .ok t) (hb : Below w.heap.size w w') : PrintPost L width w (.returned (.tuple #[.string (Wd.mkB t), .int .i64 0, .int .i64 0])) w' := by
  unfold PrintPost
  rw [h]
  exact ⟨rfl, hb⟩
set_option maxHeartbeats 1600000 in
set_option maxRecDepth 20000 in
theorem print_bad {ok : Nat → Prop} {v : Value} {L : List Rl} {w : World} (hr : RdsR ok w v L) (width : Int) (hw : width < 1 ∨ 128 < width ∨ 4096 < L.length) : Calls Tryz.prog 24 #[v, .int .i64 width] w (PrintPost L width w) := by
  obtain ⟨ad, cap, rfl, hcap, hmax⟩ := hr.form
  obtain ⟨n, hn⟩ : ∃ n, n = L.length := ⟨_, rfl⟩
  rw [← hn] at hw ⊢
  clear hcap hmax hr
  have hcs : (width < 1 ∧ Pr.print L width = .error (1, 0)) ∨ (decide (width < 1) = false ∧ 128 < width ∧ Pr.print L width = .error (1, 0)) ∨ (decide (width < 1) = false ∧ decide (128 < width) = false ∧ (4096 : Int) < (n : Int) ∧ Pr.print L width = .error (3, 0)) := by
    unfold Pr.print
    rw [← hn]
    by_cases h1 : width < 1
    · exact .inl ⟨h1, by rw [if_pos (.inl h1)]⟩
    · by_cases h2 : 128 < width
      · exact .inr (.inl ⟨by simpa using h1, h2, by rw [if_pos (.inr h2)]⟩)
      · have h3 : 4096 < n := by omega
        exact .inr (.inr ⟨by simpa using h1, by simpa using h2, by omega, by rw [if_neg (by omega), if_pos h3]⟩)
  clear hw hn
  rcases hcs with ⟨h1, hp⟩ | ⟨h1, h2, hp⟩ | ⟨h1, h2, h3, hp⟩
  all_goals
    have HP := Lib.hid hp
    clear hp
    go_enter Tryz.func24, Tryz.ntmps24
    go_wp2_with fail
    go_ret3
    exact printPost_err HP.out (Below.refl _ _)
set_option maxHeartbeats 6400000 in
set_option maxRecDepth 20000 in
theorem print_go {ok : Nat → Prop} {v : Value} {L : List Rl} {w : World} (hr : RdsR ok w v L) (width : Int) (h1 : 1 ≤ width) (h2 : width ≤ 128) (h3 : L.length ≤ 4096) (ht : (∀ r ∈ L, r.p < 100) ∨ Tab10 w) : Calls Tryz.prog 24 #[v, .int .i64 width] w (PrintPost L width w) := by
  obtain ⟨ad, cap, rfl, hcap, hmax⟩ := hr.form
  obtain ⟨n, hn⟩ : ∃ n, n = L.length := ⟨_, rfl⟩
  rw [← hn] at hr hcap h3 ⊢
  have HN := Lib.hid hn
  have HP : Hid (Pr.print L width = Pr.printF width L []) := by
    show _ = _
    unfold Pr.print
    rw [if_neg (by omega), if_neg (by omega)]
  have HRw := Lib.hid hr.lt
  have HT := Lib.hid ht
  have hw1 : decide (width < 1) = false := by simp; omega
  have hw2 : decide (128 < width) = false := by simp; omega
  have hn1 : decide ((4096 : Int) < (n : Int)) = false := by simp; omega
  obtain ⟨w1, hw1'⟩ : ∃ w1, w1 = (w.alloc (.map #[] 0)).alloc (.cells #[.pointer none, .slice none 0 0] 94) := ⟨_, rfl⟩
  have hst : PnSt w w.heap.size [] [] w1 := by
    refine ⟨by rw [hw1']; exact ((Below.refl _ _).alloc (Nat.le_refl _) _).alloc (by simp) _, Nat.le_refl _, by rw [hw1']; simp, ⟨#[], 0, ?_, .nil⟩, ?_⟩
    · rw [hw1']
      exact (Lib.alloc_old _ _ _ (by simp)).trans (heap_alloc_new w _)
    · have := Lib.fresh_isBuilder 94 5 (w.alloc (.map #[] 0))
      rw [← hw1'] at this
      have e : (w.alloc (.map #[] 0)).heap.size = w.heap.size + 1 := by simp
      rw [e] at this
      exact this
  have HSt := Lib.hid hst
  have HW1 := Lib.hid hw1'
  have hmm := @run_makeMap Tryz.prog
  clear hr hn ht hw1' hst h1 h2
  go_enter Tryz.func24, Tryz.ntmps24
  go_upto_region 7 with fail
  clear hmm
  rw [← HW1.out]
  clear HW1
  obtain ⟨M, hM⟩ : ∃ M, M = w.heap.size := ⟨_, rfl⟩
  rw [← hM] at HSt ⊢
  have HM := Lib.hid hM
  clear hM
  go_wp2_with fail
  go_loopw [26] (fun s26 wr => ∃ (i : Nat) (acc : List UInt8), s26 = .int .i64 i ∧ i ≤ n ∧ Hid (acc.length ≤ i * 17158) ∧ Hid (PnSt w M (L.take i) acc wr) ∧ Hid (Pr.print L width = Pr.ahd acc (Pr.printF width (L.drop i) (L.take i)))) (fun s26 _ => n - (intOf s26).toNat)
  case atStart =>
    refine ⟨0, [], rfl, Nat.zero_le _, Nat.zero_le _, HSt, ?_⟩
    show _ = _
    rw [HP.out]
    show Pr.printF width L [] = Pr.ahd [] (Pr.printF width L [])
    cases Pr.printF width L [] <;> rfl
  case round =>
    clear HSt HP
    obtain ⟨wo, rfl⟩ : ∃ wo : World, wo = wr := ⟨wr, rfl⟩
    obtain ⟨i, acc, rfl, hin, HAc, HSt, HPr⟩ := hrel
    by_cases hlt : i < n
    · have hiL : i < L.length := by rw [← HN.out]; exact hlt
      have hbo := HSt.out.bel
      obtain ⟨b, off, x, rfl, hb, _, x0, x1, x2, x3, hx⟩ := (HRw.out.below hbo).get i hiL
      obtain ⟨r, hr⟩ : ∃ r, L[i] = r := ⟨_, rfl⟩
      have hstep := Pr.printF_step (width := width) hiL
      rw [hr] at hx hstep
      have hrp : r.p < 100 ∨ Tab10 w := HT.out.imp (fun h => by rw [← hr]; exact h _ (List.getElem_mem hiL)) id
      have htk : L.take (i + 1) = L.take i ++ [r] := by rw [List.take_succ_eq_append_getElem hiL, hr]
      obtain ⟨w2, hw2'⟩ : ∃ w2, w2 = wo.alloc (.cells #[.int .i64 x.p, .string x.m, .int .i64 x.k, .slice x.a x.n x.c] 47) := ⟨_, rfl⟩
      have hb2 : Below wo.heap.size wo w2 := by rw [hw2']; exact (Below.refl _ _).alloc (Nat.le_refl _) _
      have hh2 : w2.heap[wo.heap.size]? = some (.cells #[.int .i64 x.p, .string x.m, .int .i64 x.k, .slice x.a x.n x.c] 47 (0, 0)) := by rw [hw2']; exact heap_alloc_new _ _
      have hl2 : wo.heap.size < w2.heap.size := heapLt hh2
      have HX := Lib.hid hx
      have HS2 := Lib.hid (HSt.out.below hb2)
      have HX2 := Lib.hid (hx.below hb2)
      have HStep := Lib.hid (HPr.out.trans (congrArg (Pr.ahd acc) hstep))
      have HTk := Lib.hid htk
      have HRp := Lib.hid hrp
      have e0 : w2.cell? ⟨wo.heap.size, 0, none⟩ = some (.int .i64 x.p) := by simp [World.cell?, hh2]
      have e1 : w2.cell? ⟨wo.heap.size, 1, none⟩ = some (.string x.m) := by simp [World.cell?, hh2]
      have e2 : w2.cell? ⟨wo.heap.size, 2, none⟩ = some (.int .i64 x.k) := by simp [World.cell?, hh2]
      have e3 : w2.cell? ⟨wo.heap.size, 3, none⟩ = some (.slice x.a x.n x.c) := by simp [World.cell?, hh2]
      obtain ⟨q, hq⟩ : ∃ q, Rp.checkR r width = q := ⟨_, rfl⟩
      have HQ := Lib.hid hq
      have HCk := Lib.hid (check_any _ x r width w2 (hx.below hb2) q hq)
      have HC : Hid (∀ W, Below w2.heap.size w2 W → W.cell? ⟨wo.heap.size, 0, none⟩ = some (.int .i64 x.p) ∧ W.cell? ⟨wo.heap.size, 1, none⟩ = some (.string x.m) ∧ W.cell? ⟨wo.heap.size, 2, none⟩ = some (.int .i64 x.k) ∧ W.cell? ⟨wo.heap.size, 3, none⟩ = some (.slice x.a x.n x.c)) := fun W hW =>
        ⟨(hW.cell (p := ⟨wo.heap.size, 0, none⟩) hl2).trans e0, (hW.cell (p := ⟨wo.heap.size, 1, none⟩) hl2).trans e1, (hW.cell (p := ⟨wo.heap.size, 2, none⟩) hl2).trans e2, (hW.cell (p := ⟨wo.heap.size, 3, none⟩) hl2).trans e3⟩
      have HW2 := Lib.hid hw2'
      clear hx hr hstep hrp htk hw2' hb2 hh2 hq hbo HPr
      go_upto_region 10 with fail
      rw [← HW2.out]
      clear HW2 x0 x1 x2 x3
      go_wp2_with fail
      refine HCk.out.mono ?_
      rintro e w3 ⟨rfl, hb3⟩
      obtain ⟨f0, f1, f2, f3⟩ := HC.out w3 hb3
      have HS3 := Lib.hid (HS2.out.below hb3)
      have HX3 := Lib.hid (HX2.out.below hb3)
      have HB3 := Lib.hid hb3
      clear hb3 HCk e0 e1 e2 e3 HS2
      by_cases hq0 : q = 0
      case neg =>
        have hqz : (q != 0) = true := by simpa using hq0
        have hE : Pr.print L width = .error (q, i) := by
          have h := HStep.out
          rw [HQ.out, if_pos hq0, Pr.ahd_err] at h
          exact h
        have HE := Lib.hid hE
        clear hE hq0
        go_wp2_with fail
        go_ret3
        exact printPost_err HE.out HS3.out.bel
      case pos =>
        subst hq0
        have hst2 := HStep.out
        rw [HQ.out, if_neg (by simp)] at hst2
        have HStq := Lib.hid hst2
        obtain ⟨kn, hkn⟩ : ∃ kn, knownB (L.take i) r.p r.m = kn := ⟨_, rfl⟩
        have HKn := Lib.hid hkn
        have HKy : Hid (∀ W, Calls Tryz.prog 39 #[.agg #[.int .i64 x.p, .string x.m, .int .i64 x.k, .slice x.a x.n x.c]] W fun e w' => e = .returned (.agg #[.int .i64 x.p, .string x.m]) ∧ Below W.heap.size W w') := fun W => keyOf_any x W
        clear hst2 hkn HStep
        go_upto_region 13 with fail
        go_wp2_with fail
        refine (HKy.out _).mono ?_
        rintro e w4 ⟨rfl, hb4⟩
        have HS4 := Lib.hid (HS3.out.below hb4)
        have hlk := lookup_map HS4.out.mp x.p x.m kn (by rw [HX3.out.p, HX3.out.m]; exact HKn.out)
        have HX4 := Lib.hid (HX3.out.below hb4)
        have HB4 := Lib.hid (HB3.out.trans (hb4.mono HB3.out.size))
        obtain ⟨f0, f1, f2, f3⟩ := HC.out w4 HB4.out
        clear hb4
        cases kn with
        | true =>
          rw [if_pos rfl] at hlk
          have hE : Pr.print L width = .error (52, i) := by
            have h := HStq.out
            rw [HKn.out, if_pos rfl, Pr.ahd_err] at h
            exact h
          have HE := Lib.hid hE
          clear hE
          go_wp2_with fail
          go_ret3
          exact printPost_err HE.out HS4.out.bel
        | false =>
          rw [if_neg (by decide)] at hlk
          have hst3 := HStq.out
          rw [HKn.out, if_neg (by decide), Pr.ahd_more] at hst3
          have HStz := Lib.hid hst3
          clear hst3 HStq
          go_upto_region 15 with fail
          clear hlk
          go_wp2_with fail
          refine (HKy.out _).mono ?_
          rintro e w5 ⟨rfl, hb5⟩
          obtain ⟨w6, hup, hM6, hb6⟩ := update_map (HS4.out.below hb5).mp r HKn.out
          rw [← HX4.out.p, ← HX4.out.m] at hup
          have hS6 := (HS4.out.below hb5).mapped hb6 (show MapSt w6 M (L.take (i + 1)) by rw [HTk.out]; exact hM6)
          obtain ⟨f0, f1, f2, f3⟩ := HC.out w5 (HB4.out.trans (hb5.mono HB4.out.size))
          have hwoM : ¬ wo.heap.size = M := by have := HSt.out.sz; omega
          have hl5 : wo.heap.size < w5.heap.size := cellLt f0
          have g0 := (hb6.cell (p := ⟨wo.heap.size, 0, none⟩) hl5 hwoM).trans f0
          have g1 := (hb6.cell (p := ⟨wo.heap.size, 1, none⟩) hl5 hwoM).trans f1
          have g2 := (hb6.cell (p := ⟨wo.heap.size, 2, none⟩) hl5 hwoM).trans f2
          have g3 := (hb6.cell (p := ⟨wo.heap.size, 3, none⟩) hl5 hwoM).trans f3
          have hx6 := (HX4.out.below hb5).but hb6 (fun b hb e => by have := hb.2; have := HM.out; omega)
          have hq6 : Rp.checkR r (r.m.size : Int) = 0 := by
            have := (Pr.check_ok HQ.out).2.2.2.2.2.1
            rw [this]
            exact HQ.out
          have HL := Lib.hid (line_any hx6 hq6 (HRp.out.imp id fun h => tab10_below h hS6.bel))
          have hll := Pr.line_len HQ.out
          obtain ⟨t, ht⟩ : ∃ t, Pr.lineT r = t := ⟨_, rfl⟩
          rw [ht] at HL hll HStz
          have hac := HAc.out
          have hi17 : i * 17158 ≤ 4096 * 17158 := Nat.mul_le_mul_right _ (by omega)
          have HS6 := Lib.hid hS6
          clear hS6 hM6 hb6 hb5 hx6 hq6 ht f0 f1 f2 f3 HX4 HS4 HS3 HX3 HX2 HX HKn
          go_wp2_with fail
          refine HL.out.mono ?_
          rintro e w7 ⟨rfl, hb7⟩
          have hS7 := HS6.out.below hb7
          have HWs := Lib.hid (bString_any (M + 1) (M + 1) (Lib.byteCells acc) (Wd.mkB t) w7 hS7.bd (by rw [Wd.mkB_size, Lib.byteCells_length]; omega) (by have := hS7.sz; omega))
          have HS7 := Lib.hid hS7
          clear hb7 hS7 HL HS6 g0 g1 g2 g3
          go_wp2_with fail
          refine HWs.out.mono ?_
          rintro e w8 ⟨rfl, hd8, hb8⟩
          rw [cells_mkB] at hd8
          have hS8 := HS7.out.built hb8 (.inr hd8)
          have HWb := Lib.hid (bByte_any (M + 1) (M + 1) (Lib.byteCells (acc ++ t)) 10 w8 hS8.bd (by rw [Lib.byteCells_length, List.length_append]; omega) (by have := hS8.sz; omega))
          have HS8 := Lib.hid hS8
          clear hd8 hb8 hS8 HWs HS7
          go_wp2_with fail
          refine HWb.out.mono ?_
          rintro e w9 ⟨rfl, hd9, hb9⟩
          rw [cells_ten] at hd9
          have HS9 := Lib.hid (HS8.out.built hb9 (.inr hd9))
          clear hd9 hb9 HWb HS8
          go_wp2_with fail
          go_roundw
          case rel => exact ⟨i + 1, acc ++ t ++ [10], by first | rfl | go_num, by omega, (by show _ ≤ _; rw [List.length_append, List.length_append, List.length_singleton]; omega), HS9, HStz⟩
          case measure => simp [intOf]; omega
    · have hie : i = L.length := by rw [← HN.out]; omega
      have hE : Pr.print L width = .ok acc := by
        rw [HPr.out, hie, List.drop_length]
        show Pr.ahd acc (.ok []) = _
        simp [Pr.ahd, Except.map]
      have HE := Lib.hid hE
      have HStr := Lib.hid (Tryz.Builder_String_any (M + 1) (M + 1) acc wo HSt.out.bd (by have := HSt.out.sz; omega))
      clear hie hE HPr
      go_wp2_with fail
      refine HStr.out.mono ?_
      rintro e w2 ⟨rfl, hb2⟩
      have hb := HSt.out.bel.trans (hb2.mono (by have := HSt.out.lo; omega))
      have HB := Lib.hid hb
      clear hb hb2
      go_wp2_with fail
      go_ret3
      exact printPost_ok HE.out HB.out
theorem print_any {ok : Nat → Prop} {v : Value} {L : List Rl} {w : World} (hr : RdsR ok w v L) (width : Int) (ht : (∀ r ∈ L, r.p < 100) ∨ Tab10 w) : Calls Tryz.prog 24 #[v, .int .i64 width] w (PrintPost L width w) := by
  by_cases h : width < 1 ∨ 128 < width ∨ 4096 < L.length
  · exact print_bad hr width h
  · exact print_go hr width (by omega) (by omega) (by omega) ht
theorem RdsR.take {ok : Nat → Prop} {w : World} {ad : Option Addr} {n cap : Nat} {L : List Rl} (h : RdsR ok w (.slice ad n cap) L) (i : Nat) (hi : i ≤ n) : RdsR ok w (.slice ad i cap) (L.take i) := by
  obtain ⟨xs, ad', n', cap', e, hn, hx, ⟨hc, hnil⟩, hm, hok, hcell, hrd⟩ := h
  injection e with e1 e2 e3
  subst e1 e2 e3
  refine ⟨xs.take i, ad, i, cap, rfl, by rw [List.length_take]; omega, by rw [List.length_take]; omega, ⟨by omega, hnil⟩, hm, fun a k c hv hk => ?_, fun j hj => ?_, fun j hj hj' => ?_⟩
  · injection hv with h1 h2 _
    exact hok a n cap (by rw [h1]) (by omega)
  · have hj2 : j < xs.length := by rw [List.length_take] at hj; omega
    rw [List.getElem_take]
    exact hcell j hj2
  · have hj2 : j < xs.length := by rw [List.length_take] at hj; omega
    have hj3 : j < L.length := by rw [List.length_take] at hj'; omega
    rw [List.getElem_take, List.getElem_take]
    exact hrd j hj2 hj3
set_option maxHeartbeats 1600000 in
set_option maxRecDepth 20000 in
theorem rprint_bad {ok : Nat → Prop} {v : Value} {L : List Rl} {w : World} (hr : RdsR ok w v L) (width : Int) (hw : width < 1 ∨ 128 < width ∨ 4096 < L.length) : Calls Tryz.prog 25 #[v, .int .i64 width] w (PrintPost L width w) := by
  obtain ⟨ad, cap, rfl, hcap, hmax⟩ := hr.form
  obtain ⟨n, hn⟩ : ∃ n, n = L.length := ⟨_, rfl⟩
  rw [← hn] at hw ⊢
  clear hcap hmax hr
  have hcs : (width < 1 ∧ Pr.print L width = .error (1, 0)) ∨ (decide (width < 1) = false ∧ 128 < width ∧ Pr.print L width = .error (1, 0)) ∨ (decide (width < 1) = false ∧ decide (128 < width) = false ∧ (4096 : Int) < (n : Int) ∧ Pr.print L width = .error (3, 0)) := by
    unfold Pr.print
    rw [← hn]
    by_cases h1 : width < 1
    · exact .inl ⟨h1, by rw [if_pos (.inl h1)]⟩
    · by_cases h2 : 128 < width
      · exact .inr (.inl ⟨by simpa using h1, h2, by rw [if_pos (.inr h2)]⟩)
      · have h3 : 4096 < n := by omega
        exact .inr (.inr ⟨by simpa using h1, by simpa using h2, by omega, by rw [if_neg (by omega), if_pos h3]⟩)
  clear hw hn
  rcases hcs with ⟨h1, hp⟩ | ⟨h1, h2, hp⟩ | ⟨h1, h2, h3, hp⟩
  all_goals
    have HP := Lib.hid hp
    clear hp
    go_enter Tryz.func25, Tryz.ntmps25
    go_wp2_with fail
    go_ret3
    exact printPost_err HP.out (Below.refl _ _)
theorem cells_line (a t : List UInt8) : bytesV a ++ Lib.strCells (Wd.mkB t ++ ⟨#[10]⟩) = bytesV (a ++ t ++ [10]) := by
  rw [strCells_eq]
  have e : (Wd.mkB t ++ (⟨#[10]⟩ : ByteArray)).data.toList = t ++ [10] := by
    rw [ByteArray.data_append, Array.toList_append]
    rfl
  rw [e]
  unfold bytesV
  rw [List.append_assoc, List.map_append (l₁ := a)]
set_option maxHeartbeats 6400000 in
set_option maxRecDepth 20000 in
theorem rprint_go {ok : Nat → Prop} {v : Value} {L : List Rl} {w : World} (hr : RdsR ok w v L) (width : Int) (h1 : 1 ≤ width) (h2 : width ≤ 128) (h3 : L.length ≤ 4096) (ht : (∀ r ∈ L, r.p < 100) ∨ Tab10 w) : Calls Tryz.prog 25 #[v, .int .i64 width] w (PrintPost L width w) := by
  obtain ⟨ad, cap, rfl, hcap, hmax⟩ := hr.form
  obtain ⟨n, hn⟩ : ∃ n, n = L.length := ⟨_, rfl⟩
  rw [← hn] at hr hcap h3 ⊢
  have HN := Lib.hid hn
  have HP : Hid (Pr.print L width = Pr.printF width L []) := by
    show _ = _
    unfold Pr.print
    rw [if_neg (by omega), if_neg (by omega)]
  have HRw := Lib.hid hr
  have HT := Lib.hid ht
  have hw1 : decide (width < 1) = false := by simp; omega
  have hw2 : decide (128 < width) = false := by simp; omega
  have hn1 : decide ((4096 : Int) < (n : Int)) = false := by simp; omega
  obtain ⟨i0, hii, hz0, hz1, hz2⟩ := info_parts infoB
  unfold maxLen at hmax
  clear hr hn ht h1 h2
  go_enter Tryz.func25, Tryz.ntmps25
  go_wp2_with fail
  go_loopw [7, 8] (fun s7 s8 wr => ∃ (i m : Nat) (ad7 : Option Addr) (c7 : Nat) (acc : List UInt8), s8 = .int .i64 i ∧ s7 = .slice ad7 m c7 ∧ i ≤ n ∧ Hid (m = acc.length) ∧ m ≤ i * 17158 ∧ Hid (wr.ownsRow w.heap.size 5 1 (.slice ad7 m c7) m (bytesV acc)) ∧ Hid (Below w.heap.size w wr) ∧ Hid (Pr.print L width = Pr.ahd acc (Pr.printF width (L.drop i) (L.take i)))) (fun _ s8 _ => n - (intOf s8).toNat)
  case atStart =>
    refine ⟨0, 0, none, 0, [], rfl, rfl, Nat.zero_le _, (rfl : (0 : Nat) = ([] : List UInt8).length), Nat.zero_le _, World.ownsRow_nil _ _ _ _, Below.refl _ _, ?_⟩
    show _ = _
    rw [HP.out]
    show Pr.printF width L [] = Pr.ahd [] (Pr.printF width L [])
    cases Pr.printF width L [] <;> rfl
  case round =>
    clear HP
    obtain ⟨wo, rfl⟩ : ∃ wo : World, wo = wr := ⟨wr, rfl⟩
    obtain ⟨i, m, ad7, c7, acc, rfl, rfl, hin, HAc, hm, HO, HB, HPr⟩ := hrel
    have hi4 : m ≤ 4096 * 17158 := Nat.le_trans hm (Nat.mul_le_mul_right _ (by omega))
    by_cases hlt : i < n
    · have hiL : i < L.length := by rw [← HN.out]; exact hlt
      obtain ⟨b, off, x, rfl, hb, _, x0, x1, x2, x3, hx⟩ := (HRw.out.below HB.out).get i hiL
      obtain ⟨r, hr⟩ : ∃ r, L[i] = r := ⟨_, rfl⟩
      have hstep := Pr.printF_step (width := width) hiL
      rw [hr] at hx hstep
      have hrp : r.p < 100 ∨ Tab10 w := HT.out.imp (fun h => by rw [← hr]; exact h _ (List.getElem_mem hiL)) id
      have HX := Lib.hid hx
      have HStep := Lib.hid (HPr.out.trans (congrArg (Pr.ahd acc) hstep))
      have HRp := Lib.hid hrp
      obtain ⟨q, hq⟩ : ∃ q, Rp.checkR r width = q := ⟨_, rfl⟩
      have HQ := Lib.hid hq
      have HCk := Lib.hid (rCheck_any _ x r width wo hx q hq)
      have HC : Hid (∀ W, Below wo.heap.size wo W → W.cell? ⟨b, off + i * 4, none⟩ = some (.int .i64 x.p) ∧ W.cell? ⟨b, off + i * 4 + 1, none⟩ = some (.string x.m) ∧ W.cell? ⟨b, off + i * 4 + 2, none⟩ = some (.int .i64 x.k) ∧ W.cell? ⟨b, off + i * 4 + 3, none⟩ = some (.slice x.a x.n x.c)) := fun W hW =>
        ⟨(hW.cell (p := ⟨b, off + i * 4, none⟩) hb).trans x0, (hW.cell (p := ⟨b, off + i * 4 + 1, none⟩) hb).trans x1, (hW.cell (p := ⟨b, off + i * 4 + 2, none⟩) hb).trans x2, (hW.cell (p := ⟨b, off + i * 4 + 3, none⟩) hb).trans x3⟩
      clear hx hr hstep hrp hq HPr
      go_wp2_with fail
      refine HCk.out.mono ?_
      rintro e w3 ⟨rfl, hb3⟩
      obtain ⟨f0, f1, f2, f3⟩ := HC.out w3 hb3
      have HB3 := Lib.hid hb3
      have HBw3 := Lib.hid (HB.out.trans (hb3.mono HB.out.size))
      clear hb3 HCk x0 x1 x2 x3
      by_cases hq0 : q = 0
      case neg =>
        have hqz : (q != 0) = true := by simpa using hq0
        have hE : Pr.print L width = .error (q, i) := by
          have h := HStep.out
          rw [HQ.out, if_pos hq0, Pr.ahd_err] at h
          exact h
        have HE := Lib.hid hE
        clear hE hq0
        go_wp2_with fail
        go_ret3
        exact printPost_err HE.out HBw3.out
      case pos =>
        subst hq0
        have hst2 := HStep.out
        rw [HQ.out, if_neg (by simp)] at hst2
        have HStq := Lib.hid hst2
        obtain ⟨kn, hkn⟩ : ∃ kn, knownB (L.take i) r.p r.m = kn := ⟨_, rfl⟩
        have HKn := Lib.hid hkn
        have HKy : Hid (∀ W, Below wo.heap.size wo W → Calls Tryz.prog 45 #[.slice (some ⟨b, off, none⟩) i cap, .agg #[.int .i64 x.p, .string x.m, .int .i64 x.k, .slice x.a x.n x.c]] W fun e w' => e = .returned (.bool kn) ∧ Below W.heap.size W w') := fun W hW => by
          have h := rknown_any (((HRw.out.below HB.out).below hW).take i (by omega)) x
          rw [HX.out.p, HX.out.m, HKn.out] at h
          rw [HX.out.p, HX.out.m]
          exact h
        have hii0 : (0 : Int) ≤ (i : Int) := by omega
        have hicap : (i : Int) ≤ (cap : Int) := by omega
        have hltz : (i : Int) < (n : Int) := by omega
        clear hst2 hkn HStep
        go_upto_region 12 with fail
        have hS0 : (fun W : World => W.cell? ⟨b, off + i * 4, none⟩ = some (.int .i64 x.p) ∧ W.cell? ⟨b, off + i * 4 + 1, none⟩ = some (.string x.m) ∧ W.cell? ⟨b, off + i * 4 + 2, none⟩ = some (.int .i64 x.k) ∧ W.cell? ⟨b, off + i * 4 + 3, none⟩ = some (.slice x.a x.n x.c)) w3.drew := ⟨f0, f1, f2, f3⟩
        refine wp_region_heldG (fun W : World => W.cell? ⟨b, off + i * 4, none⟩ = some (.int .i64 x.p) ∧ W.cell? ⟨b, off + i * 4 + 1, none⟩ = some (.string x.m) ∧ W.cell? ⟨b, off + i * 4 + 2, none⟩ = some (.int .i64 x.k) ∧ W.cell? ⟨b, off + i * 4 + 3, none⟩ = some (.slice x.a x.n x.c)) 99 (by kernel_rfl) ?_
        refine wpAnyG_takeP 0 (v := ?v0) rfl (by kernel_rfl) (fun _ _ _ h => h) (by rfl) ?h0 hS0 ?_
        case h0 => (intro wl; go_simp; try with_reducible rfl)
        try simp only [Act.put, List.setIfInBounds_toArray, List.set_cons_zero, List.set_cons_succ]
        refine wpAnyG_takeP 1 (v := ?v1) rfl (by kernel_rfl) (fun _ _ _ h => h) (by rfl) ?h1 hS0 ?_
        case h1 => (intro wl; go_simp; try with_reducible rfl)
        try simp only [Act.put, List.setIfInBounds_toArray, List.set_cons_zero, List.set_cons_succ]
        refine wpAnyG_takeP 2 (v := ?v2) rfl (by kernel_rfl) (fun _ _ _ h => h) (by rfl) ?h2 hS0 ?_
        case h2 => (intro wl; go_simp; try with_reducible rfl)
        try simp only [Act.put, List.setIfInBounds_toArray, List.set_cons_zero, List.set_cons_succ]
        refine wpAnyG_takeP 3 (v := ?v3) rfl (by kernel_rfl) (fun _ _ _ h => h) (by rfl) ?h3 hS0 ?_
        case h3 => (intro wl; go_simp; try with_reducible rfl)
        try simp only [Act.put, List.setIfInBounds_toArray, List.set_cons_zero, List.set_cons_succ]
        refine wpAnyG_takeP 4 (v := ?v4) rfl (by kernel_rfl) (fun _ _ _ h => h) (by rfl) ?h4 hS0 ?_
        case h4 => (intro wl; go_simp; try with_reducible rfl)
        try simp only [Act.put, List.setIfInBounds_toArray, List.set_cons_zero, List.set_cons_succ]
        refine wpAnyG_takeP 5 (v := ?v5) rfl (by kernel_rfl) (fun _ _ _ h => h) (by rfl) ?h5 hS0 ?_
        case h5 => (intro wl; go_simp; try with_reducible rfl)
        try simp only [Act.put, List.setIfInBounds_toArray, List.set_cons_zero, List.set_cons_succ]
        refine wpAnyG_takeA 6 (v := ?v6) rfl (by kernel_rfl) (fun _ _ _ h => h) (by rfl) ?h6 hS0 ?_
        case h6 => (intro wl hl; obtain ⟨l0, l1, l2, l3⟩ := hl; go_simp; try with_reducible rfl)
        try simp only [Act.put, List.setIfInBounds_toArray, List.set_cons_zero, List.set_cons_succ]
        refine wpAnyG_one 7 rfl (by kernel_rfl) (fun K hK => ?_)
        go_simp
        refine (HKy.out _ HB3.out.drew).mono ?_
        rintro e w4 ⟨rfl, hb4⟩
        have hb34 : Below w3.heap.size w3 w4 := ((Below.refl _ _).drew).trans hb4
        have hb04 := HB3.out.trans (hb34.mono HB3.out.size)
        have hS1 := HC.out w4 hb04
        refine hK _ _ (fun _ => hS1) ?_
        clear hK K hS0
        try simp only [Act.put, List.setIfInBounds_toArray, List.set_cons_zero, List.set_cons_succ]
        refine wpAnyG_done (by kernel_rfl) ?_ _
        have HB4 := Lib.hid hb04
        have HBw4 := Lib.hid (HB.out.trans (hb04.mono HB.out.size))
        obtain ⟨g0, g1, g2, g3⟩ := hS1
        clear hb4 hb34 hb04 f0 f1 f2 f3
        cases kn with
        | true =>
          have hE : Pr.print L width = .error (52, i) := by
            have h := HStq.out
            rw [HKn.out, if_pos rfl, Pr.ahd_err] at h
            exact h
          have HE := Lib.hid hE
          clear hE
          go_wp2_with fail
          go_ret3
          exact printPost_err HE.out HBw4.out
        | false =>
          have hst3 := HStq.out
          rw [HKn.out, if_neg (by decide), Pr.ahd_more] at hst3
          have hq6 : Rp.checkR r (r.m.size : Int) = 0 := by
            have := (Pr.check_ok HQ.out).2.2.2.2.2.1
            rw [this]
            exact HQ.out
          have HL := Lib.hid (rline5_any (HX.out.below HB4.out) hq6 (HRp.out.imp id fun h => tab10_below h HBw4.out))
          have hll := Pr.line_len HQ.out
          obtain ⟨t, ht⟩ : ∃ t, Pr.lineT r = t := ⟨_, rfl⟩
          rw [ht] at HL hll hst3
          have HStz := Lib.hid hst3
          clear hst3 HStq hq6 ht
          go_wp2_with fail
          refine HL.out.mono ?_
          rintro e w7 ⟨rfl, hb7⟩
          have hB7 := HBw4.out.trans (hb7.mono HBw4.out.size)
          have hO7 := ownsRow_below HO.out ((HB4.out).trans (hb7.mono HB4.out.size))
          have hs10 : (Wd.mkB t ++ (⟨#[10]⟩ : ByteArray)).size = t.length + 1 := by rw [ByteArray.size_append, Wd.mkB_size]; rfl
          have hmx : ¬ (9223372036854775807 < (Wd.mkB t).size + 1) := by rw [Wd.mkB_size]; omega
          have hw7s := hB7.size
          have HB7 := Lib.hid hB7
          have HO7 := Lib.hid hO7
          have HL7 := Lib.hid hll
          clear hb7 hB7 hO7 HL g0 g1 g2 g3
          go_wp2_with (at_builtin; refine Lib.wpList_append_own_string _ rfl (.tmp 54) (.tmp 56) 92 9 rfl w.heap.size 5 i0 Tryz.underlying92 Tryz.underlying9 hii hz0 hz1 hz2 (.slice ad7 m c7) m (bytesV acc) (by rfl) HO7.out (Wd.mkB t ++ ⟨#[10]⟩) (by rfl) (by rw [hs10]; unfold maxLen; omega) (by rw [hs10]; omega) hw7s ?_; intro v' w8 ho8 hg8 _; rw [cells_line, hs10] at ho8; obtain ⟨ad8, c8, rfl⟩ := ownsRow_form ho8; have HO8 := Lib.hid ho8; have HB8 := Lib.hid (grown_bel HB7.out (Nat.le_refl _) HO7.out hg8); clear ho8 hg8)
          go_roundw
          case rel => exact ⟨i + 1, m + (t.length + 1), ad8, c8, acc ++ t ++ [10], by first | rfl | go_num, rfl, by omega, (by have := HAc.out; show _ = _; rw [List.length_append, List.length_append, List.length_singleton]; omega), by omega, HO8, HB8, HStz⟩
          case measure => simp [intOf]; omega
    · have hie : i = L.length := by rw [← HN.out]; omega
      have hE : Pr.print L width = .ok acc := by
        rw [HPr.out, hie, List.drop_length]
        show Pr.ahd acc (.ok []) = _
        simp [Pr.ahd, Except.map]
      have HE := Lib.hid hE
      have hcv := conv_own HO.out HAc.out
      clear hie hE HPr
      go_wp2_with fail
      go_ret3
      exact printPost_ok HE.out HB.out
theorem rprint_any {ok : Nat → Prop} {v : Value} {L : List Rl} {w : World} (hr : RdsR ok w v L) (width : Int) (ht : (∀ r ∈ L, r.p < 100) ∨ Tab10 w) : Calls Tryz.prog 25 #[v, .int .i64 width] w (PrintPost L width w) := by
  by_cases h : width < 1 ∨ 128 < width ∨ 4096 < L.length
  · exact rprint_bad hr width h
  · exact rprint_go hr width (by omega) (by omega) (by omega) ht
end Go.Proofs.YtlamhpiiikcpiaaGreatDoor
/-
  What is printed is parsed as the same rules: plain laws; no program here.
-/
namespace Go.Proofs.YtlamhpiiikcpiaaGreatDoor
open Go.Lib
set_option linter.unusedVariables false
set_option linter.unusedSectionVars false
set_option linter.unusedSimpArgs false
namespace Wd
theorem jn_no10 : ∀ (l : List (List UInt8)), (∀ a ∈ l, (10 : UInt8) ∉ a) → (10 : UInt8) ∉ jn l
  | [], _ => by simp [jn]
  | [a], h => by simp only [jn]; exact h a (by simp)
  | a :: b :: r, h => by
    have h1 := h a (by simp)
    have h2 := jn_no10 (b :: r) (fun x hx => h x (by simp only [List.mem_cons] at hx ⊢; exact .inr hx))
    simp only [jn, List.mem_append, not_or]
    refine ⟨h1, ?_, h2⟩
    split <;> simp
theorem numF_snoc : ∀ (l : List UInt8) (a v : Nat) (c : UInt8), numF a l = some v → Rp.isDigit c = true → numF a (l ++ [c]) = some (v * 10 + (c.toNat - 48))
  | [], a, v, c, h, hc => by
    simp only [numF] at h
    injection h with h
    subst h
    simp [numF, hc]
  | d :: l, a, v, c, h, hc => by
    simp only [numF, List.cons_append] at h ⊢
    split at h
    · rename_i hd
      rw [if_pos hd]
      exact numF_snoc l _ v c h hc
    · cases h
theorem numF_digits (n : Nat) : numF 0 (Lib.decDigits n) = some n := by
  induction n using Nat.strongRecOn with
  | ind n ih =>
    rw [Lib.decDigits]
    split
    · rename_i h
      have hd := Pr.dg_digit n h
      have ht : (UInt8.ofNat (48 + n)).toNat = 48 + n := by
        have : ∀ i : Fin 10, (UInt8.ofNat (48 + i.val)).toNat = 48 + i.val := by decide
        exact this ⟨n, h⟩
      simp only [numF, hd, if_true, ht]
      congr 1
      omega
    · rename_i h
      have hm : n % 10 < 10 := Nat.mod_lt _ (by omega)
      have ht : (UInt8.ofNat (48 + n % 10)).toNat = 48 + n % 10 := by
        have : ∀ i : Fin 10, (UInt8.ofNat (48 + i.val)).toNat = 48 + i.val := by decide
        exact this ⟨n % 10, hm⟩
      rw [numF_snoc _ 0 (n / 10) _ (ih _ (by omega)) (Pr.dg_digit _ hm), ht]
      congr 1
      omega
theorem digits_head (n : Nat) (h : 1 ≤ n) : (Lib.decDigits n).headD 0 ≠ 48 := by
  induction n using Nat.strongRecOn with
  | ind n ih =>
    rw [Lib.decDigits]
    split
    · rename_i h9
      have : ∀ i : Fin 10, 1 ≤ i.val → UInt8.ofNat (48 + i.val) ≠ 48 := by decide
      exact this ⟨n, h9⟩ h
    · have h1 := ih (n / 10) (by omega) (by omega)
      have h2 := Pr.digits_ne (n / 10)
      cases hd : Lib.decDigits (n / 10) with
      | nil => exact absurd hd h2
      | cons a l => rw [hd] at h1; exact h1
theorem numE_digits (n : Nat) (h : n ≤ 2147483647) : numE (Lib.decDigits n) = (n, 0) := by
  have hl := Lib.decDigits_length n
  have h1 := Lib.nDigits_pos n
  have h2 : Lib.nDigits n ≤ 10 := nDigits_le (k := 9) (by omega)
  unfold numE
  rw [if_neg ?_, numF_digits]
  · simp only
    rw [if_neg (by omega)]
  · rw [hl]
    rintro (h3 | h3 | ⟨h3, h4⟩)
    · omega
    · omega
    · by_cases hn : 1 ≤ n
      · exact digits_head n hn h3
      · have : n = 0 := by omega
        subst this
        rw [Lib.nDigits_small (by omega)] at h4
        omega
end Wd
namespace Pr
theorem wd_t {ws : List Wrd} {l : List ByteArray} (h : ws.map Wrd.t = l) (i : Nat) : (wd ws i).t = l.getD i ⟨#[]⟩ := by
  subst h
  unfold wd
  split
  · rename_i hi
    rw [List.getD_eq_getElem?_getD, List.getElem?_map, List.getElem?_eq_getElem hi]
    rfl
  · rename_i hi
    rw [List.getD_eq_getElem?_getD, List.getElem?_map, List.getElem?_eq_none (by omega)]
    rfl
theorem ports_back {ws : List Wrd} : ∀ (rest : List ByteArray) (p : ByteArray) (i : Nat), (∀ k, (wd ws (i + k)).t = (p :: mks (⟨#[44]⟩ : ByteArray) rest ++ [(⟨#[41]⟩ : ByteArray)]).getD k ⟨#[]⟩) → Rp.nameB p.data.toList = true → (∀ x ∈ rest, Rp.nameB x.data.toList = true) →
    portsAt ws i = .ok ((p :: rest).map fun x => x.data.toList, i + 1 + 2 * rest.length)
  | [], p, i, h, hp, _ => by
    have h0 := h 0
    have h1 := h 1
    simp [mks] at h0 h1
    rw [ports_last (by rw [h0]; exact hp) (by rw [h1]; decide), h0]
    rfl
  | q :: rest, p, i, h, hp, hr => by
    have h0 := h 0
    have h1 := h 1
    simp [mks] at h0 h1
    have ih := ports_back rest q (i + 2) (fun k => by
      have h2 := h (k + 2)
      rw [show i + 2 + k = i + (k + 2) by omega, h2]
      simp [mks]) (hr q (by simp)) (fun x hx => hr x (by simp [hx]))
    rw [portsAt, dif_pos (by rw [h0]; exact hp), if_pos (by rw [h1]), ih]
    simp only [h0]
    congr 1
    simp
    omega
theorem rising {ps : List ByteArray} (h : Rp.portsB ps = true) : (ps.map fun x => x.data.toList).Pairwise (fun a b => a < b) := by
  unfold Rp.portsB at h
  simp only [Bool.and_eq_true] at h
  have hall := h.1.1
  have adj : ∀ i (hi : i + 1 < ps.length), ps[i].data.toList < ps[i + 1].data.toList := fun i hi => by
    have h1 := List.all_eq_true.1 hall (i + 1) (List.mem_range.2 hi)
    unfold Rp.okAt at h1
    rw [Bool.and_eq_true] at h1
    have e1 : ps.getD (i + 1) ⟨#[]⟩ = ps[i + 1] := by rw [List.getD_eq_getElem?_getD, List.getElem?_eq_getElem hi]; rfl
    have e2 : ps.getD (i + 1 - 1) ⟨#[]⟩ = ps[i] := by rw [List.getD_eq_getElem?_getD, Nat.add_sub_cancel, List.getElem?_eq_getElem (by omega)]; rfl
    rw [e1, e2] at h1
    have h2 := h1.2
    simp only [Bool.or_eq_true] at h2
    rcases h2 with h2 | h2
    · simp at h2
    · rw [Rp.lessB_eq, decide_eq_true_eq, Lib.toList_data, Lib.toList_data] at h2
      exact h2
  have key : ∀ d i (hi : i + d + 1 < ps.length), ps[i].data.toList < ps[i + d + 1].data.toList := fun d => by
    induction d with
    | zero => exact fun i hi => adj i hi
    | succ d ih => exact fun i hi => List.lt_trans (ih i (by omega)) (adj (i + d + 1) (by omega))
  refine List.pairwise_iff_getElem.2 fun i j hi hj hij => ?_
  rw [List.length_map] at hi hj
  rw [List.getElem_map, List.getElem_map]
  have := key (j - i - 1) i (by omega)
  have e : i + (j - i - 1) + 1 = j := by omega
  simp only [e] at this
  exact this
theorem foldl_put_rising {T : List (List UInt8)} (h : T.Pairwise (fun a b => a < b)) : T.foldl putL [] = T := by
  obtain ⟨h1, h2⟩ := foldl_put_spec T [] List.Pairwise.nil
  refine strict_eq (lt := fun a b : List UInt8 => a < b) (fun a => List.lt_irrefl a) (fun a b c => List.lt_trans) h1 h (fun x => ?_)
  rw [h2]
  simp
theorem idx_nameOf {k : Int} (h : k = 1 ∨ k = 2 ∨ k = 3 ∨ k = 4) : idx names (nameOf k) = k := by
  rcases h with rfl | rfl | rfl | rfl <;> kernel_rfl
theorem rule_back {r : Rl} {width : Int} (h : Rp.checkR r width = 0) {ws : List Wrd} (hw : ws.map Wrd.t = ruleL r) : rule ws width = .ok r := by
  obtain ⟨h1, h2, h3, h4, h5, h6, h7⟩ := check_ok h
  obtain ⟨hk, hp⟩ := action_names h7
  have hlen : ws.length = (ruleL r).length := by rw [← hw, List.length_map]
  have t0 := wd_t hw 0
  have t1 := wd_t hw 1
  have t2 := wd_t hw 2
  have t3 := wd_t hw 3
  have e0 : (ruleL r).getD 0 ⟨#[]⟩ = ⟨#[114, 117, 108, 101]⟩ := rfl
  have e1 : (ruleL r).getD 1 ⟨#[]⟩ = Wd.mkB (Lib.decDigits r.p.toNat) := rfl
  have e2 : (ruleL r).getD 2 ⟨#[]⟩ = r.m := rfl
  have e3 : (ruleL r).getD 3 ⟨#[]⟩ = nameOf r.k := rfl
  rw [e0] at t0
  rw [e1] at t1
  rw [e2] at t2
  rw [e3] at t3
  have hn : Wd.numE (wd ws 1).t.data.toList = (r.p.toNat, 0) := by
    rw [t1, Wd.mkB_list]
    exact Wd.numE_digits _ (by omega)
  have hact : act ws 3 = .ok (r.k, r.ps, ws.length) := by
    unfold act
    rw [t3, idx_nameOf hk]
    rw [if_neg (by omega)]
    by_cases hk3 : r.k < 3
    · have hps : r.ps = [] := by
        unfold Rp.actionB at h7
        rw [if_pos (by omega)] at h7
        exact List.eq_nil_of_length_eq_zero (by simpa using h7)
      rw [if_pos hk3, hlen]
      have hl : (ruleL r).length = 4 := by
        unfold ruleL
        rw [List.length_append, saidL_len, if_pos hps, hps]
        rfl
      rw [hl, hps]
    · rw [if_neg hk3]
      have h7' : Rp.portsB r.ps = true := by
        unfold Rp.actionB at h7
        rw [if_neg (by omega), if_pos (by omega)] at h7
        exact h7
      cases hps : r.ps with
      | nil =>
        rw [hps] at h7'
        exact absurd h7' (by decide)
      | cons p rest =>
        have er : ruleL r = [⟨#[114, 117, 108, 101]⟩, Wd.mkB (Lib.decDigits r.p.toNat), r.m, nameOf r.k, ⟨#[40]⟩] ++ (p :: mks ⟨#[44]⟩ rest ++ [⟨#[41]⟩]) := by
          unfold ruleL saidL
          rw [hps]
          simp [mks]
        have t4 : (wd ws 4).t = ⟨#[40]⟩ := by rw [wd_t hw 4, er]; rfl
        rw [if_neg (by rw [t4]; exact fun e => e rfl)]
        have hpb := ports_back (ws := ws) rest p 5 (fun k => by
          rw [wd_t hw (5 + k), er, List.getD_eq_getElem?_getD, List.getD_eq_getElem?_getD, List.getElem?_append_right (by simp)]
          have e : 5 + k - [(⟨#[114, 117, 108, 101]⟩ : ByteArray), Wd.mkB (Lib.decDigits r.p.toNat), r.m, nameOf r.k, ⟨#[40]⟩].length = k := by
            simp only [List.length_cons, List.length_nil]
            omega
          rw [e]) (hp p (by rw [hps]; simp)) (fun x hx => hp x (by rw [hps]; simp [hx]))
        rw [show 3 + 2 = 5 from rfl, hpb]
        have hl : (ruleL r).length = 5 + (2 + 2 * rest.length) := by
          rw [er, List.length_append]
          simp [mks_len]
          omega
        have tj : (wd ws (5 + 1 + 2 * rest.length)).t = ⟨#[41]⟩ := by
          rw [wd_t hw, er, List.getD_eq_getElem?_getD, List.getElem?_append_right (by simp; omega)]
          have e : 5 + 1 + 2 * rest.length - [(⟨#[114, 117, 108, 101]⟩ : ByteArray), Wd.mkB (Lib.decDigits r.p.toNat), r.m, nameOf r.k, ⟨#[40]⟩].length = (p :: mks ⟨#[44]⟩ rest).length := by
            simp [mks_len]
            omega
          rw [e, List.getElem?_append_right (Nat.le_refl _), Nat.sub_self]
          rfl
        have hris := rising h7'
        rw [hps] at hris
        have hl64 : rest.length + 1 ≤ 64 := by
          unfold Rp.portsB at h7'
          simp only [Bool.and_eq_true, decide_eq_true_eq] at h7'
          have := h7'.2
          rw [hps] at this
          simpa using this
        simp only
        rw [if_neg (by rw [tj]; exact fun e => e rfl), foldl_put_rising hris, if_neg (by simp; omega), hlen, hl]
        have em : ((p :: rest).map fun x => x.data.toList).map Wd.mkB = p :: rest := by
          rw [List.map_map]
          have : (Wd.mkB ∘ fun x : ByteArray => x.data.toList) = id := by funext x; exact Wd.mkB_of x
          rw [this, List.map_id]
        rw [em]
        congr 3
        omega
  unfold rule
  rw [if_neg (by rw [t0]; exact fun e => e rfl), hn, if_neg (by exact fun e => e rfl), t2, if_neg (by rw [h5]; simp), if_neg (by exact fun e => e h6), hact]
  simp only
  rw [if_neg (by omega)]
  have : ((r.p.toNat : Nat) : Int) = r.p := by omega
  rw [this]
theorem line_words {r : Rl} {width : Int} (h : Rp.checkR r width = 0) (num : Nat) : ∃ ws, Wd.line num (lineT r) 0 = .ok ws ∧ ws.map Wrd.t = ruleL r ∧ ws ≠ [] := by
  obtain ⟨ws, h1, h2⟩ := Wd.line_jn ((ruleL r).map fun x => x.data.toList) (fun a ha => by
    obtain ⟨x, hx, rfl⟩ := List.mem_map.1 ha
    exact rule_words h x hx) num 0
  have e : ((ruleL r).map fun x => x.data.toList).map Wd.mkB = ruleL r := by
    rw [List.map_map]
    have : (Wd.mkB ∘ fun x : ByteArray => x.data.toList) = id := by funext x; exact Wd.mkB_of x
    rw [this, List.map_id]
  rw [e] at h2
  refine ⟨ws, h1, h2, fun hn => ?_⟩
  rw [hn] at h2
  unfold ruleL at h2
  simp at h2
theorem line_no10 {r : Rl} {width : Int} (h : Rp.checkR r width = 0) : (10 : UInt8) ∉ lineT r :=
  Wd.jn_no10 _ fun a ha => by
    obtain ⟨x, hx, rfl⟩ := List.mem_map.1 ha
    exact Wd.wordB_no10 (rule_words h x hx)
/-- What is printed, line by line. -/
theorem printF_ok {width : Int} : ∀ (rest seen : List Rl) (t : List UInt8), printF width rest seen = .ok t → seen.length + rest.length ≤ 4096 →
    t.length ≤ rest.length * 17158 ∧ ∀ num, ∃ wss, Wd.rows (Wd.split t) num = .ok wss ∧ parseF width wss seen = .ok (seen ++ rest)
  | [], seen, t, h, _ => by
    simp only [printF] at h
    injection h with h
    subst h
    refine ⟨by simp, fun num => ⟨[], ?_, ?_⟩⟩
    · show Wd.rows [[]] num = _
      simp [Wd.rows, Wd.line_nil, Except.map]
    · simp [parseF]
  | r :: rest, seen, t, h, hl => by
    simp only [printF] at h
    split at h
    · cases h
    · rename_i hc
      have hc : Rp.checkR r width = 0 := by
        by_cases e : Rp.checkR r width = 0
        · exact e
        · exact absurd e hc
      split at h
      · cases h
      · rename_i hk
        cases hp : printF width rest (seen ++ [r]) with
        | error e => rw [hp] at h; cases h
        | ok u =>
          rw [hp] at h
          simp only [Except.map] at h
          injection h with h
          subst h
          obtain ⟨hlen, hih⟩ := printF_ok rest (seen ++ [r]) u hp (by simp at hl ⊢; omega)
          have hll := line_len hc
          refine ⟨by simp only [List.length_append, List.length_cons]; omega, fun num => ?_⟩
          obtain ⟨wss, h1, h2⟩ := hih (num + 1)
          obtain ⟨ws, w1, w2, w3⟩ := line_words hc num
          refine ⟨ws :: wss, ?_, ?_⟩
          · rw [Wd.split_some _ _ (line_no10 hc)]
            simp only [Wd.rows, w1, h1, Except.map]
            have : ws.isEmpty = false := by cases ws with | nil => exact absurd rfl w3 | cons a l => rfl
            simp [this]
          · simp only [parseF, rule_back hc w2]
            rw [if_neg hk, if_neg (by simp at hl; omega), h2]
            simp
end Pr
end Go.Proofs.YtlamhpiiikcpiaaGreatDoor
