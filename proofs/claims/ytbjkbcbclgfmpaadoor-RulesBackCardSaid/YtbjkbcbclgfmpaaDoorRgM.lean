/-
  Walks over the reference of rules: put.
-/
import Derived.Test.YtbjkbcbclgfmpaaDoorRgL
import Derived.Test.YtbjkbcbclgfmpaaDoorRgK
import Derived.BigQuiet
namespace Go.Proofs.YtbjkbcbclgfmpaaDoor
open Go.RowKit Go.Shelf Go.Lib Go.Sort
set_option linter.unusedVariables false
set_option linter.unusedSectionVars false
set_option linter.unusedSimpArgs false

namespace Pr
/-- What put has made of the ports so far. -/
def part (l : List (List UInt8)) (t : List UInt8) : List (List UInt8) := if l.any (fun x => decide (t < x)) = true then l.filter (fun x => decide (x < t)) ++ t :: l.filter (fun x => decide (t < x)) else l

theorem lt_of_not {a b : List UInt8} (h : ¬ a < b) (hne : a ≠ b) : b < a := ll_ne (List.not_lt.1 h) (fun e => hne e.symm)

theorem part_more {l : List (List UInt8)} {t x : List UInt8} (hp : (l ++ [x]).Pairwise (fun a b => a < b)) (hn : t ≠ x) (hd : l.any (fun x => decide (t < x)) = true) : part (l ++ [x]) t = part l t ++ [x] ∧ (l ++ [x]).any (fun x => decide (t < x)) = true := by
  obtain ⟨y, hy, hty⟩ := List.any_eq_true.1 hd
  have hyx : y < x := (List.pairwise_append.1 hp).2.2 y hy x (by simp)
  have htx : t < x := List.lt_trans (by simpa using hty) hyx
  have ha : (l ++ [x]).any (fun x => decide (t < x)) = true := by rw [List.any_append, hd]; rfl
  have hxt : ¬ x < t := fun h => List.lt_irrefl _ (List.lt_trans h htx)
  refine ⟨?_, ha⟩
  unfold part
  rw [if_pos ha, if_pos hd, List.filter_append, List.filter_append]
  simp [htx, hxt]

theorem part_here {l : List (List UInt8)} {t x : List UInt8} (ht : t ∉ l) (hd : l.any (fun x => decide (t < x)) = false) (hx : t < x) : part (l ++ [x]) t = part l t ++ [t] ++ [x] ∧ (l ++ [x]).any (fun x => decide (t < x)) = true := by
  have ha : (l ++ [x]).any (fun x => decide (t < x)) = true := by rw [List.any_append, hd]; simp [hx]
  have hxt : ¬ x < t := fun h => List.lt_irrefl _ (List.lt_trans h hx)
  have h1 : ∀ y ∈ l, ¬ t < y := fun y hy h => by
    have := List.any_eq_false.1 hd y hy
    simp [h] at this
  have h2 : l.filter (fun x => decide (t < x)) = [] := List.filter_eq_nil_iff.2 fun y hy => by simpa using h1 y hy
  have h3 : l.filter (fun x => decide (x < t)) = l := List.filter_eq_self.2 fun y hy => by simpa using lt_of_not (h1 y hy) (fun e => ht (e ▸ hy))
  refine ⟨?_, ha⟩
  unfold part
  rw [if_pos ha, if_neg (by rw [hd]; simp), List.filter_append, List.filter_append, h2, h3]
  simp [hx, hxt]

theorem part_low {l : List (List UInt8)} {t x : List UInt8} (hd : l.any (fun x => decide (t < x)) = false) (hx : ¬ t < x) : part (l ++ [x]) t = part l t ++ [x] ∧ (l ++ [x]).any (fun x => decide (t < x)) = false := by
  have ha : (l ++ [x]).any (fun x => decide (t < x)) = false := by rw [List.any_append, hd]; simp [hx]
  refine ⟨?_, ha⟩
  unfold part
  rw [if_neg (by rw [ha]; simp), if_neg (by rw [hd]; simp)]

theorem part_done {l : List (List UInt8)} {t : List UInt8} (ht : t ∉ l) (hd : l.any (fun x => decide (t < x)) = true) : part l t = putL l t := by
  unfold part putL
  rw [if_pos hd, if_neg ht]
theorem part_last {l : List (List UInt8)} {t : List UInt8} (ht : t ∉ l) (hd : l.any (fun x => decide (t < x)) = false) : part l t ++ [t] = putL l t := by
  have h1 : ∀ y ∈ l, ¬ t < y := fun y hy h => by
    have := List.any_eq_false.1 hd y hy
    simp [h] at this
  have h2 : l.filter (fun x => decide (t < x)) = [] := List.filter_eq_nil_iff.2 fun y hy => by simpa using h1 y hy
  have h3 : l.filter (fun x => decide (x < t)) = l := List.filter_eq_self.2 fun y hy => by simpa using lt_of_not (h1 y hy) (fun e => ht (e ▸ hy))
  unfold part putL
  rw [if_neg (by rw [hd]; simp), if_neg ht, h2, h3]
theorem part_len (l : List (List UInt8)) (t : List UInt8) : (part l t).length ≤ l.length + 1 := by
  unfold part
  split
  · have h : ∀ l : List (List UInt8), (l.filter (fun x => decide (x < t))).length + (l.filter (fun x => decide (t < x))).length ≤ l.length := by
      intro l
      induction l with
      | nil => simp
      | cons a l ih =>
        simp only [List.filter_cons, List.length_cons]
        by_cases h1 : a < t
        · have h2 : ¬ t < a := fun h => List.lt_irrefl _ (List.lt_trans h1 h)
          simp [h1, h2]; omega
        · by_cases h2 : t < a
          · simp [h1, h2]; omega
          · simp [h1, h2]; omega
    have := h l
    simp; omega
  · omega
end Pr

/-- append of one string, told by its cell. -/
theorem wp_app_strR {w : World} {o : Oper} {a : Act} {K : Act → World → Prop} {Q : Exit → Act → World → Prop} (s x : Operand)
    (ho : o.op = .call { callee := .builtin .append, args := #[s, x], argTypes := #[38, 38] })
    (base : Nat) (v : Value) (n : Nat) (xs : List Value) (hs : a.eval s = v) (h1 : w.ownsRow base 9 1 v n xs)
    (g0 c : Nat) (y : ByteArray) (hx : a.eval x = .slice (some ⟨g0, 0, none⟩) 1 c) (hyc : w.heap[g0]? = some (.cells #[.string y] 9 (0, 0)))
    (tot : Nat) (htot : n + 1 = tot) (hbytes : tot * 16 ≤ 140737488355328) (hbase : base ≤ w.heap.size)
    (h : ∀ ad cap w', w'.ownsRow base 9 1 (.slice ad tot cap) tot (xs ++ [.string y]) → w.grownBy w' v.ownBlock → K (a.put o.dst (.slice ad tot cap)) w') : o.wp Tryd.prog a w K Q := by
  subst htot
  obtain ⟨i0, hi, hz0, hz1, hz2⟩ := info_parts infoS
  refine wp_append_lies w s x 38 ho base 9 i0 _ 1 16 Tryd.underlying38 hi hz0 hz1 hz2 rfl (by decide) v n xs hs h1 ⟨g0, 0, none⟩ 1 c [.string y] hx rfl (fun j u hj => ?_) (fun u hu => by simp at hu; subst hu; rfl)
    (by omega) (by unfold maxLen; omega) hbytes hbase w.heap.size rfl fun g cap w' hown hg hgg hlt => h _ cap w' hown hg
  rw [Addr.add_lit, Nat.zero_add]
  match j, hj with
  | 0, hj => simp at hj; subst hj; simp [World.cell?, hyc]

theorem grown_bel {w0 w w' : World} {base : Nat} {e : TypeId} {k n : Nat} {v : Value} {xs : List Value} (hb : Below base w0 w) (hl : base ≤ w0.heap.size) (h : w.ownsRow base e k v n xs) (hg : w.grownBy w' v.ownBlock) : Below base w0 w' := by
  have hbt : But (fun b => v.ownBlock = some b) w w' := ⟨hg.os, hg.tape, hg.output, hg.size, fun k hk hn => hg.block k hk (fun e => hn e.symm)⟩
  exact hb.trans (hbt.toBelow (Nat.le_trans hl hb.size) fun k hk => (own_ge h k hk).1)

theorem row_strs {w : World} {base n : Nat} {e : TypeId} {v : Value} {P : List (List UInt8)} (h : w.ownsRow base e 1 v n (P.map fun t => Value.string (Wd.mkB t))) : RdsO (fun b => base ≤ b) w v (P.map Wd.mkB) := by
  refine ⟨?_, fun a n c hv hn => ?_⟩
  · have := ownsRow_rds h
    show Rds w v ((P.map Wd.mkB).map Value.string)
    rw [List.map_map]
    exact this
  · subst hv
    exact (own_ge h a.block rfl).1

end Go.Proofs.YtbjkbcbclgfmpaaDoor
/-
  Walks over the reference of rules: action, where no ports are read.
-/
namespace Go.Proofs.YtbjkbcbclgfmpaaDoor
open Go.RowKit Go.Shelf Go.Lib Go.Sort
set_option linter.unusedVariables false
set_option linter.unusedSectionVars false
set_option linter.unusedSimpArgs false

theorem idx_names (s : ByteArray) : Pr.idx Pr.names s = if s = ⟨#[]⟩ then 0 else if s = ⟨#[100, 114, 111, 112]⟩ then 1 else if s = ⟨#[100, 101, 108, 105, 118, 101, 114]⟩ then 2 else if s = ⟨#[97, 108, 108]⟩ then 3 else if s = ⟨#[97, 110, 121]⟩ then 4 else -1 := by
  unfold Pr.idx Pr.names
  simp only [List.findIdx?_cons, List.findIdx?_nil, decide_eq_true_eq]
  by_cases h0 : s = ⟨#[]⟩
  · simp [h0]
  by_cases h1 : s = ⟨#[100, 114, 111, 112]⟩
  · simp [h0, h1]
  by_cases h2 : s = ⟨#[100, 101, 108, 105, 118, 101, 114]⟩
  · simp [h0, h1, h2]
  by_cases h3 : s = ⟨#[97, 108, 108]⟩
  · simp [h0, h1, h2, h3]
  by_cases h4 : s = ⟨#[97, 110, 121]⟩
  · simp [h0, h1, h2, h3, h4]
  simp [h0, h1, h2, h3, h4]

theorem str_ne {s : ByteArray} {l : List UInt8} (h : ¬ s = ⟨l.toArray⟩) : ¬ s.toList = l := fun e => h (by
  rw [Lib.toList_data] at e
  cases s with
  | mk d => simp only at e; rw [← e])
theorem str_is {s : ByteArray} {l : List UInt8} (h : s = ⟨l.toArray⟩) : s.toList = l := by rw [h, Lib.toList_data]

/-- What the reference's reading of an action leaves. -/
def RActPost (ok : Nat → Prop) (rb i : Nat) (v : Value) (ws : List Wrd) (w : World) (e : Ending) (w' : World) : Prop :=
  match Pr.act ws i with
  | .ok (k, P, j) => ∃ a n c, e = .returned (.agg #[.int .i64 k, .slice a n c]) ∧ RdsO (fun b => w.heap.size ≤ b) w' (.slice a n c) P ∧ RRd ok rb j 0 0 0 v ws w' ∧ But (fun b => b = rb) w w'
  | .error (c, j) => (∃ k a n cc, e = .returned (.agg #[.int .i64 k, .slice a n cc])) ∧ (∃ j', RRd ok rb j' (Pr.wd ws j).l (Pr.wd ws j).c c v ws w') ∧ But (fun b => b = rb) w w'

end Go.Proofs.YtbjkbcbclgfmpaaDoor
/-
  Walks over the reference of rules: known.
-/
namespace Go.Proofs.YtbjkbcbclgfmpaaDoor
open Go.RowKit Go.Shelf Go.Lib Go.Sort
set_option linter.unusedVariables false
set_option linter.unusedSectionVars false
set_option linter.unusedSimpArgs false

namespace Pr
theorem putL_len (l : List (List UInt8)) (t : List UInt8) : (putL l t).length ≤ l.length + 1 := by
  unfold putL
  split
  · omega
  · have h : ∀ l : List (List UInt8), (l.filter (fun x => decide (x < t))).length + (l.filter (fun x => decide (t < x))).length ≤ l.length := by
      intro l
      induction l with
      | nil => simp
      | cons a l ih =>
        simp only [List.filter_cons, List.length_cons]
        by_cases h1 : a < t
        · have h2 : ¬ t < a := fun h => List.lt_irrefl _ (List.lt_trans h1 h)
          simp [h1, h2]; omega
        · by_cases h2 : t < a
          · simp [h1, h2]; omega
          · simp [h1, h2]; omega
    have := h l
    simp; omega
theorem foldl_put_len : ∀ (T l : List (List UInt8)), (T.foldl putL l).length ≤ l.length + T.length
  | [], l => by simp
  | s :: T, l => by
    have h1 := foldl_put_len T (putL l s)
    have h2 := putL_len l s
    simp only [List.foldl_cons, List.length_cons]
    omega
theorem foldl_put_snoc (T : List (List UInt8)) (s : List UInt8) : (T ++ [s]).foldl putL [] = putL (T.foldl putL []) s := by rw [List.foldl_append]; rfl
end Pr

theorem knownB_take {L : List Rl} {i : Nat} (h : i < L.length) (p : Int) (m : ByteArray) : knownB (L.take (i + 1)) p m = (knownB (L.take i) p m || (p == L[i].p && decide (m = L[i].m))) := by
  unfold knownB
  rw [List.take_succ_eq_append_getElem h, List.any_append]
  simp
theorem knownB_of {L : List Rl} {i : Nat} {p : Int} {m : ByteArray} (h : i < L.length) (hp : L[i].p = p) (hm : L[i].m = m) : knownB L p m = true :=
  (known_iff L p m).2 ⟨L[i], List.getElem_mem h, hp.symm, hm.symm⟩

end Go.Proofs.YtbjkbcbclgfmpaaDoor
