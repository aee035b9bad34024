/-
  Plain laws on what is left of a cube without several, and on cubes that are apart; no program here.
-/
import Derived.Test.YtlbelkjgaeaaeaaGreatCubePure
namespace Go.Proofs.YtlbelkjgaeaaeaaGreat.Cb

/-- One part more without b; none: too many. -/
def nextC (b : List UInt8) (acc : List (List UInt8)) (a : List UInt8) : Option (List (List UInt8)) :=
  if 16384 < (acc ++ cut a b).length then none else some (acc ++ cut a b)
/-- All parts without b. -/
def nextS (b : List UInt8) (rest : List (List UInt8)) : Option (List (List UInt8)) := rest.foldlM (nextC b) []
/-- What is left of a cube without several. -/
def leftS (c : List UInt8) (ls : List (List UInt8)) : Option (List (List UInt8)) := ls.foldlM (fun rest b => nextS b rest) [c]

theorem foldlM_succ {α β : Type} (f : β → α → Option β) (l : List α) (i : β) (k : Nat) (h : k < l.length) :
    (l.take (k + 1)).foldlM f i = ((l.take k).foldlM f i).bind fun acc => f acc l[k] := by
  rw [List.take_succ_eq_append_getElem h, List.foldlM_append]
  simp only [List.foldlM_cons, List.foldlM_nil, bind_pure]
  rfl

theorem foldlM_none {α β : Type} (f : β → α → Option β) (l : List α) (i : β) (k : Nat) (h : (l.take k).foldlM f i = none) : l.foldlM f i = none := by
  have : l = l.take k ++ l.drop k := (List.take_append_drop k l).symm
  rw [this, List.foldlM_append, h]
  rfl

theorem cut_len {a b : List UInt8} (h : b.length = a.length) : ∀ p ∈ cut a b, p.length = a.length := by
  intro p hp
  unfold cut at hp
  split at hp
  · simp at hp; rw [hp]
  · rename_i m hm
    unfold cutTo at hp
    obtain ⟨i, hi, hc⟩ := List.mem_filterMap.1 hp
    have hi' : i < a.length := List.mem_range.1 hi
    have hml : m.length = a.length := by
      unfold meet at hm
      split at hm
      · injection hm with hm; rw [← hm]; simp; omega
      · cases hm
    unfold cutAt at hc
    split at hc
    · injection hc with hc
      rw [← hc]
      simp
      omega
    · cases hc

theorem cut_few (a b : List UInt8) (h : a.length ≤ 128) : (cut a b).length ≤ 128 := by
  unfold cut
  split
  · simp
  · exact Nat.le_trans (cutTo_len a b _ a.length) h

/-- All as wide as n. -/
def wide (n : Nat) (R : List (List UInt8)) : Prop := ∀ r ∈ R, r.length = n

theorem nextC_wide {n : Nat} {b a : List UInt8} {R R' : List (List UInt8)} (hb : b.length = n) (ha : a.length = n) (hR : wide n R) (h : nextC b R a = some R') : wide n R' ∧ R'.length ≤ 16384 := by
  unfold nextC at h
  split at h
  · cases h
  · injection h with h
    subst h
    refine ⟨fun r hr => ?_, by omega⟩
    rcases List.mem_append.1 hr with h | h
    · exact hR r h
    · rw [cut_len (by omega) r h, ha]

theorem foldC_wide {n : Nat} {b : List UInt8} (hb : b.length = n) : ∀ (l R R' : List (List UInt8)), wide n l → wide n R → R.length ≤ 16384 → l.foldlM (nextC b) R = some R' → wide n R' ∧ R'.length ≤ 16384
  | [], R, R', _, hR, hl, h => by simp at h; subst h; exact ⟨hR, hl⟩
  | a :: l, R, R', hw, hR, hl, h => by
    rw [List.foldlM_cons] at h
    cases h1 : nextC b R a with
    | none => rw [h1] at h; cases h
    | some R1 =>
      rw [h1] at h
      obtain ⟨w1, l1⟩ := nextC_wide hb (hw a (List.mem_cons_self ..)) hR h1
      exact foldC_wide hb l R1 R' (fun r hr => hw r (List.mem_cons_of_mem _ hr)) w1 l1 h

theorem nextS_wide {n : Nat} {b : List UInt8} {R R' : List (List UInt8)} (hb : b.length = n) (hR : wide n R) (h : nextS b R = some R') : wide n R' ∧ R'.length ≤ 16384 :=
  foldC_wide hb R [] R' hR (fun r hr => by simp at hr) (by simp) h

theorem foldL_wide {n : Nat} : ∀ (ls R R' : List (List UInt8)), wide n ls → wide n R → R.length ≤ 16384 → ls.foldlM (fun rest b => nextS b rest) R = some R' → wide n R' ∧ R'.length ≤ 16384
  | [], R, R', _, hR, hl, h => by simp at h; subst h; exact ⟨hR, hl⟩
  | b :: ls, R, R', hw, hR, hl, h => by
    rw [List.foldlM_cons] at h
    cases h1 : nextS b R with
    | none => rw [h1] at h; cases h
    | some R1 =>
      rw [h1] at h
      obtain ⟨w1, l1⟩ := nextS_wide (hw b (List.mem_cons_self ..)) hR h1
      exact foldL_wide ls R1 R' (fun r hr => hw r (List.mem_cons_of_mem _ hr)) w1 l1 h

/-- Left's answer, where nothing is refused. -/
def resL (o : Option (List (List UInt8))) : List (List UInt8) × Int := match o with | some R => (R, 0) | none => ([], 3)
/-- Left's answer. -/
def LeftS (c : List UInt8) (ls : List (List UInt8)) : List (List UInt8) × Int :=
  if wrong (c :: ls) = 0 then resL (leftS c ls) else ([], wrong (c :: ls))

/-- Does no two of several meet? Up to a place. -/
def apartAt (ls : List (List UInt8)) (i : Nat) : Bool := (ls.take i).all fun b => (meet (ls.getD i []) b).isNone
def apartS (ls : List (List UInt8)) : Bool := (List.range ls.length).all (apartAt ls)
/-- Apart's answer. -/
def ApartS (ls : List (List UInt8)) : Bool × Int := if wrong ls = 0 then (apartS ls, 0) else (false, wrong ls)

theorem wrong_zero {ls : List (List UInt8)} (h : wrong ls = 0) : (∀ s ∈ ls, isCube s = true) ∧ ∀ s ∈ ls, s.length = (ls.headD []).length := by
  unfold wrong at h
  split at h
  · rename_i h1
    split at h
    · rename_i h2
      exact ⟨fun s hs => List.all_eq_true.1 h1 s hs, fun s hs => by simpa using List.all_eq_true.1 h2 s hs⟩
    · cases h
  · cases h
end Go.Proofs.YtlbelkjgaeaaeaaGreat.Cb
