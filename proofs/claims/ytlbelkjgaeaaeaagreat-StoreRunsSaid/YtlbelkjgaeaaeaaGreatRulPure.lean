/-
  Rules as plain data: names, ports, actions, what may be; no program here.
-/
import Derived.WalkKit
import Derived.Test.YtlbelkjgaeaaeaaGreatCubePure
namespace Go.Proofs.YtlbelkjgaeaaeaaGreat

/-- A rule: its priority, its match, its action's kind and ports. -/
structure Rl where
  p : Int
  m : ByteArray
  k : Int
  ps : List ByteArray
deriving Inhabited

namespace Rp

def isDigit (c : UInt8) : Bool := decide (48 ≤ c.toNat) && decide (c.toNat ≤ 57)
def isLetter (c : UInt8) : Bool := (decide (97 ≤ c.toNat) && decide (c.toNat ≤ 122)) || (decide (65 ≤ c.toNat) && decide (c.toNat ≤ 90)) || isDigit c || c == 95 || c == 45

/-- Is a text a name? -/
def nameB (s : List UInt8) : Bool := decide (1 ≤ s.length) && decide (s.length ≤ 64) && !isDigit (s.headD 0) && s.headD 0 != 45 && s.all isLetter

/-- Does one text stand ahead of another one? -/
def lessB (a b : ByteArray) : Bool := Op.bytesLess a.toList b.toList

/-- Is the port at a place a name, and behind the one ahead of it? -/
def okAt (ps : List ByteArray) (i : Nat) : Bool := nameB (ps.getD i ⟨#[]⟩).data.toList && (i == 0 || lessB (ps.getD (i - 1) ⟨#[]⟩) (ps.getD i ⟨#[]⟩))
def portsB (ps : List ByteArray) : Bool := (List.range ps.length).all (okAt ps) && decide (1 ≤ ps.length) && decide (ps.length ≤ 64)

/-- May an action be? -/
def actionB (k : Int) (ps : List ByteArray) : Bool := if k = 1 ∨ k = 2 then decide (ps.length = 0) else if k = 3 ∨ k = 4 then portsB ps else false

/-- Why a rule is refused; 0: it is not. -/
def checkR (r : Rl) (width : Int) : Int :=
  if width < 1 ∨ width > 128 ∨ r.p < 0 ∨ r.p > 2147483647 then 1
  else if Cb.isCube r.m.data.toList = false then 10
  else if ¬ ((r.m.size : Int) = width) then 11
  else if actionB r.k r.ps = false then 51 else 0

theorem range_all_succ (n : Nat) (f : Nat → Bool) : (List.range (n + 1)).all f = ((List.range n).all f && f n) := by
  rw [List.range_succ]; simp

theorem range_all_false {n i : Nat} {f : Nat → Bool} (h : i < n) (hf : f i = false) : (List.range n).all f = false := by
  rw [List.all_eq_false]
  exact ⟨i, List.mem_range.2 h, by simp [hf]⟩

/-- What is known of a rule's sizes. -/
structure Sz (r : Rl) : Prop where
  m : r.m.size ≤ 140737488351232
  n : r.ps.length * 16 ≤ 140737488351232
  s : ∀ x ∈ r.ps, x.size ≤ 140737488351232
end Rp
end Go.Proofs.YtlbelkjgaeaaeaaGreat
