/-
  A region in a round's frame, out of the plain laws: where no operation of it is a defer statement.
-/
import Derived.Test.YtfnfmkejkgiclaaDoorHeld
import Derived.OrdersIn
import Derived.OwnWalkIn
namespace Go
section
variable {P : Program} {ops : Array Oper} {Q : Exit → Act → World → Prop} {md : Region.Mode} {l n : Nat}

def isDefer : Op → Bool
  | .defer _ => true
  | _ => false

theorem rowsIn_wideR {row : String} {args : Array Value} {w : World} {R : Value → World → Prop} (h : Rows P row args w R) : RowsIn (Fence.wide.inRound l) n P row args w R :=
  fun c cs _ => let ⟨v, w', r, s⟩ := h c cs; ⟨v, w', r, stepsIn_wide.2 s⟩

theorem opWpIn_of_wp {o : Oper} {a : Act} {w : World} {K : Act → World → Prop} (hd : isDefer o.op = false) (h : o.wp P a w K Q) : o.wpIn (Fence.wide.inRound l) n P a w K Q := by
  refine ⟨fun f _ => trivial, ?_⟩
  have hs : o.semAt (Fence.wide.inRound l).round a.eval = execOp a.eval o := Oper.semAt_plain (Fence.wide.inRound l) _ _ (fun c hc => by rw [hc] at hd; cases hd)
  rw [hs]
  unfold Oper.wp at h
  generalize (execOp a.eval o).run P w = r at h
  cases r with
  | ok x w' =>
    cases x <;> simp only [Oper.upon] at h <;> simp only [Oper.uponIn]
    case value v => exact h
    case skip => exact h
    case defer d => exact h
    case enter f args => exact ⟨(fun h => by cases h), (callsIn_wide (n := n - 1)).2 (Calls.mono h fun e w'' he => by cases e <;> exact he)⟩
    case row row args => exact ⟨(fun h => by cases h), rowsIn_wideR h⟩
  | halt x w' =>
    cases x <;> simp only [Oper.upon] at h <;> simp only [Oper.uponIn]
    case panic v => exact h

theorem wpAnyIn_of_wpAny (hd : (ops.all fun o => !isDefer o.op) = true) (hno : ¬ LetsOut Q) : ∀ (fuel : Nat) (listed : Array Bool) (a : Act) (w : World), wpAny P md ops Q fuel listed a w → wpAnyIn (Fence.wide.inRound l) n P md ops Q fuel listed a w
  | 0, _, _, _, h => h
  | fuel + 1, listed, a, w, h => by
    refine ⟨h.1, fun i hi => ?_⟩
    have h1 := h.2 i hi
    unfold wpOp at h1
    unfold wpOpIn
    cases ho : ops[i]? with
    | none => simp only [ho] at h1 ⊢; exact wpAnyIn_of_wpAny hd hno fuel _ a w h1
    | some o =>
      simp only [ho] at h1 ⊢
      have hdo : isDefer o.op = false := by
        obtain ⟨hlt, he⟩ := Array.getElem?_eq_some_iff.1 ho
        have := (Array.all_eq_true.1 hd) i hlt
        rw [he] at this
        simpa using this
      split
      · rename_i hw
        rw [if_pos hw] at h1
        rcases h1 with h1 | ⟨_, h1⟩
        · exact Oper.wpIn_mono (fun a' w' h' => wpAnyIn_of_wpAny hd hno fuel _ a' w' h') (opWpIn_of_wp hdo h1)
        · exact absurd h1 hno
      · rename_i hw
        rw [if_neg hw] at h1
        exact ⟨fun f _ => trivial, wpAnyIn_of_wpAny hd hno fuel _ _ w h1⟩

/-- The beginning of a region in a round. -/
theorem wpIn_region_heldG (S : World → Prop) (z : Nat) {id : Nat} {a : Act} {w : World} (hm : P.follows .mixedOrders = true) (hd : (ops.all fun o => !isDefer o.op) = true) (hno : ¬ LetsOut Q)
    (h : wpAnyG P .any ops Q S z ops.size (Array.replicate ops.size false) a w.drew) : (Code.region id ops true).wpIn (Fence.wide.inRound l) n P Q a w :=
  wpIn_region_any hm (wpAnyIn_of_wpAny hd hno _ _ _ _ (wpAny_of_heldG _ _ _ _ h))
end
end Go
