/-
  Walks: slices.SortStableFunc over rows of four cells: swapRangeCmpFunc, rotateCmpFunc.
-/
import Derived.Shelf.SlSortCmp.KitK
import Derived.BigQuiet
import Derived.Lib.Hide
import Derived.WalkKit
import Derived.Test.YtlbelkjgaeaaeaaGreatStPure
import Derived.Test.YtlbelkjgaeaaeaaGreatShelf
namespace Go.Proofs.YtlbelkjgaeaaeaaGreat
open Go.RowKit Go.Shelf Go.Lib Go.Sort
set_option linter.unusedVariables false
variable {P : Program} {k : Nat} {α : Type} [Inhabited α]

/-- What the walks of the sort ask of a program: its types; an element is an aggregate of k cells. -/
structure RowProg (P : Program) (k : Nat) : Prop where
  mixed : P.follows .mixedOrders = true
  t0 : P.underlying 0 = some (TypeDesc.tuple #[])
  a0 : ∀ w, (isAgg 0).run P w = .ok false w
  z0 : ∀ w, (Go.sizeOf 0).run P w = .ok 1 w
  v0 : ∀ w, (zeroValue 0).run P w = .ok (Value.tuple #[]) w
  t3 : P.underlying 3 = some (TypeDesc.int IntKind.i64)
  a3 : ∀ w, (isAgg 3).run P w = .ok false w
  z3 : ∀ w, (Go.sizeOf 3).run P w = .ok 1 w
  v3 : ∀ w, (zeroValue 3).run P w = .ok (Value.int IntKind.i64 0) w
  t4 : P.underlying 4 = some (TypeDesc.bool)
  a4 : ∀ w, (isAgg 4).run P w = .ok false w
  z4 : ∀ w, (Go.sizeOf 4).run P w = .ok 1 w
  v4 : ∀ w, (zeroValue 4).run P w = .ok (Value.bool false) w
  ts : P.underlying 44 = some (TypeDesc.slice 62)
  asl : ∀ w, (isAgg 44).run P w = .ok false w
  zs : ∀ w, (Go.sizeOf 44).run P w = .ok 1 w
  vs : ∀ w, (zeroValue 44).run P w = .ok (Value.slice none 0 0) w
  tf : P.underlying 137 = some (TypeDesc.func #[62, 62] #[3] false)
  af : ∀ w, (isAgg 137).run P w = .ok false w
  zf : ∀ w, (Go.sizeOf 137).run P w = .ok 1 w
  vf : ∀ w, (zeroValue 137).run P w = .ok (Value.nilFunc) w
  tu : P.underlying 155 = some (TypeDesc.int IntKind.u64)
  au : ∀ w, (isAgg 155).run P w = .ok false w
  zu : ∀ w, (Go.sizeOf 155).run P w = .ok 1 w
  vu : ∀ w, (zeroValue 155).run P w = .ok (Value.int IntKind.u64 0) w
  aE : ∀ w, (isAgg 62).run P w = .ok true w
  zE : ∀ w, (Go.sizeOf 62).run P w = .ok k w
  fSwap : P.funcs[107]? = some Tryz.f107
  fRot : P.funcs[105]? = some Tryz.f105
  fSym : P.funcs[96]? = some Tryz.f96
  fStb : P.funcs[84]? = some Tryz.f84
  fSort : P.funcs[75]? = some Tryz.f75

theorem row_get (p : List α) (x : α) (q : List α) : (p ++ x :: q).toArray[p.length]! = x := by simp

/-- One step of the exchange of two runs. -/
theorem swap_step (p y1 : List α) (u : α) (x2 m x1 : List α) (v : α) (y2 q : List α) (h : x1.length = y1.length) :
    swp (p ++ y1 ++ (u :: x2) ++ m ++ x1 ++ (v :: y2) ++ q).toArray (p.length + y1.length) (p.length + (y1.length + 1 + x2.length) + m.length + x1.length) = (p ++ (y1 ++ [v]) ++ x2 ++ m ++ (x1 ++ [u]) ++ y2 ++ q).toArray := by
  have e1 : p ++ y1 ++ (u :: x2) ++ m ++ x1 ++ (v :: y2) ++ q = (p ++ y1) ++ u :: ((x2 ++ m ++ x1) ++ v :: (y2 ++ q)) := by simp
  have e2 : p ++ (y1 ++ [v]) ++ x2 ++ m ++ (x1 ++ [u]) ++ y2 ++ q = (p ++ y1) ++ v :: ((x2 ++ m ++ x1) ++ u :: (y2 ++ q)) := by simp
  rw [e1, e2]
  have := St.swp_list (p ++ y1) u (x2 ++ m ++ x1) v (y2 ++ q)
  rw [show p.length + y1.length = (p ++ y1).length by simp, show p.length + (y1.length + 1 + x2.length) + m.length + x1.length = (p ++ y1).length + 1 + (x2 ++ m ++ x1).length by simp; omega]
  exact this

set_option maxHeartbeats 1600000 in
set_option maxRecDepth 20000 in
theorem swapRange_w (L : RowProg P k) (enc : α → List Value) (fv : Value) (blk off cap a b n sz : Nat) (d0 : Array α) (w0 w : World) (R : RowK enc k w0 blk off d0) (p x m y q : List α)
    (ha : a = p.length) (hn : n = x.length) (hb : b = p.length + x.length + m.length) (hxy : y.length = x.length) (hd0 : d0.size = sz) (hs : (p ++ x ++ m ++ y ++ q).length = sz) (S : SWK enc k w0 blk off (p ++ x ++ m ++ y ++ q).toArray w) (hsz : sz < 2305843009213693952) :
    Calls P 107 #[.slice (some ⟨blk, off, none⟩) sz cap, .int .i64 a, .int .i64 b, .int .i64 n, fv] w fun e w' => e = .returned (.tuple #[]) ∧ SWK enc k w0 blk off (p ++ y ++ m ++ x ++ q).toArray w' := by
  have hlen : p.length + x.length + m.length + y.length + q.length = sz := by rw [← hs]; simp; omega
  have HA := Lib.hid ha
  have HN := Lib.hid hn
  have HBb := Lib.hid hb
  have HXY := Lib.hid hxy
  have HD0 := Lib.hid hd0
  have HS := Lib.hid S
  have HLen := Lib.hid hlen
  have hbn : b + n ≤ sz := by omega
  have mixed := L.mixed; have t0 := L.t0; have a0 := L.a0; have z0 := L.z0; have v0 := L.v0; have t3 := L.t3; have a3 := L.a3; have z3 := L.z3; have v3 := L.v3; have t4 := L.t4; have a4 := L.a4; have z4 := L.z4; have v4 := L.v4; have ts := L.ts; have asl := L.asl; have zs := L.zs; have vs := L.vs; have tf := L.tf; have af := L.af; have zf := L.zf; have vf := L.vf; have aE := L.aE; have zE := L.zE
  have FG := L.fSwap
  clear L
  have han : a + n ≤ b := by omega
  clear ha hn hb hxy hd0 S hs hlen
  go_enter FG, Tryz.ntmps107
  go_wp2_with fail
  go_loopw [10] (fun kv wr => ∃ i : Nat, i ≤ n ∧ kv = .int .i64 i ∧ Hid (SWK enc k w0 blk off (p ++ y.take i ++ x.drop i ++ m ++ x.take i ++ y.drop i ++ q).toArray wr)) (fun kv _ => n - (intOf kv).toNat)
  case atStart => exact ⟨0, Nat.zero_le _, rfl, by show SWK _ _ _ _ _ _ _; simpa using HS.out⟩
  case round =>
    obtain ⟨wo, rfl⟩ : ∃ wo : World, wo = wr := ⟨wr, rfl⟩
    obtain ⟨i, hi, rfl, HI⟩ := hrel
    by_cases hlt : i < n
    · obtain ⟨r, hr⟩ : ∃ r, a + i = r := ⟨_, rfl⟩
      obtain ⟨t, ht⟩ : ∃ t, b + i = t := ⟨_, rfl⟩
      have hiX : i < x.length := by rw [← HN.out]; exact hlt
      have hiY : i < y.length := by rw [HXY.out]; exact hiX
      obtain ⟨dk, hdk⟩ : ∃ dk, dk = (p ++ y.take i ++ x.drop i ++ m ++ x.take i ++ y.drop i ++ q).toArray := ⟨_, rfl⟩
      have hls : p.length + x.length + m.length + y.length + q.length = sz := HLen.out
      have hdks : dk.size = sz := by
        rw [hdk, List.size_toArray]
        simp only [List.length_append, List.length_take, List.length_drop]
        have := HXY.out
        omega
      have HSt : Hid (swp dk r t = (p ++ y.take (i + 1) ++ x.drop (i + 1) ++ m ++ x.take (i + 1) ++ y.drop (i + 1) ++ q).toArray) := by
        show _ = _
        have hti : (y.take i).length = i := by rw [List.length_take]; omega
        have htx : (x.take i).length = i := by rw [List.length_take]; omega
        have := swap_step p (y.take i) x[i] (x.drop (i + 1)) m (x.take i) y[i] (y.drop (i + 1)) q (by rw [hti, htx])
        rw [← List.drop_eq_getElem_cons hiX, ← List.drop_eq_getElem_cons hiY, ← List.take_succ_eq_append_getElem hiX, ← List.take_succ_eq_append_getElem hiY, hti, htx, List.length_drop, ← hdk] at this
        rw [← this, ← hr, ← ht]
        congr 1
        · have := HA.out; omega
        · have := HBb.out; omega
      rw [← hdk] at HI
      have S2 := Lib.hid (HI.out.swapped R r t (by omega) (by omega))
      rw [HSt.out] at S2
      have g1 : IntKind.i64.wrap ((a : Int) + (i : Int)) = (r : Int) := by rw [IntWalk.i64_in _ (by omega)]; omega
      have g2 : IntKind.i64.wrap ((b : Int) + (i : Int)) = (t : Int) := by rw [IntWalk.i64_in _ (by omega)]; omega
      have g3 : (r : Int) < (sz : Int) := by omega
      have g4 : (t : Int) < (sz : Int) := by omega
      have l1 := HI.out.ld1 R (by rw [hdks]; exact HD0.out.symm) P r (by omega)
      have l2 := HI.out.ld1 R (by rw [hdks]; exact HD0.out.symm) P t (by omega)
      have s1 := HI.out.st1 R (by rw [hdks]; exact HD0.out.symm) P r (by omega) dk[t]!
      have s2 := HI.out.st2 R (by rw [hdks]; exact HD0.out.symm) P r t (by omega) (by omega) dk[t]! dk[r]!
      have n1 : (enc dk[r]!).length = k := R.hk _
      have n2 : (enc dk[t]!).length = k := R.hk _
      generalize enc dk[r]! = c1 at S2 l1 s2 n1
      generalize enc dk[t]! = c2 at S2 l2 s1 s2 n2
      clear hr ht hdk hdks hls
      go_wp2_with fail

      go_big_region_o
      clear l1 l2 s1 s2
      generalize (wo.drew.setCells blk (off + r * k) c2).setCells blk (off + t * k) c1 = w2 at S2 ⊢
      go_wp2_with fail
      go_roundw
      case rel => exact ⟨i + 1, by omega, by go_num, S2⟩
      case measure => simp [intOf]; omega
    · obtain rfl : i = n := by omega
      go_wp2_with fail
      go_end0
      refine ⟨rfl, ?_⟩
      have h1 : i = x.length := HN.out
      have h2 : i = y.length := by rw [HXY.out]; exact h1
      have := HI.out
      rw [List.take_of_length_le (by omega), List.take_of_length_le (by omega), List.drop_eq_nil_of_le (by omega), List.drop_eq_nil_of_le (by omega)] at this
      simpa using this
end Go.Proofs.YtlbelkjgaeaaeaaGreat
