/-
  Walks over package words: Say.
-/
import Derived.Test.YtfnfmkejkgiclaaDoorWdG
import Derived.Lib.AppendStr
import Derived.Lib.SmallJoins
import Derived.Test.YtfnfmkejkgiclaaDoorBytes
namespace Go.Proofs.YtfnfmkejkgiclaaDoor
open Go.RowKit Go.Shelf
set_option linter.unusedVariables false
set_option linter.unusedSimpArgs false

namespace Wd
theorem jn_snoc : ∀ (l : List (List UInt8)) (a b : List UInt8), jn (l ++ [a] ++ [b]) = jn (l ++ [a]) ++ ((if gluedB a b then [32] else []) ++ b)
  | [], a, b => by simp [jn]
  | [c], a, b => by
    have := jn_snoc [] a b
    simp [jn] at this ⊢
  | c :: d :: l, a, b => by
    have := jn_snoc (d :: l) a b
    simp only [List.cons_append] at this ⊢
    simp only [jn]
    rw [this]
    simp [List.append_assoc]

theorem jn_len (M : Nat) : ∀ (l : List (List UInt8)), (∀ x ∈ l, x.length ≤ M) → (jn l).length ≤ l.length * (M + 1)
  | [], _ => by simp [jn]
  | [a], h => by have := h a (by simp); simp [jn]; omega
  | a :: b :: l, h => by
    have h1 := h a (by simp)
    have h2 := jn_len M (b :: l) (fun x hx => h x (List.mem_cons_of_mem _ hx))
    simp only [jn, List.length_append, List.length_cons] at h2 ⊢
    have h3 : (if gluedB a b then [(32 : UInt8)] else []).length ≤ 1 := by split <;> simp
    rw [Nat.add_mul (l.length + 1) 1 (M + 1)]
    omega
end Wd

def bytesV (l : List UInt8) : List Value := l.map fun c => .int .u8 (c.toNat : Int)
theorem dr_heapW (w : World) : w.drew.heap = w.heap := rfl
theorem bytesV_append (a b : List UInt8) : bytesV (a ++ b) = bytesV a ++ bytesV b := by simp [bytesV]
theorem strCells_eq (s : ByteArray) : Lib.strCells s = bytesV s.data.toList := by simp [Lib.strCells, bytesV]
theorem infoB : (Tryd.prog.info? 5).map (fun i => (i.zero, i.size, i.bytes)) = some (some (.int .u8 0), 1, 1) := by kernel_rfl

/-- What Say tells. -/
def SayPost (ss : List ByteArray) (w : World) (e : Ending) (w' : World) : Prop :=
  (match Wd.say (ss.map fun x => x.data.toList) with
  | some t => e = .returned (.tuple #[.string (Wd.mkB t), .int .i64 0])
  | none => e = .returned (.tuple #[.string ⟨#[]⟩, .int .i64 31])) ∧ Below w.heap.size w w'

theorem say_bad {ss : List ByteArray} {k : Nat} (hk : k < ss.length) (h : Wd.wordB ss[k].data.toList = false) : Wd.say (ss.map fun x => x.data.toList) = none := by
  unfold Wd.say
  rw [if_neg]
  intro hall
  rw [List.all_eq_true] at hall
  have := hall ss[k].data.toList (List.mem_map.2 ⟨_, List.getElem_mem hk, rfl⟩)
  rw [h] at this
  cases this

theorem say_good {ss : List ByteArray} (h : ∀ j (hj : j < ss.length), Wd.wordB ss[j].data.toList = true) : Wd.say (ss.map fun x => x.data.toList) = some (Wd.jn (ss.map fun x => x.data.toList)) := by
  unfold Wd.say
  rw [if_pos]
  rw [List.all_eq_true]
  intro x hx
  obtain ⟨y, hy, rfl⟩ := List.mem_map.1 hx
  obtain ⟨j, hj, rfl⟩ := List.getElem_of_mem hy
  exact h j hj

/-- A new row of strings reads as them. -/
theorem rdsS_lit {W : World} {g : Nat} {l : List ByteArray} {t : TypeId} (h : W.heap[g]? = some (.cells (l.map Value.string).toArray t (0, 0))) (hl : l.length ≤ maxLen) : RdsS W (.slice (some ⟨g, 0, none⟩) l.length l.length) l := by
  refine rdsS_mk (Nat.le_refl _) hl (Array.getElem?_eq_some_iff.1 h).1 fun i hi => ?_
  simp [World.cell?, h, hi]

theorem conv_nil (w : World) : (convert 42 9 (.slice none 0 0)).run Tryd.prog w = .ok (.string (Wd.mkB [])) w := by kernel_rfl

theorem conv_own {wr : World} {b m c : Nat} {a : Option Addr} {l : List UInt8} (h : wr.ownsRow b 5 1 (.slice a m c) m (bytesV l)) (hm : m = l.length) : (convert 42 9 (.slice a m c)).run Tryd.prog wr = .ok (.string (Wd.mkB l)) wr := by
  rcases h.2 with ⟨h1, h2⟩ | ⟨g, cap, cur, hv, hg, hh, hn, hc, hs, ht⟩
  · subst h2
    injection h1 with e1 _ e3
    subst e1 e3
    have : l = [] := List.length_eq_zero_iff.1 hm.symm
    subst this
    exact conv_nil wr
  · injection hv with e1 _ e3
    subst e1 e3
    refine bytes_back wr g 0 m _ l hm.symm fun i hi => ?_
    have hlen : (bytesV l).length = l.length := by simp [bytesV]
    have h3 : cur[i]? = some (.int .u8 (l[i].toNat : Int)) := by
      have h4 : (cur.toList.take (m * 1))[i]? = (bytesV l)[i]? := by rw [ht]
      rw [List.getElem?_take_of_lt (by omega), List.getElem?_eq_getElem (l := bytesV l) (by omega)] at h4
      simpa [bytesV] using h4
    simp [World.cell?, hh, h3]

theorem rds_lit1 (W : World) (v : Value) (t : TypeId) : Rds (W.alloc (.cells #[v] t)) (.slice (some ⟨W.heap.size, 0, none⟩) 1 1) [v] :=
  .inr ⟨W.heap.size, 0, 1, rfl, Nat.le_refl _, by unfold maxLen; omega, by simp, fun i hi => by
    have : i = 0 := by simpa using hi
    subst this
    simp [go_sem]⟩

theorem own_step {w w2 w4 : World} {e : TypeId} {k n : Nat} {v : Value} {xs : List Value} (hb : Below w.heap.size w w2) (ho : w2.ownsRow w.heap.size e k v n xs) (hg : w2.grownBy w4 v.ownBlock) : Below w.heap.size w w4 := by
  refine grown_below hb hg hb.size fun j hj => ?_
  rcases ho.2 with ⟨h1, _⟩ | ⟨g, cap, cur, hv, hg, _⟩
  · rw [h1] at hj; cases hj
  · rw [hv] at hj
    injection hj with hj
    have : g = j := hj
    omega

theorem map_take_succ {ss : List ByteArray} {k : Nat} (h : k < ss.length) : (ss.map fun x => x.data.toList).take (k + 1) = (ss.map fun x => x.data.toList).take k ++ [ss[k].data.toList] := by
  rw [List.take_succ_eq_append_getElem (by rw [List.length_map]; exact h), List.getElem_map]

set_option maxHeartbeats 12800000 in
set_option maxRecDepth 20000 in
theorem say_any (v : Value) (ss : List ByteArray) (w : World) (hr : RdsS w v ss) (hm : ∀ x ∈ ss, x.size ≤ 500000) (hl : ss.length ≤ 1000000) :
    Calls Tryd.prog 14 #[v] w (SayPost ss w) := by
  obtain ⟨ad, n, cp, rfl, hn, hnm, hcell⟩ := rdsS_form hr
  have HC := Lib.hid hcell
  obtain ⟨i0, hi, hz0, hz1, hz2⟩ := info_parts infoB
  have HM := Lib.hid hm
  have HN := Lib.hid hn
  have hnl : n ≤ 1000000 := by omega
  clear hr hcell hm hn hnm hl
  go_enter Tryd.func14, Tryd.ntmps14
  go_wp2_with fail
  go_loopw [4, 9] (fun b i wr => ∃ (k m : Nat) (a : Option Addr) (c : Nat), k ≤ n ∧ i = .int .i64 k ∧ b = .slice a m c ∧ m ≤ 600000000000 ∧ Hid (m = (Wd.jn ((ss.map fun x => x.data.toList).take k)).length) ∧ Hid (∀ j (h : j < ss.length), j < k → Wd.wordB ss[j].data.toList = true) ∧
      Hid (wr.ownsRow w.heap.size 5 1 (.slice a m c) m (bytesV (Wd.jn ((ss.map fun x => x.data.toList).take k)))) ∧ Hid (Below w.heap.size w wr)) (fun b i wr => n - (intOf i).toNat)
  case atStart => exact ⟨0, 0, none, 0, Nat.zero_le _, rfl, rfl, Nat.zero_le _, by show _ = _; simp [Wd.jn], fun j h h0 => absurd h0 (Nat.not_lt_zero _), World.ownsRow_nil _ _ _ _, Below.refl _ _⟩
  case round =>
    obtain ⟨k, m, a, c, hk, rfl, rfl, hmm, hml, hall, hown, hbw⟩ := hrel
    by_cases hlt : k < n
    · have hks : k < ss.length := by have := HN.out; omega
      obtain ⟨x, hx⟩ : ∃ x, ss[k] = x := ⟨_, rfl⟩
      obtain ⟨bl, ol, rfl, hbl, hc0⟩ := HC.out k hks
      rw [hx] at hc0
      have hxm : x.size ≤ 500000 := by rw [← hx]; exact HM.out _ (List.getElem_mem hks)
      have c1 := (hbw.out.cell (p := ⟨bl, ol + k, none⟩) hbl).trans hc0
      have hbl1 : bl < wr.heap.size := Nat.lt_of_lt_of_le hbl hbw.out.size
      obtain ⟨W1, hW1⟩ : ∃ W1, W1 = wr.alloc (.cells #[.string x] 9) := ⟨_, rfl⟩
      have hB1 : Below wr.heap.size wr W1 := by rw [hW1]; exact (Below.refl _ _).alloc (Nat.le_refl _) _
      have hrow : W1.heap[wr.heap.size]? = some (.cells #[.string x] 9 (0, 0)) := by rw [hW1]; exact heap_alloc_new _ _
      have hA := alone_any x (.slice (some ⟨wr.heap.size, 0, none⟩) 1 1) [x] W1 (by omega) (rdsS_lit (l := [x]) hrow (by unfold maxLen; simp))
      have hal : Wd.aloneB x.data.toList [x] = Wd.wordB x.data.toList := by
        have := Wd.alone_one x.data.toList
        rwa [Wd.mkB_of] at this
      rw [hal] at hA
      obtain ⟨q, hq⟩ : ∃ q, Wd.wordB x.data.toList = q := ⟨_, rfl⟩
      rw [hq] at hA
      have HA := Lib.hid hA
      have HW1 := Lib.hid hW1
      have HB1 := Lib.hid hB1
      have HQ := Lib.hid hq
      have HX := Lib.hid hx
      have hkz : (k : Int) < (n : Int) := by omega
      clear hA hW1 hB1 hrow hal hq hc0 hx
      cases q with
      | false =>
        have HG : Hid (Wd.say (ss.map fun x => x.data.toList) = none) := say_bad hks (by rw [HX.out]; exact HQ.out)
        go_wp2_with fail
        rw [← HW1.out]
        refine HA.out.mono ?_
        rintro e w2 ⟨rfl, hb2⟩
        have HB2 := Lib.hid hb2
        clear hb2
        go_wp2_with fail
        go_ret2
        unfold SayPost
        rw [HG.out]
        exact ⟨rfl, hbw.out.trans ((HB1.out.trans (HB2.out.mono HB1.out.size)).mono hbw.out.size)⟩
      | true =>
        go_wp2_with fail
        rw [← HW1.out]
        refine HA.out.mono ?_
        rintro e w2 ⟨rfl, hb2⟩
        have HB2 : Hid (Below wr.heap.size wr w2) := HB1.out.trans (hb2.mono HB1.out.size)
        have HO2 : Hid (w2.ownsRow w.heap.size 5 1 (.slice a m c) m (bytesV (Wd.jn ((ss.map fun x => x.data.toList).take k)))) := ownsRow_below hown.out HB2.out
        have HBw2 : Hid (Below w.heap.size w w2) := hbw.out.trans (HB2.out.mono hbw.out.size)
        clear hb2
        have HAll : Hid (∀ j (h : j < ss.length), j < k + 1 → Wd.wordB ss[j].data.toList = true) := fun j h h1 => by
          by_cases hj : j = k
          · subst hj; rw [HX.out]; exact HQ.out
          · exact hall.out j h (by omega)
        have HLen : Hid ((Wd.jn ((ss.map fun x => x.data.toList).take (k + 1))).length ≤ 600000000000) := by
          have h1 := Wd.jn_len 500000 ((ss.map fun x => x.data.toList).take (k + 1)) (fun y hy => by
            obtain ⟨z, hz, rfl⟩ := List.mem_map.1 (List.mem_of_mem_take hy)
            rw [← Lib.size_eq]; exact HM.out z hz)
          have h2 : ((ss.map fun x => x.data.toList).take (k + 1)).length ≤ 1000000 := by rw [List.length_take]; omega
          have h3 := Nat.mul_le_mul_right (500000 + 1) h2
          show _ ≤ _
          omega
        by_cases hk0 : k = 0
        · have HT : Hid (Wd.jn ((ss.map fun x => x.data.toList).take k) ++ x.data.toList = Wd.jn ((ss.map fun x => x.data.toList).take (k + 1))) := by
            show _ = _
            subst hk0
            rw [map_take_succ hks, HX.out]
            simp [Wd.jn]
          have HLn : Hid (m + x.size = (Wd.jn ((ss.map fun x => x.data.toList).take (k + 1))).length) := by
            show _ = _
            rw [← HT.out, List.length_append, ← hml.out, ← Lib.size_eq]
          subst hk0
          go_wp2_with fail
          go_quiet (fail)
          go_wp2_with (at_builtin; refine Lib.wpList_append_own_string _ rfl (.tmp 42) (.tmp 43) 42 9 rfl w.heap.size 5 i0 Tryd.underlying42 Tryd.underlying9 hi hz0 hz1 hz2 (.slice a m c) (m) (bytesV (Wd.jn ((ss.map fun x => x.data.toList).take 0))) (by rfl) (by first | exact HO2.out | exact ownsRow_drewN HO2.out _) x (by rfl) (by unfold maxLen; omega) (by omega) (by first | exact HBw2.out.size | exact (below_dN HBw2.out _).size) ?_; intro v' w8 ho8 hg8 _; have HO8 := Lib.hid ho8; have HG8 := Lib.hid hg8; clear ho8 hg8; obtain ⟨a8, c8, rfl⟩ := ownsRow_form HO8.out)
          have HB8 : Hid (Below w.heap.size w w8) := by first | exact own_step HBw2.out HO2.out HG8.out | exact own_step (below_dN HBw2.out _) (ownsRow_drewN HO2.out _) HG8.out
          have HO9 : Hid (w8.ownsRow w.heap.size 5 1 (.slice a8 (m + x.size) c8) (m + x.size) (bytesV (Wd.jn ((ss.map fun x => x.data.toList).take (0 + 1))))) := by
            have := HO8.out
            rw [strCells_eq, ← bytesV_append, HT.out] at this
            exact this
          go_wp2_with fail
          go_roundw
          case rel => exact ⟨0 + 1, m + x.size, a8, c8, hlt, by go_num, rfl, by have := HLen.out; have := HLn.out; omega, by show _ = _; exact HLn.out, HAll.out, HO9, HB8⟩
          case measure => simp [intOf]; omega
        · obtain ⟨p, hp⟩ : ∃ p : Nat, k = p + 1 := ⟨k - 1, by omega⟩
          have hps : p < ss.length := by omega
          obtain ⟨y, hy⟩ : ∃ y, ss[p] = y := ⟨_, rfl⟩
          obtain ⟨b2, o2, e2, hb2l, hc2⟩ := HC.out p hps
          injection e2 with e2
          injection e2 with e3 e4 _
          subst e3 e4
          rw [hy] at hc2
          have c9 := (HBw2.out.cell (p := ⟨bl, ol + p, none⟩) hbl).trans hc2
          have hym : y.size ≤ 500000 := by rw [← hy]; exact HM.out _ (List.getElem_mem hps)
          have hwy : Wd.wordB y.data.toList = true := by rw [← hy]; exact hall.out p hps (by omega)
          have hAl2 : ∀ W, W.heap[w2.heap.size]? = some (.cells #[.string y, .string x] 9 (0, 0)) → Calls Tryd.prog 26 #[.string (y ++ x), .slice (some ⟨w2.heap.size, 0, none⟩) 2 2] W fun e w' => e = .returned (.bool (!Wd.gluedB y.data.toList x.data.toList)) ∧ Below W.heap.size W w' := fun W hW => by
            have := alone_any (y ++ x) (.slice (some ⟨w2.heap.size, 0, none⟩) 2 2) [y, x] W (by rw [ByteArray.size_append]; omega) (rdsS_lit (l := [y, x]) hW (by unfold maxLen; simp))
            have ha := Wd.alone_two hwy HQ.out
            rw [Wd.mkB_of, Wd.mkB_of, ← Joins.data_append] at ha
            rwa [ha] at this
          obtain ⟨q, hq⟩ : ∃ q, Wd.gluedB y.data.toList x.data.toList = q := ⟨_, rfl⟩
          rw [hq] at hAl2
          have HA2 := Lib.hid hAl2
          have hT : Wd.jn ((ss.map fun x => x.data.toList).take (k + 1)) = Wd.jn ((ss.map fun x => x.data.toList).take k) ++ ((if q then [32] else []) ++ x.data.toList) := by
            rw [map_take_succ hks, HX.out, ← hq]
            have : (ss.map fun x => x.data.toList).take k = (ss.map fun x => x.data.toList).take p ++ [y.data.toList] := by
              subst hp
              rw [map_take_succ hps, hy]
            rw [this]
            exact Wd.jn_snoc _ _ _
          have HTT := Lib.hid hT
          have hw1 : IntKind.i64.wrap ((k : Int) - 1) = (p : Int) := by
            have : (k : Int) - 1 = (p : Int) := by omega
            rw [this]; exact IntWalk.i64_in _ (by omega)
          have hp0 : (0 : Int) ≤ (p : Int) := by omega
          have hp1 : (p : Int) < (n : Int) := by omega
          have hp2 : (k : Int) - 1 = (p : Int) := by omega
          have hw2 : IntKind.i64.wrap (p : Int) = (p : Int) := IntWalk.i64_in _ (by omega)
          have hpn : p < n := by omega
          have hkg : (0 : Int) < (k : Int) := by omega
          have hkg2 : 0 < k := by omega
          have hsum : ¬ (9223372036854775807 < y.size + x.size) := by omega
          have HP := Lib.hid hp
          have hbl2 : bl < w2.heap.size := Nat.lt_of_lt_of_le hbl HBw2.out.size
          clear hq hT hAl2 hwy hy hc2 hb2l hp hk0
          go_wp2_with fail
          go_region_held3 (fun W => W.cell? ⟨bl, ol + p, none⟩ = some (.string y)) (first | exact c9 | exact k9 | go_keep)
            (first | (go_at_call 26; refine (HA2.out _ (by exact heap_alloc_new w2 _)).mono ?_; rintro _ w5 ⟨rfl, hb5⟩; have k9 := (hb5.cell (p := ⟨bl, ol + p, none⟩) (by simp; omega)).trans (show _ = some (Value.string y) by go_keep); have HB5 := Lib.hid hb5; clear hb5))
          have HB25 : Hid (Below w2.heap.size w2 w5) := (((Below.refl w2.heap.size w2).alloc (Nat.le_refl _) (.cells #[.string y, .string x] 9)).drew).trans (HB5.out.mono (by simp))
          have HO5 : Hid (w5.ownsRow w.heap.size 5 1 (.slice a m c) m (bytesV (Wd.jn ((ss.map fun x => x.data.toList).take k)))) := ownsRow_below HO2.out HB25.out
          have HBw5 : Hid (Below w.heap.size w w5) := HBw2.out.trans (HB25.out.mono HBw2.out.size)
          clear hw1 hw2 hp0 hp1 hp2 hpn hkg hkg2 hsum c9 k9
          cases q with
          | false =>
            have HT : Hid (Wd.jn ((ss.map fun x => x.data.toList).take k) ++ x.data.toList = Wd.jn ((ss.map fun x => x.data.toList).take (k + 1))) := by
              show _ = _
              rw [HTT.out]; simp
            have HLn : Hid (m + x.size = (Wd.jn ((ss.map fun x => x.data.toList).take (k + 1))).length) := by
              show _ = _
              rw [← HT.out, List.length_append, ← hml.out, ← Lib.size_eq]
            go_wp2_with (at_builtin; refine Lib.wpList_append_own_string _ rfl (.tmp 42) (.tmp 43) 42 9 rfl w.heap.size 5 i0 Tryd.underlying42 Tryd.underlying9 hi hz0 hz1 hz2 (.slice a m c) (m) (bytesV (Wd.jn ((ss.map fun x => x.data.toList).take k))) (by rfl) HO5.out x (by rfl) (by unfold maxLen; omega) (by omega) HBw5.out.size ?_; intro v' w8 ho8 hg8 _; have HO8 := Lib.hid ho8; have HG8 := Lib.hid hg8; clear ho8 hg8; obtain ⟨a8, c8, rfl⟩ := ownsRow_form HO8.out)
            have HB8 : Hid (Below w.heap.size w w8) := own_step HBw5.out HO5.out HG8.out
            have HO9 : Hid (w8.ownsRow w.heap.size 5 1 (.slice a8 (m + x.size) c8) (m + x.size) (bytesV (Wd.jn ((ss.map fun x => x.data.toList).take (k + 1))))) := by
              have := HO8.out
              rw [strCells_eq, ← bytesV_append, HT.out] at this
              exact this
            go_wp2_with fail
            go_roundw
            case rel => exact ⟨k + 1, m + x.size, a8, c8, hlt, by go_num, rfl, by have := HLen.out; have := HLn.out; omega, by show _ = _; exact HLn.out, HAll.out, HO9, HB8⟩
            case measure => simp [intOf]; omega
          | true =>
            have HT : Hid ((Wd.jn ((ss.map fun x => x.data.toList).take k) ++ [32]) ++ x.data.toList = Wd.jn ((ss.map fun x => x.data.toList).take (k + 1))) := by
              show _ = _
              rw [HTT.out]; simp
            have HLn : Hid (m + 1 + x.size = (Wd.jn ((ss.map fun x => x.data.toList).take (k + 1))).length) := by
              show _ = _
              rw [← HT.out, List.length_append, List.length_append, ← hml.out, ← Lib.size_eq]
              rfl
            have hmm7 : m + 1 ≤ 600000000001 := by omega
            go_wp2_with (at_builtin; first | (refine wpList_append_rds rfl (.tmp 39) (.tmp 40) 42 rfl w.heap.size 5 i0 _ 1 Tryd.underlying42 hi hz0 hz1 hz2 rfl (.slice a m c) m (bytesV (Wd.jn ((ss.map fun x => x.data.toList).take k))) (by rfl) (HO5.out.alloc _) (.slice (some ⟨w5.heap.size, 0, none⟩) 1 1) [.int .u8 32] (by rfl) (rds_lit1 w5 (.int .u8 32) 5) (by simp [Value.oneCell']) (m + 1) rfl (by unfold maxLen; omega) (by omega) (by have := HBw5.out.size; simp; omega) ?_; intro a7 c7 w7 ho7 hg7; have HO7a := Lib.hid ho7; have HG7 := Lib.hid hg7; clear ho7 hg7; have HBw7 : Hid (Below w.heap.size w w7) := own_step (HBw5.out.alloc HBw5.out.size _) (HO5.out.alloc _) HG7.out; have HO7 : Hid (w7.ownsRow w.heap.size 5 1 (.slice a7 (m + 1) c7) (m + 1) (bytesV (Wd.jn ((ss.map fun x => x.data.toList).take k) ++ [32]))) := (by rw [bytesV_append]; exact HO7a.out)) | (refine Lib.wpList_append_own_string _ rfl (.tmp 42) (.tmp 43) 42 9 rfl w.heap.size 5 i0 Tryd.underlying42 Tryd.underlying9 hi hz0 hz1 hz2 (.slice a7 (m + 1) c7) ((m + 1)) (bytesV (Wd.jn ((ss.map fun x => x.data.toList).take k) ++ [32])) (by rfl) HO7.out x (by rfl) (by unfold maxLen; omega) (by omega) HBw7.out.size ?_; intro v' w8 ho8 hg8 _; have HO8 := Lib.hid ho8; have HG8 := Lib.hid hg8; clear ho8 hg8; obtain ⟨a8, c8, rfl⟩ := ownsRow_form HO8.out))
            have HB8 : Hid (Below w.heap.size w w8) := own_step HBw7.out HO7.out HG8.out
            have HO9 : Hid (w8.ownsRow w.heap.size 5 1 (.slice a8 ((m + 1) + x.size) c8) ((m + 1) + x.size) (bytesV (Wd.jn ((ss.map fun x => x.data.toList).take (k + 1))))) := by
              have := HO8.out
              rw [strCells_eq, ← bytesV_append, HT.out] at this
              exact this
            go_wp2_with fail
            go_roundw
            case rel => exact ⟨k + 1, m + 1 + x.size, a8, c8, hlt, by go_num, rfl, by have := HLen.out; have := HLn.out; omega, by show _ = _; exact HLn.out, HAll.out, HO9, HB8⟩
            case measure => simp [intOf]; omega
    · have hkn : k = n := by omega
      subst hkn
      have HG : Hid (Wd.say (ss.map fun x => x.data.toList) = some (Wd.jn (ss.map fun x => x.data.toList))) := say_good fun j hj => hall.out j hj (by have := HN.out; omega)
      have HO : Hid (wr.ownsRow w.heap.size 5 1 (.slice a m c) m (bytesV (Wd.jn (ss.map fun x => x.data.toList)))) := by
        have := hown.out
        rw [List.take_of_length_le (by rw [List.length_map]; have := HN.out; omega)] at this
        exact this
      have hkz : decide ((k : Int) < (k : Int)) = false := by simp
      have hconv := conv_own HO.out (by
        have := hml.out
        rw [List.take_of_length_le (by rw [List.length_map]; have := HN.out; omega)] at this
        exact this)
      go_wp2_with fail
      go_ret2
      unfold SayPost
      rw [HG.out]
      exact ⟨rfl, hbw.out⟩
end Go.Proofs.YtfnfmkejkgiclaaDoor
