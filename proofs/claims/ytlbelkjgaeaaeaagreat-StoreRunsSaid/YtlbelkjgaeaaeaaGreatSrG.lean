/-
  Walks: slices.Equal and the reference's Texts, Same at any two rows.
-/
import Derived.Test.YtlbelkjgaeaaeaaGreatRulH
import Derived.Test.YtlbelkjgaeaaeaaGreatCubeRD
import Derived.Test.YtlbelkjgaeaaeaaGreatSrC
import Derived.Test.YtlbelkjgaeaaeaaGreatSrD
import Derived.Test.YtlbelkjgaeaaeaaGreatSrE
import Derived.BigQuiet
import Derived.Deep.RegionHeld3
namespace Go.Proofs.YtlbelkjgaeaaeaaGreat
open Go.RowKit Go.Shelf Go.Lib Go.Sort
set_option linter.unusedVariables false
set_option linter.unusedSectionVars false
set_option linter.unusedSimpArgs false

theorem strNe {a b : ByteArray} (h : ¬ a = b) : (a.toList == b.toList) = false := by
  rw [str_beq]
  have : (a.data.toList == b.data.toList) = false := by
    rw [Bool.eq_false_iff]
    intro e
    have e2 := eq_of_beq e
    apply h
    cases a; cases b
    simp at e2
    simp [e2]
  rw [this]

theorem strsEq_false {l m : List ByteArray} {i : Nat} (h1 : i < l.length) (h2 : i < m.length) (h : ¬ l[i] = m[i]) : decide (l = m) = false := by
  rw [decide_eq_false_iff_not]
  rintro rfl
  exact h rfl

set_option maxHeartbeats 800000 in
set_option maxRecDepth 20000 in
theorem Equal_any (l m : List ByteArray) (v1 v2 : Value) (w : World) (h1 : RdsS w v1 l) (h2 : RdsS w v2 m) :
    Calls Tryz.prog 36 #[v1, v2] w fun e w' => e = .returned (.bool (decide (l = m))) ∧ ∃ k, w' = w.drewN k := by
  obtain ⟨a1, n1, c1, rfl, hl1, hm1, hc1⟩ := rdsS_form h1
  obtain ⟨a2, n2, c2, rfl, hl2, hm2, hc2⟩ := rdsS_form h2
  unfold maxLen at hm1 hm2
  by_cases hn : n1 = n2
  · subst hn
    have HL1 := Lib.hid hl1
    have HL2 := Lib.hid hl2
    have HC1 := Lib.hid hc1
    have HC2 := Lib.hid hc2
    clear h1 h2 hl1 hl2 hc1 hc2
    go_enter Tryz.func36, Tryz.ntmps36
    go_wp2_with fail
    go_loopw [13] (fun k wr => ∃ n : Nat, n ≤ n1 ∧ k = .int .i64 n ∧ (∃ q, wr = w.drewN q) ∧ Hid (∀ j, j < n → l[j]? = m[j]?)) (fun k _ => n1 - (intOf k).toNat)
    case atStart => exact ⟨0, Nat.zero_le _, rfl, ⟨0, rfl⟩, fun j h => absurd h (Nat.not_lt_zero _)⟩
    case round =>
      obtain ⟨n, hnn, rfl, ⟨q, rfl⟩, HE⟩ := hrel
      by_cases hlt : n < n1
      · have q1 : n < l.length := by rw [← HL1.out]; exact hlt
        have q2 : n < m.length := by rw [← HL2.out]; exact hlt
        obtain ⟨b1, o1, rfl, _, hcell1⟩ := HC1.out n q1
        obtain ⟨b2, o2, rfl, _, hcell2⟩ := HC2.out n q2
        have hi0 : (0 : Int) ≤ (n : Int) := by omega
        have hi1 : (n : Int) < (n1 : Int) := by omega
        by_cases he : l[n] = m[n]
        · have hne : (l[n].toList == m[n].toList) = true := by rw [he]; simp
          have HE2 : Hid (∀ j, j < n + 1 → l[j]? = m[j]?) := fun j hj => by
            by_cases hjn : j = n
            · subst hjn
              rw [List.getElem?_eq_getElem q1, List.getElem?_eq_getElem q2, he]
            · exact HE.out j (by omega)
          clear he
          go_wp2_with fail
          go_quiet (fail)
          go_wp2_with fail
          go_roundw
          case rel => exact ⟨n + 1, by omega, by go_num, ⟨_, rfl⟩, HE2⟩
          case measure => simp [intOf]; omega
        · have hne := strNe he
          have hF := strsEq_false q1 q2 he
          clear he
          go_wp2_with fail
          go_quiet (fail)
          go_wp2_with fail
          go_ret
          exact ⟨by rw [hF]; rfl, q + nq, by first | rfl | simp⟩
      · have hF : l = m := by
          refine List.ext_getElem? fun j => ?_
          by_cases hj : j < n
          · exact HE.out j hj
          · rw [List.getElem?_eq_none (by have := HL1.out; omega), List.getElem?_eq_none (by have := HL2.out; omega)]
        have HF := Lib.hid hF
        clear hF
        go_wp2_with fail
        go_ret
        exact ⟨by rw [decide_eq_true HF.out]; rfl, _, rfl⟩
  · have hF : decide (l = m) = false := by
      rw [decide_eq_false_iff_not]
      rintro rfl
      omega
    have hnz : ((n1 : Int) != (n2 : Int)) = true := by simp; omega
    clear h1 h2 hc1 hc2 hl1 hl2
    go_enter Tryz.func36, Tryz.ntmps36
    go_wp2_with fail
    go_ret
    exact ⟨by rw [hF]; rfl, 0, rfl⟩

set_option maxHeartbeats 800000 in
set_option maxRecDepth 20000 in
theorem Texts_all (l m : List ByteArray) (v1 v2 : Value) (w : World) (h1 : RdsS w v1 l) (h2 : RdsS w v2 m) :
    Calls Tryz.prog 38 #[v1, v2] w fun e w' => e = .returned (.bool (decide (l = m))) ∧ ∃ k, w' = w.drewN k := by
  obtain ⟨a1, n1, c1, rfl, hl1, hm1, hc1⟩ := rdsS_form h1
  obtain ⟨a2, n2, c2, rfl, hl2, hm2, hc2⟩ := rdsS_form h2
  unfold maxLen at hm1 hm2
  by_cases hn : n1 = n2
  · subst hn
    have HL1 := Lib.hid hl1
    have HL2 := Lib.hid hl2
    have HC1 := Lib.hid hc1
    have HC2 := Lib.hid hc2
    clear h1 h2 hl1 hl2 hc1 hc2
    go_enter Tryz.func38, Tryz.ntmps38
    go_wp2_with fail
    go_loopw [5] (fun k wr => ∃ n : Nat, n ≤ n1 ∧ k = .int .i64 n ∧ (∃ q, wr = w.drewN q) ∧ Hid (∀ j, j < n → l[j]? = m[j]?)) (fun k _ => n1 - (intOf k).toNat)
    case atStart => exact ⟨0, Nat.zero_le _, rfl, ⟨0, rfl⟩, fun j h => absurd h (Nat.not_lt_zero _)⟩
    case round =>
      obtain ⟨n, hnn, rfl, ⟨q, rfl⟩, HE⟩ := hrel
      by_cases hlt : n < n1
      · have q1 : n < l.length := by rw [← HL1.out]; exact hlt
        have q2 : n < m.length := by rw [← HL2.out]; exact hlt
        obtain ⟨b1, o1, rfl, _, hcell1⟩ := HC1.out n q1
        obtain ⟨b2, o2, rfl, _, hcell2⟩ := HC2.out n q2
        have hi0 : (0 : Int) ≤ (n : Int) := by omega
        have hi1 : (n : Int) < (n1 : Int) := by omega
        by_cases he : l[n] = m[n]
        · have hne : (l[n].toList == m[n].toList) = true := by rw [he]; simp
          have HE2 : Hid (∀ j, j < n + 1 → l[j]? = m[j]?) := fun j hj => by
            by_cases hjn : j = n
            · subst hjn
              rw [List.getElem?_eq_getElem q1, List.getElem?_eq_getElem q2, he]
            · exact HE.out j (by omega)
          clear he
          go_wp2_with fail
          go_quiet (fail)
          go_wp2_with fail
          go_roundw
          case rel => exact ⟨n + 1, by omega, by go_num, ⟨_, rfl⟩, HE2⟩
          case measure => simp [intOf]; omega
        · have hne := strNe he
          have hF := strsEq_false q1 q2 he
          clear he
          go_wp2_with fail
          go_quiet (fail)
          go_wp2_with fail
          go_ret
          exact ⟨by rw [hF]; rfl, q + nq, by first | rfl | simp⟩
      · have hF : l = m := by
          refine List.ext_getElem? fun j => ?_
          by_cases hj : j < n
          · exact HE.out j hj
          · rw [List.getElem?_eq_none (by have := HL1.out; omega), List.getElem?_eq_none (by have := HL2.out; omega)]
        have HF := Lib.hid hF
        clear hF
        go_wp2_with fail
        go_ret
        exact ⟨by rw [decide_eq_true HF.out]; rfl, _, rfl⟩
  · have hF : decide (l = m) = false := by
      rw [decide_eq_false_iff_not]
      rintro rfl
      omega
    have hnz : ((n1 : Int) != (n2 : Int)) = true := by simp; omega
    clear h1 h2 hc1 hc2 hl1 hl2
    go_enter Tryz.func38, Tryz.ntmps38
    go_wp2_with fail
    go_ret
    exact ⟨by rw [hF]; rfl, 0, rfl⟩

set_option maxHeartbeats 800000 in
set_option maxRecDepth 20000 in
theorem same_all (k k2 : Int) (a a2 : Option Addr) (n n2 c c2 : Nat) (ps qs : List ByteArray) (w : World) (h1 : RdsS w (.slice a n c) ps) (h2 : RdsS w (.slice a2 n2 c2) qs) :
    Calls Tryz.prog 26 #[.agg #[.int .i64 k, .slice a n c], .agg #[.int .i64 k2, .slice a2 n2 c2]] w fun e w' => e = .returned (.bool (k == k2 && decide (ps = qs))) ∧ Below w.heap.size w w' := by
  obtain ⟨W2, hW2⟩ : ∃ W2, W2 = (w.alloc (.cells #[.int .i64 k, .slice a n c] 60)).alloc (.cells #[.int .i64 k2, .slice a2 n2 c2] 60) := ⟨_, rfl⟩
  have HG : Hid (Grn w W2) := by rw [hW2]; exact ((Grn.refl w).alloc _).alloc _
  have HT := Lib.hid (Texts_all _ _ _ _ _ (h1.below HG.out.below) (h2.below HG.out.below))
  rw [hW2] at HT HG
  clear hW2 h1 h2
  by_cases hk : k = k2
  · subst hk
    go_enter Tryz.func26, Tryz.ntmps26
    go_wp2_with fail
    refine HT.out.mono ?_
    rintro e w1 ⟨rfl, hd⟩
    have HG1 : Hid (Grn w w1) := HG.out.trans ((by obtain ⟨k, rfl⟩ := hd; exact (Grn.refl _).drewN k))
    clear hd
    go_wp2_with fail
    go_ret
    exact ⟨by rw [beq_self_eq_true, Bool.true_and]; rfl, HG1.out.below⟩
  · have hkb : (k == k2) = false := by simpa using hk
    go_enter Tryz.func26, Tryz.ntmps26
    go_wp2_with fail
    go_ret
    exact ⟨by rw [hkb]; rfl, HG.out.below⟩
end Go.Proofs.YtlbelkjgaeaaeaaGreat
/-
  Walks: store.does.
-/
namespace Go.Proofs.YtlbelkjgaeaaeaaGreat
open Go.RowKit Go.Shelf Go.Lib Go.Sort
set_option linter.unusedVariables false
set_option linter.unusedSectionVars false
set_option linter.unusedSimpArgs false

theorem wp_app_chM {w : World} {o : Oper} {a : Act} {K : Act → World → Prop} {Q : Exit → Act → World → Prop} (hgd : o.guard = none) (P : Nat → Prop) (s x : Operand)
    (ho : o.op = .call { callee := .builtin .append, args := #[s, x], argTypes := #[32, 32] })
    (base : Nat) (v : Value) (xs : List (Int × RC)) (L : List (Int × Rl)) (hs : a.eval s = v) (h1 : OwnCh P w base v xs L)
    (g0 c : Nat) (k : Int) (y : RC) (r : Rl) (hx : a.eval x = .slice (some ⟨g0, 0, none⟩) 1 c) (hyc : w.heap[g0]? = some (.cells #[.int .i64 k, .int .i64 y.p, .string y.m, .int .i64 y.k, .slice y.a y.n y.c] 64 (0, 0)))
    (hyr : RdC (okP P v) w y r) (tot : Nat) (htot : L.length + 1 = tot) (hbytes : tot * 64 ≤ 140737488355328) (hbase : base ≤ w.heap.size)
    (h : ∀ ad cap w', OwnCh P w' base (.slice ad tot cap) (xs ++ [(k, y)]) (L ++ [(k, r)]) → w.grownBy w' v.ownBlock → K (a.put o.dst (.slice ad tot cap)) w') : Oper.wp Tryz.prog o a w K Q := by
  have h0 := step_app_ch (ops := #[]) (E := False) (Q := Q) hgd P s x ho base v xs L hs h1 g0 c k y r hx hyc hyr tot htot hbytes hbase h
  rwa [if_pos (by simp [Region.wanted, hgd])] at h0

theorem res_does (w : World) (b : Nat) (tmps : Array Value) (k : Int) (a : Option Addr) (n c : Nat) (h6 : tmps.getD 6 undef = .pointer (some ⟨b, 0, none⟩)) (h0 : w.cell? ⟨b, 0, none⟩ = some (.int .i64 k)) (h1 : w.cell? ⟨b, 1, none⟩ = some (.slice a n c)) :
    (results Tryz.f34 tmps).run Tryz.prog w = .ok (.agg #[.int .i64 k, .slice a n c]) w := by
  rw [Array.getD_eq_getD_getElem?] at h6
  simp [results, Tryz.results34, h6, loadVar, asAddr, go_sem, Tryz.isAgg60, Tryz.sizeOf60, h0, h1]

/-- A row of rules as Inserts. -/
abbrev insL (R : List Rl) : List (Int × Rl) := R.map fun r => (1, r)

set_option maxHeartbeats 3200000 in
set_option maxRecDepth 20000 in
theorem does_any (ok : Nat → Prop) (W : Int) (rv : Value) (R : List Rl) (s : ByteArray) (w : World) (hr : RdsR ok w rv R) (hO : Fb.Ok W R) (h1 : 1 ≤ W) (h2 : W ≤ 128) (hs : s.size ≤ maxLen) :
    Calls Tryz.prog 34 #[.int .i64 W, rv, .string s] w fun e w' => ∃ a n c, e = .returned (.agg #[.int .i64 (Fb.lookS R W s).1, .slice a n c]) ∧ RdsO (fun b => w.heap.size ≤ b) w' (.slice a n c) (Fb.lookS R W s).2.1 ∧ Below w.heap.size w w' := by
  have HR := Lib.hid hr
  have HO := Lib.hid hO
  have HNw := Lib.hid (fun w => new_ok W w h1 h2)
  have HTn := Lib.hid (fun w => tab_new w W h1 h2)
  have HSs := Lib.hid hs
  obtain ⟨ad0, cap0, rfl, hnc, hcm⟩ := hr.form
  obtain ⟨n, hn⟩ : ∃ n, n = R.length := ⟨_, rfl⟩
  have HN := Lib.hid hn
  have hn4 : n ≤ 4096 := by rw [hn]; exact hO.few
  rw [← hn] at HR ⊢
  obtain ⟨W0, hW0⟩ : ∃ W0, W0 = w.alloc (.cells #[.int .i64 0, .slice none 0 0] 60) := ⟨_, rfl⟩
  have hb0 : Below w.heap.size w W0 := by rw [hW0]; exact (Below.refl _ _).alloc (Nat.le_refl _) _
  have hs0 : W0.heap.size = w.heap.size + 1 := by rw [hW0]; simp
  have hh0 : W0.heap[w.heap.size]? = some (.cells #[.int .i64 0, .slice none 0 0] 60 (0, 0)) := by rw [hW0]; exact heap_alloc_new _ _
  have HB0 := Lib.hid hb0
  have HS0 := Lib.hid hs0
  have HH0 := Lib.hid hh0
  have HW0 := Lib.hid hW0
  clear hr hO h1 h2 hs hn hnc hcm hb0 hs0 hh0 hW0
  go_enter Tryz.func34, Tryz.ntmps34
  go_upto_region 1 with fail
  rw [← HW0.out]
  clear HW0
  go_wp2_with fail
  refine (HNw.out _).mono ?_
  rintro e w1 ⟨rfl, hw1⟩
  have hT1 := HTn.out W0
  rw [← hw1] at hT1
  have hb1 : Below W0.heap.size W0 w1 := by rw [hw1]; exact (Below.refl _ _).alloc (Nat.le_refl _) _
  have hs1 : w1.heap.size = w.heap.size + 2 := by rw [hw1]; simp [HS0.out]
  rw [HS0.out] at hT1 hb1
  rw [HS0.out]
  have HT1 := Lib.hid hT1
  have HB1 : Hid (Below w.heap.size w w1) := HB0.out.trans (hb1.mono (by omega))
  have HH1 : Hid (w1.heap[w.heap.size]? = some (.cells #[.int .i64 0, .slice none 0 0] 60 (0, 0))) := (hb1.block _ (by omega)).trans HH0.out
  have HS1 := Lib.hid hs1
  clear hw1 hT1 hb1 hs1 HH0 HB0
  go_wp2_with fail
  go_loopw [9, 21] (fun s9 s21 wr => ∃ (i : Nat) (ad : Option Addr) (c : Nat) (xs : List (Int × RC)), s21 = .int .i64 i ∧ s9 = .slice ad i c ∧ i ≤ n ∧ Hid (xs.length = i) ∧ Hid (OwnCh (fun _ => True) wr w1.heap.size (.slice ad i c) xs (insL (R.take i))) ∧ Hid (Below w1.heap.size w1 wr)) (fun _ s21 _ => n - (intOf s21).toNat)
  case atStart => exact ⟨0, none, 0, [], rfl, rfl, Nat.zero_le _, rfl, ownCh_nil _ _ _, Below.refl _ _⟩
  case round =>
    obtain ⟨wo, rfl⟩ : ∃ wo : World, wo = wr := ⟨wr, rfl⟩
    obtain ⟨i, ad, c, xs, rfl, rfl, hin, HXl, HOc, HB⟩ := hrel
    have hbw : Below w.heap.size w wo := HB1.out.trans (HB.out.mono (by have := HS1.out; omega))
    by_cases hlt : i < n
    · have hiL : i < R.length := by rw [← HN.out]; exact hlt
      obtain ⟨b, off, x, rfl, hb, _, x0, x1, x2, x3, hx⟩ := HR.out.get i hiL
      have X0 := (hbw.cell (p := ⟨b, off + i * 4, none⟩) hb).trans x0
      have X1 := (hbw.cell (p := ⟨b, off + i * 4 + 1, none⟩) hb).trans x1
      have X2 := (hbw.cell (p := ⟨b, off + i * 4 + 2, none⟩) hb).trans x2
      have X3 := (hbw.cell (p := ⟨b, off + i * 4 + 3, none⟩) hb).trans x3
      obtain ⟨r, hrr⟩ : ∃ r, R[i] = r := ⟨_, rfl⟩
      rw [hrr] at hx
      obtain ⟨W2, hW2⟩ : ∃ W2, W2 = wo.alloc (.cells #[.int .i64 x.p, .string x.m, .int .i64 x.k, .slice x.a x.n x.c] 62) := ⟨_, rfl⟩
      have hg2 : Grn wo W2 := by rw [hW2]; exact (Grn.refl _).alloc _
      have hh2 : W2.heap[wo.heap.size]? = some (.cells #[.int .i64 x.p, .string x.m, .int .i64 x.k, .slice x.a x.n x.c] 62 (0, 0)) := by rw [hW2]; exact heap_alloc_new _ _
      have hw2s : W2.heap.size = wo.heap.size + 1 := by rw [hW2]; simp
      have z0 : W2.cell? ⟨wo.heap.size, 0, none⟩ = some (.int .i64 x.p) := by simp [World.cell?, hh2]
      have z1 : W2.cell? ⟨wo.heap.size, 1, none⟩ = some (.string x.m) := by simp [World.cell?, hh2]
      have z2 : W2.cell? ⟨wo.heap.size, 2, none⟩ = some (.int .i64 x.k) := by simp [World.cell?, hh2]
      have z3 : W2.cell? ⟨wo.heap.size, 3, none⟩ = some (.slice x.a x.n x.c) := by simp [World.cell?, hh2]
      obtain ⟨W3, hW3⟩ : ∃ W3, W3 = W2.alloc (.cells #[.int .i64 1, .int .i64 x.p, .string x.m, .int .i64 x.k, .slice x.a x.n x.c] 64) := ⟨_, rfl⟩
      have hb2 : Below wo.heap.size wo W3 := by rw [hW3]; exact hg2.below.alloc (by omega) _
      have hh3 : W3.heap[W2.heap.size]? = some (.cells #[.int .i64 1, .int .i64 x.p, .string x.m, .int .i64 x.k, .slice x.a x.n x.c] 64 (0, 0)) := by rw [hW3]; exact heap_alloc_new _ _
      have hw3s : W3.heap.size = wo.heap.size + 2 := by rw [hW3]; simp [hw2s]
      have hsz : w1.heap.size ≤ wo.heap.size := HB.out.size
      have HOc3 := Lib.hid (HOc.out.below hb2)
      have HX3 : Hid (RdC (okP (fun _ => True) (.slice ad i c)) W3 x r) := by
        refine ((hx.lt.below hbw).below hb2).mono fun b hb => ⟨trivial, fun e => ?_⟩
        have h3 := (HOc.out.row.lt b e).1
        have h4 := HS1.out
        have h5 := hb.2
        omega
      have HF : Hid (insL (R.take i) ++ [(1, r)] = insL (R.take (i + 1))) := by show _ = _; rw [List.take_succ_eq_append_getElem hiL, hrr]; simp [insL]
      have HTl : Hid ((insL (R.take i)).length = i) := by show _ = _; simp [insL]; omega
      have HH3 := Lib.hid hh3
      have HB3 := Lib.hid hb2
      have HW2 := Lib.hid hW2
      have HW3 := Lib.hid hW3
      have HS3 := Lib.hid hw3s
      clear x0 x1 x2 x3 hx hrr hg2 hh2 hw2s hb2 hh3 hw3s hW2 hW3 hbw
      go_upto_region 6 with fail
      rw [← HW2.out]
      clear X0 X1 X2 X3
      go_wp2_with (at_builtin; rw [← HW3.out]; go_loud (refine wpList_plain rfl (fun _ hK => wp_app_chM rfl (fun _ => True) (.tmp 25) (.tmp 28) rfl w1.heap.size _ xs (insL (R.take i)) (by rfl) HOc3.out W2.heap.size 1 1 x r (by rfl) HH3.out HX3.out (i + 1) (by rw [HTl.out]) (by omega) (by rw [HS3.out]; omega) (fun ad4 c4 w4 ho4 hg4 => hK _ _ ?_))); have HO4 := Lib.hid ho4; have HG4 := Lib.hid hg4; clear ho4 hg4)
      have HB4 : Hid (Below w1.heap.size w1 w4) := (HB.out.trans (HB3.out.mono hsz)).grown HG4.out (by rw [HS3.out]; omega) (fun k hk => (HOc.out.row.lt k hk).1)
      rw [HF.out] at HO4
      go_roundw
      case rel => exact ⟨i + 1, ad4, c4, _, by first | rfl | go_num, rfl, by omega, (by show _ = _; rw [List.length_append, HXl.out]; rfl : Hid ((xs ++ [_]).length = i + 1)), HO4, HB4⟩
      case measure => simp [intOf]; omega
    · have hin' : i = n := by omega
      have HF : Hid (R.take i = R) := by show _ = _; rw [hin']; exact List.take_of_length_le (by have := HN.out; omega)
      rw [HF.out] at HOc
      subst hin'
      have hrc := HOc.out.toRds fun _ _ => trivial
      have hdo := do_tab (HT1.out.below HB.out) hrc (by simp [insL]; have := HN.out; omega) (Fb.ok_nil W)
      have hD := Fb.doL_all R [] 0 (by simpa using HO.out)
      rw [List.nil_append] at hD
      have hE : Fb.endL W [] (insL R) = R := by unfold Fb.endL; rw [hD]; rfl
      rw [hE, hD] at hdo
      have HD := Lib.hid hdo
      have hbsz := HB.out.size
      clear hrc hdo hD hE HF HOc HXl hbw
      go_wp2_with fail
      refine HD.out.mono ?_
      rintro e w3 ⟨rfl, ⟨v', hT3⟩, hbt3⟩
      have HT3 := Lib.hid hT3
      have HB3 : Hid (Below w.heap.size w w3) := (HB1.out.trans (HB.out.mono (by have := HS1.out; omega))).trans (hbt3.toBelow (by have := HS1.out; omega) (fun k hk => by omega))
      have HH3 : Hid (w3.heap[w.heap.size]? = some (.cells #[.int .i64 0, .slice none 0 0] 60 (0, 0))) := (hbt3.block _ (by have := HS1.out; omega) (by omega)).trans ((HB.out.block _ (by have := HS1.out; omega)).trans HH1.out)
      have HL3 := Lib.hid (lookup_any hT3 s HSs.out)
      have hs3 : w.heap.size + 2 ≤ w3.heap.size := by have := hbt3.size; have := HS1.out; omega
      clear hT3 hbt3
      obtain ⟨S, hS⟩ : ∃ S, Fb.lookS R W s = S := ⟨_, rfl⟩
      rw [hS] at HL3
      have HSq := Lib.hid hS
      clear hS
      go_wp2_with fail
      refine HL3.out.mono ?_
      rintro e w4 ⟨hb4, a, m, cc, hrd4, rfl⟩
      have hh4 : w4.heap[w.heap.size]? = some (.cells #[.int .i64 0, .slice none 0 0] 60 (0, 0)) := (hb4.block _ (by omega)).trans HH3.out
      have HR4 := Lib.hid hrd4
      have HB4 : Hid (Below w.heap.size w w4) := HB3.out.trans (hb4.mono (by omega))
      have hs4 := hb4.size
      obtain ⟨W5, hW5⟩ : ∃ W5, W5 = w4.alloc (.cells #[.int .i64 S.1, .slice a m cc] 60) := ⟨_, rfl⟩
      have hb5 : Below w4.heap.size w4 W5 := by rw [hW5]; exact (Below.refl _ _).alloc (Nat.le_refl _) _
      have hh5 : W5.heap[w4.heap.size]? = some (.cells #[.int .i64 S.1, .slice a m cc] 60 (0, 0)) := by rw [hW5]; exact heap_alloc_new _ _
      have hh6 : W5.heap[w.heap.size]? = some (.cells #[.int .i64 0, .slice none 0 0] 60 (0, 0)) := (hb5.block _ (by omega)).trans hh4
      have y0 : W5.cell? ⟨w4.heap.size, 0, none⟩ = some (.int .i64 S.1) := by simp [World.cell?, hh5]
      have y1 : W5.cell? ⟨w4.heap.size, 1, none⟩ = some (.slice a m cc) := by simp [World.cell?, hh5]
      have r0 : W5.cell? ⟨w.heap.size, 0, none⟩ = some (.int .i64 0) := by simp [World.cell?, hh6]
      have r1 : W5.cell? ⟨w.heap.size, 1, none⟩ = some (.slice none 0 0) := by simp [World.cell?, hh6]
      have rf0 : W5.frozen? ⟨w.heap.size, 0, none⟩ = false := by simp [World.frozen?, hh6]
      have rf1 : W5.frozen? ⟨w.heap.size, 1, none⟩ = false := by simp [World.frozen?, hh6]
      have HW5 := Lib.hid hW5
      have HB5 := Lib.hid hb5
      clear hrd4 hb4 hh4 hW5 hb5 hh5 hh6
      go_upto_region 10 with fail
      rw [← HW5.out]
      go_wp2_with fail
      rw [HSq.out]
      refine bodyPost_ret (res_does _ w.heap.size _ S.1 a m cc rfl ?_ ?_) rfl ?_
      · simp [go_sem, r0]
      · simp [go_sem, r1]
      refine ⟨a, m, cc, rfl, ?_, ?_⟩
      · have hbt : But (fun b => b = w.heap.size) W5 ((W5.setCell ⟨w.heap.size, 0, none⟩ (.int .i64 S.1)).setCell ⟨w.heap.size, 1, none⟩ (.slice a m cc)) := (But.set (S := fun b => b = w.heap.size) (a := ⟨w.heap.size, 0, none⟩) rfl _).trans (But.set (S := fun b => b = w.heap.size) (a := ⟨w.heap.size, 1, none⟩) rfl _)
        exact ((HR4.out.below HB5.out).but hbt (fun b hb e => by omega)).mono fun b hb => by omega
      · exact ((HB4.out.trans (HB5.out.mono (by omega))).setCell (Nat.le_refl _) _).setCell (Nat.le_refl _) _
end Go.Proofs.YtlbelkjgaeaaeaaGreat
/-
  Walks: Since, of the code.
-/
namespace Go.Proofs.YtlbelkjgaeaaeaaGreat
open Go.RowKit Go.Shelf Go.Lib Go.Sort
set_option linter.unusedVariables false
set_option linter.unusedSectionVars false
set_option linter.unusedSimpArgs false

namespace Fb
/-- What rules do with a header. -/
def actS (W : Int) (s : ByteArray) (R : List Rl) : Int × List ByteArray := ((lookS R W s).1, (lookS R W s).2.1)
/-- The versions ahead of n in which another thing is done than in the one ahead. -/
def sinceN (W : Int) (s : ByteArray) (olds : List (List Rl)) : Nat → List Int
  | 0 => []
  | i + 1 => sinceN W s olds i ++ (if i = 0 ∨ actS W s (olds.getD (i - 1) []) = actS W s (olds.getD i []) then [] else [(i : Int)])
theorem sinceN_len (W : Int) (s : ByteArray) (olds : List (List Rl)) : ∀ n, (sinceN W s olds n).length ≤ n
  | 0 => Nat.le_refl _
  | i + 1 => by
    have := sinceN_len W s olds i
    unfold sinceN
    rw [List.length_append]
    split
    · simp; omega
    · simp; omega
theorem sinceN_skip {W : Int} {s : ByteArray} {olds : List (List Rl)} {i : Nat} (h : i = 0 ∨ actS W s (olds.getD (i - 1) []) = actS W s (olds.getD i [])) : sinceN W s olds (i + 1) = sinceN W s olds i := by
  show sinceN W s olds i ++ _ = _
  rw [if_pos h, List.append_nil]
theorem sinceN_more {W : Int} {s : ByteArray} {olds : List (List Rl)} {i : Nat} (h : ¬ (i = 0 ∨ actS W s (olds.getD (i - 1) []) = actS W s (olds.getD i []))) : sinceN W s olds (i + 1) = sinceN W s olds i ++ [(i : Int)] := by
  show sinceN W s olds i ++ _ = _
  rw [if_neg h]
end Fb

theorem infoU : (Tryz.prog.info? 33).map (fun i => (i.zero, i.size, i.bytes)) = some (some (.int .u64 0), 1, 8) := by kernel_rfl

/-- Numbers of the call's own. -/
abbrev OwnU (w : World) (base : Nat) (v : Value) (l : List Int) : Prop := w.ownsRow base 33 1 v l.length (l.map (Value.int .u64))

theorem step_app_u {w : World} {ops : Array Oper} {o : Oper} {a : Act} {K : Act → World → Prop} {Q : Exit → Act → World → Prop} {E : Prop} (hgd : o.guard = none) (s x : Operand)
    (ho : o.op = .call { callee := .builtin .append, args := #[s, x], argTypes := #[76, 76] })
    (base : Nat) (v : Value) (l : List Int) (hs : a.eval s = v) (h1 : OwnU w base v l)
    (g0 c : Nat) (k : Int) (hx : a.eval x = .slice (some ⟨g0, 0, none⟩) 1 c) (hyc : w.heap[g0]? = some (.cells #[.int .u64 k] 33 (0, 0)))
    (hl : l.length ≤ 100000) (hbase : base ≤ w.heap.size)
    (h : ∀ ad cap w', OwnU w' base (.slice ad (l.length + 1) cap) (l ++ [k]) → w.grownBy w' v.ownBlock → (∀ g, ad = some g → v.ownBlock = some g.block ∨ g.block = w.heap.size) → K (a.put o.dst (.slice ad (l.length + 1) cap)) w') :
    if Region.wanted o (yielded ops a.tmps) = true then Oper.wp Tryz.prog o a w K Q else E := by
  obtain ⟨i0, hi, hz0, hz1, hz2⟩ := info_parts infoU
  refine step_append_lies w hgd s x 76 ho base 33 i0 _ 1 8 Tryz.underlying76 hi hz0 hz1 hz2 rfl (by decide) v l.length (l.map (Value.int .u64)) hs h1 ⟨g0, 0, none⟩ 1 c [.int .u64 k] hx rfl (fun j u hj => ?_) (by simp [Value.oneCell']) (by omega) (by unfold maxLen; omega) (by omega) hbase w.heap.size rfl fun g cap w' hown hg hgg hlt => h _ cap w' ?_ hg (fun g' e => ?_)
  · have h0 : j = 0 := by
      rcases j with _ | j
      · rfl
      · simp at hj
    subst h0
    simp at hj
    subst hj
    simp [Addr.add_lit, World.cell?, hyc]
  · show World.ownsRow _ _ _ _ _ _ _
    rw [List.length_append, List.map_append]
    exact hown
  · injection e with e
    subst e
    exact hgg

set_option maxHeartbeats 800000 in
set_option maxRecDepth 20000 in
theorem since_bad {ok : Nat → Prop} {base : Nat} {w : World} {sb tb : Nat} {v vo : Value} {us : List Value} {L : List Rl} {W : Int} {ver boot : Nat} {olds : List (List Rl)} (h : Sto ok base w sb tb v vo us L W ver boot olds) (s : ByteArray) (hs : s.size ≤ maxLen) (he : ¬ (Fb.lookS L W s).2.2 = 0) :
    Calls Tryz.prog 22 #[.pointer (some ⟨sb, 0, none⟩), .string s] w fun e w' => e = .returned (.tuple #[.slice none 0 0, .int .i64 (Fb.lookS L W s).2.2]) ∧ Below w.heap.size w w' := by
  have HM := Lib.hid (made_sto h)
  have HL := Lib.hid (lookup_any h.tab s hs)
  have c0 := h.c0
  obtain ⟨S, hS⟩ : ∃ S, Fb.lookS L W s = S := ⟨_, rfl⟩
  rw [hS] at HL he ⊢
  have hez : (S.2.2 == 0) = false := by simpa using he
  have hez2 : (S.2.2 != 0) = true := by simpa using he
  clear h hs hS
  go_enter Tryz.func22, Tryz.ntmps22
  go_wp2_with fail
  refine HM.out.mono ?_
  rintro e w1 ⟨rfl, rfl⟩
  go_wp2_with fail
  refine HL.out.mono ?_
  rintro e w2 ⟨hb2, a, m, cc, hrd, rfl⟩
  have HB2 := Lib.hid hb2
  clear hb2 hrd
  go_wp2_with fail
  go_ret2
  exact ⟨rfl, HB2.out.alloc HB2.out.size _⟩

theorem app_u_post {w W w' : World} {v v' : Value} {ad : Option Addr} {n c : Nat} (hv : v' = .slice ad n c) (hb : Below w.heap.size w W) (hg : W.grownBy w' v.ownBlock) (hat : ∀ g, ad = some g → v.ownBlock = some g.block ∨ g.block = W.heap.size) :
    But (fun b => v.ownBlock = some b) w w' ∧ ∀ b, v'.ownBlock = some b → v.ownBlock = some b ∨ w.heap.size ≤ b := by
  refine ⟨((But.below (S := fun _ => False) hb).mono (fun _ h => h.elim)).trans ⟨hg.os, hg.tape, hg.output, hg.size, fun k hk hn => hg.block k hk (fun e => hn e.symm)⟩, fun b hb' => ?_⟩
  subst hv
  cases ad with
  | none => cases hb'
  | some g =>
    injection hb' with hb'
    have h := hat g rfl
    have hb' : g.block = b := hb'
    rw [hb'] at h
    exact h.imp id (fun h => by have := hb.size; omega)

/-- What Since answers. -/
def SincePost (w : World) (l : List Int) (e : Ending) (w' : World) : Prop :=
  ∃ ad c, e = .returned (.tuple #[.slice ad l.length c, .int .i64 0]) ∧ OwnU w' w.heap.size (.slice ad l.length c) l ∧ Below w.heap.size w w'

/-- The action of the version ahead, in a block of its own. -/
structure Lst (w : World) (lb : Nat) (v : Value) (k : Int) (a : Option Addr) (q c : Nat) (A : Option (Int × List ByteArray)) : Prop where
  c0 : w.cell? ⟨lb, 0, none⟩ = some (.int .i64 k)
  c1 : w.cell? ⟨lb, 1, none⟩ = some (.slice a q c)
  f0 : w.frozen? ⟨lb, 0, none⟩ = false
  f1 : w.frozen? ⟨lb, 1, none⟩ = false
  rd : ∀ p, A = some p → k = p.1 ∧ RdsO (fun b => lb < b ∧ v.ownBlock ≠ some b) w (.slice a q c) p.2

theorem Lst.but {w w' : World} {lb : Nat} {v v' : Value} {k : Int} {a : Option Addr} {q c : Nat} {A : Option (Int × List ByteArray)} (h : Lst w lb v k a q c A) (hb : But (fun b => v.ownBlock = some b) w w') (hne : v.ownBlock ≠ some lb) (hv : ∀ b, b < w.heap.size → v.ownBlock ≠ some b → v'.ownBlock ≠ some b) : Lst w' lb v' k a q c A :=
  ⟨(hb.cell (p := ⟨lb, 0, none⟩) (cell_lt h.c0) hne).trans h.c0, (hb.cell (p := ⟨lb, 1, none⟩) (cell_lt h.c1) hne).trans h.c1, (hb.frozen (p := ⟨lb, 0, none⟩) (cell_lt h.c0) hne).trans h.f0, (hb.frozen (p := ⟨lb, 1, none⟩) (cell_lt h.c1) hne).trans h.f1, fun p hp => ⟨(h.rd p hp).1, ((h.rd p hp).2.lt.but hb (fun b hb e => hb.1.2 e)).mono fun b hb => ⟨hb.1.1, hv b hb.2 hb.1.2⟩⟩⟩

theorem Lst.below {w w' : World} {lb : Nat} {v : Value} {k : Int} {a : Option Addr} {q c : Nat} {A : Option (Int × List ByteArray)} (h : Lst w lb v k a q c A) (hb : Below w.heap.size w w') : Lst w' lb v k a q c A :=
  have hbt : But (fun _ => False) w w' := But.below hb
  ⟨(hbt.cell (p := ⟨lb, 0, none⟩) (cell_lt h.c0) (fun h => h)).trans h.c0, (hbt.cell (p := ⟨lb, 1, none⟩) (cell_lt h.c1) (fun h => h)).trans h.c1, (hbt.frozen (p := ⟨lb, 0, none⟩) (cell_lt h.c0) (fun h => h)).trans h.f0, (hbt.frozen (p := ⟨lb, 1, none⟩) (cell_lt h.c1) (fun h => h)).trans h.f1, fun p hp => ⟨(h.rd p hp).1, (h.rd p hp).2.below hb⟩⟩

theorem Lst.set {w : World} {lb : Nat} {v : Value} {k k' : Int} {a a' : Option Addr} {q c q' c' : Nat} {A : Option (Int × List ByteArray)} {p : Int × List ByteArray} (h : Lst w lb v k a q c A) (hk : k' = p.1) (hr : RdsO (fun b => lb < b ∧ v.ownBlock ≠ some b) w (.slice a' q' c') p.2) :
    Lst ((w.setCell ⟨lb, 0, none⟩ (.int .i64 k')).setCell ⟨lb, 1, none⟩ (.slice a' q' c')) lb v k' a' q' c' (some p) := by
  have hbt : But (fun b => b = lb) w ((w.setCell ⟨lb, 0, none⟩ (.int .i64 k')).setCell ⟨lb, 1, none⟩ (.slice a' q' c')) := (But.set (S := fun b => b = lb) (a := ⟨lb, 0, none⟩) rfl _).trans (But.set (S := fun b => b = lb) (a := ⟨lb, 1, none⟩) rfl _)
  refine ⟨(cell_set_other _ (by simp)).trans (cell_set_same _ h.c0), cell_set_same _ ((cell_set_other _ (by simp)).trans h.c1), by rw [World.frozen?_setCell, World.frozen?_setCell]; exact h.f0, by rw [World.frozen?_setCell, World.frozen?_setCell]; exact h.f1, fun p' hp => ?_⟩
  injection hp with hp
  subst hp
  exact ⟨hk, hr.but hbt (fun b hb e => by omega)⟩

set_option maxHeartbeats 6400000 in
set_option maxRecDepth 20000 in
theorem since_good {ok : Nat → Prop} {base : Nat} {w : World} {sb tb : Nat} {v vo : Value} {us : List Value} {L : List Rl} {W : Int} {ver boot : Nat} {olds : List (List Rl)} (h : Sto ok base w sb tb v vo us L W ver boot olds) (s : ByteArray) (hs : s.size ≤ maxLen) (he : (Fb.lookS L W s).2.2 = 0) (hlen : olds.length = ver + 1) (hv : ver ≤ 4000) (hO : ∀ l ∈ olds, Fb.Ok W l) :
    Calls Tryz.prog 22 #[.pointer (some ⟨sb, 0, none⟩), .string s] w (SincePost w (Fb.sinceN W s olds (ver + 1))) := by
  have HM := Lib.hid (made_sto h)
  have HL := Lib.hid (lookup_any h.tab s hs)
  have HS := Lib.hid h
  have HSs := Lib.hid hs
  have HO := Lib.hid hO
  have HWd : Hid (∀ Wx, Below w.heap.size w Wx → Calls Tryz.prog 35 #[.pointer (some ⟨tb, 0, none⟩)] Wx fun e w' => e = .returned (.int .i64 W) ∧ Wx = w') := fun Wx hWx => width_tab (h.below hWx).tab
  have c0 := h.c0
  have c3 := h.c3
  obtain ⟨n, hn⟩ : ∃ n, us.length = n := ⟨_, rfl⟩
  have hnv : n = ver + 1 := by have := h.len; omega
  obtain ⟨va, vc, hvo, _⟩ := ownsRow_slice h.own
  rw [hn] at hvo
  subst hvo
  have HNu := Lib.hid hn
  have HLen := Lib.hid hlen
  have HNv := Lib.hid hnv
  have hn4 : n ≤ 4001 := by omega
  obtain ⟨S, hS⟩ : ∃ S, Fb.lookS L W s = S := ⟨_, rfl⟩
  rw [hS] at HL he
  have hw0 := cell_lt c0
  clear h hs hS hO hn hnv hlen
  obtain ⟨n1, hn1⟩ : ∃ n1, ver + 1 = n1 := ⟨_, rfl⟩
  have HN1 := Lib.hid hn1
  clear hn1
  go_enter Tryz.func22, Tryz.ntmps22
  go_wp2_with fail
  refine HM.out.mono ?_
  rintro e w1 ⟨rfl, rfl⟩
  go_wp2_with fail
  refine HL.out.mono ?_
  rintro e w2 ⟨hb2, a, m, cc, hrd, rfl⟩
  have hez : (S.2.2 == 0) = true := by rw [he]; rfl
  have hez2 : (S.2.2 != 0) = false := by rw [he]; rfl
  obtain ⟨W3, hW3⟩ : ∃ W3, W3 = w2.alloc (.cells #[.int .i64 S.1, .slice a m cc] 60) := ⟨_, rfl⟩
  have hb3 : Below w.heap.size w W3 := by rw [hW3]; exact hb2.alloc hb2.size _
  obtain ⟨W4, hW4⟩ : ∃ W4, W4 = W3.alloc (.cells #[.int .i64 0, .slice none 0 0] 60) := ⟨_, rfl⟩
  have hb4 : Below w.heap.size w W4 := by rw [hW4]; exact hb3.alloc hb3.size _
  have hh4 : W4.heap[W3.heap.size]? = some (.cells #[.int .i64 0, .slice none 0 0] 60 (0, 0)) := by rw [hW4]; exact heap_alloc_new _ _
  have hs3 : W3.heap.size = w2.heap.size + 1 := by rw [hW3]; simp
  rw [hs3] at hh4
  have hs4 : W4.heap.size = w2.heap.size + 2 := by rw [hW4]; simp [hs3]
  have c0' := (hb4.cell (p := ⟨sb, 0, none⟩) hw0).trans c0
  have c3' := (hb4.cell (p := ⟨sb, 3, none⟩) hw0).trans c3
  have HB4 := Lib.hid hb4
  have HH4 := Lib.hid hh4
  have HS4 := Lib.hid hs4
  have Hw2 := Lib.hid hb2.size
  have HW3 := Lib.hid hW3
  have HW4 := Lib.hid hW4
  clear hb2 hrd hW3 hb3 hW4 hb4 hh4 hs3 hs4 he
  go_upto_region 8 with fail
  rw [← HW3.out, ← HW4.out]
  have hst : Hid (Lst W4 (w2.heap.size + 1) (.slice none 0 0) 0 none 0 0 none) := by
    have h4 := HH4.out
    exact ⟨by simp [World.cell?, h4], by simp [World.cell?, h4], by simp [World.frozen?, h4], by simp [World.frozen?, h4], fun p hp => by cases hp⟩
  clear HW3 HW4 HH4
  go_wp2_with fail
  clear c0' c3'
  go_loopw [8, 33] (fun s8 s33 wr => ∃ (i m c q0 d0 : Nat) (ad a0 : Option Addr) (k0 : Int) (l : List Int), s33 = .int .i64 i ∧ s8 = .slice ad m c ∧ i ≤ n ∧ m ≤ i ∧ Hid (m = l.length) ∧ Hid (l = Fb.sinceN W s olds i) ∧ Hid (OwnU wr W4.heap.size (.slice ad m c) l) ∧ Hid (Lst wr (w2.heap.size + 1) (.slice ad m c) k0 a0 q0 d0 (if i = 0 then none else some (Fb.actS W s (olds.getD (i - 1) [])))) ∧ Hid (Below (w2.heap.size + 1) W4 wr)) (fun _ s33 _ => n - (intOf s33).toNat)
  case atStart => exact ⟨0, 0, 0, 0, 0, none, none, 0, [], rfl, rfl, Nat.zero_le _, Nat.le_refl _, (rfl : (0 : Nat) = ([] : List Int).length), (rfl : ([] : List Int) = Fb.sinceN W s olds 0), (World.ownsRow_nil _ _ _ _ : OwnU W4 W4.heap.size (.slice none 0 0) []), hst.out, Below.refl _ _⟩
  case round =>
    clear hst
    obtain ⟨wo, rfl⟩ : ∃ wo : World, wo = wr := ⟨wr, rfl⟩
    obtain ⟨i, m, c, q0, d0, ad, a0, k0, l, rfl, rfl, hin, hmi, hml, hls, hOw, hLs, hB⟩ := hrel
    have hbw : Below w.heap.size w wo := HB4.out.trans (hB.out.mono (by have := Hw2.out; omega))
    have HBw := Lib.hid hbw
    by_cases hlt : i < n
    · have hiu : i < us.length := by rw [HNu.out]; exact hlt
      have hio : i < olds.length := by have := HLen.out; have := HNv.out; omega
      have hrd := HS.out.rd i hiu hio
      obtain ⟨g, hva, hgl, hcl⟩ := own_cell (by have := HS.out.own; rw [HNu.out] at this; exact this) i hiu
      subst hva
      obtain ⟨R, hR⟩ : ∃ R, olds[i] = R := ⟨_, rfl⟩
      have hRg : olds.getD i [] = R := by rw [← hR]; simp [hio]
      have hROk : Fb.Ok W R := by rw [← hR]; exact HO.out _ (List.getElem_mem hio)
      rw [hR] at hrd
      obtain ⟨adk, capk, huk, _, _⟩ := hrd.form
      rw [huk] at hrd hcl
      have X := (hbw.cell (p := ⟨g, i, none⟩) hgl).trans hcl
      have X0 := (hbw.cell (p := ⟨sb, 0, none⟩) hw0).trans c0
      have X3 := (hbw.cell (p := ⟨sb, 3, none⟩) hw0).trans c3
      have HDo := Lib.hid (does_any ok W (.slice adk R.length capk) R s wo (hrd.below hbw) hROk HS.out.tab.lo HS.out.tab.hi HSs.out)
      have HAc : Hid (Fb.actS W s (olds.getD i []) = ((Fb.lookS R W s).1, (Fb.lookS R W s).2.1)) := by show _ = _; rw [hRg]; rfl
      obtain ⟨T, hT⟩ : ∃ T, Fb.lookS R W s = T := ⟨_, rfl⟩
      rw [hT] at HDo HAc
      obtain ⟨rl, hrl⟩ : ∃ rl, R.length = rl := ⟨_, rfl⟩
      rw [hrl] at HDo X hcl
      clear hrd hcl huk hR hRg hROk hT hrl hbw
      go_wp2_with fail
      refine (HWd.out _ HBw.out).mono ?_
      rintro e w5 ⟨rfl, rfl⟩
      go_wp2_with fail
      refine HDo.out.mono ?_
      rintro e w5 ⟨a5, q5, d5, rfl, hrd5, hb5⟩
      obtain ⟨W6, hW6⟩ : ∃ W6, W6 = w5.alloc (.cells #[.int .i64 T.1, .slice a5 q5 d5] 60) := ⟨_, rfl⟩
      have hb6 : Below wo.heap.size wo W6 := by rw [hW6]; exact hb5.alloc hb5.size _
      have hb56 : Below w5.heap.size w5 W6 := by rw [hW6]; exact (Below.refl _ _).alloc (Nat.le_refl _) _
      have hh6 : W6.heap[w5.heap.size]? = some (.cells #[.int .i64 T.1, .slice a5 q5 d5] 60 (0, 0)) := by rw [hW6]; exact heap_alloc_new _ _
      have y0 : W6.cell? ⟨w5.heap.size, 0, none⟩ = some (.int .i64 T.1) := by simp [World.cell?, hh6]
      have y1 : W6.cell? ⟨w5.heap.size, 1, none⟩ = some (.slice a5 q5 d5) := by simp [World.cell?, hh6]
      have hLs6 := hLs.out.below hb6
      have l0 := hLs6.c0
      have l1 := hLs6.c1
      have g0 := hLs6.f0
      have g1 := hLs6.f1
      have HL6 := Lib.hid hLs6
      have HOwl := Lib.hid (fun b (e : (Value.slice ad m c).ownBlock = some b) => (own_lt hOw.out e).2)
      have HOw6 := Lib.hid (ownsRow_below hOw.out hb6)
      have HB6 := Lib.hid hb6
      have hrd6 := hrd5.below hb56
      have HRd6 := Lib.hid hrd6
      have HW6 := Lib.hid hW6
      have Hs5 := Lib.hid hb5.size
      clear X X0 X3 hLs hOw hW6 hb6 hb56 hh6 hb5 hrd5 hLs6 hrd6
      go_upto_region 12 with fail
      rw [← HW6.out]
      clear HW6
      have hLB : (Value.slice ad m c).ownBlock ≠ some (w2.heap.size + 1) := fun e => by
        have h1 := (own_lt HOw6.out e).1
        have h2 := HS4.out
        omega
      have hw5 : ∀ b, (Value.slice ad m c).ownBlock = some b → b < wo.heap.size := fun b e => HOwl.out b e
      have HLB := Lib.hid hLB
      have HW5 := Lib.hid hw5
      have hp6 : RdsO (fun b => w2.heap.size + 1 < b ∧ (Value.slice ad m c).ownBlock ≠ some b) W6 (.slice a5 q5 d5) T.2.1 := HRd6.out.mono fun b hb => ⟨by have := hB.out.size; have := HS4.out; omega, fun e => by have := hw5 b e; omega⟩
      have HP6 := Lib.hid hp6
      clear hLB hw5 hp6
      by_cases hi0 : i = 0
      · have hiz : decide ((0 : Int) < (i : Int)) = false := by simp; omega
        have hin0 : ¬ 0 < i := by omega
        have HSk : Hid (Fb.sinceN W s olds (i + 1) = Fb.sinceN W s olds i) := Fb.sinceN_skip (.inl hi0)
        have HI0 := Lib.hid hi0
        clear hi0
        go_wp2_with fail
        go_roundw
        case rel =>
          refine ⟨i + 1, m, c, q5, d5, ad, a5, T.1, l, by first | rfl | go_num, rfl, by omega, by omega, hml, hls.out.trans HSk.out.symm, ?_, ?_, ?_⟩
          · exact ownsRow_butS HOw6.out ((But.set (S := fun b => b = w2.heap.size + 1) (a := ⟨w2.heap.size + 1, 0, none⟩) rfl _).trans (But.set (S := fun b => b = w2.heap.size + 1) (a := ⟨w2.heap.size + 1, 1, none⟩) rfl _)) (fun b hb e => HLB.out (by rw [hb, e]))
          · rw [if_neg (by omega), Nat.add_sub_cancel, HAc.out]
            exact HL6.out.set rfl HP6.out
          · exact ((hB.out.trans (HB6.out.mono (by have := hB.out.size; have := HS4.out; omega))).setCell (Nat.le_refl _) _).setCell (Nat.le_refl _) _
        case measure => simp [intOf]; omega
      · have hiz : (0 : Int) < (i : Int) := by omega
        have hin0 : 0 < i := by omega
        obtain ⟨p, hp⟩ : ∃ p, Fb.actS W s (olds.getD (i - 1) []) = p := ⟨_, rfl⟩
        rw [if_neg hi0, hp] at HL6
        obtain ⟨hk0, hrd0⟩ := HL6.out.rd p rfl
        have HEq := Lib.hid (Equal_any T.2.1 p.2 _ _ W6 HRd6.out.1 hrd0.1)
        have HPe := Lib.hid hp
        have HK0 := Lib.hid hk0
        clear hp hrd0 hk0
        by_cases hk : T.1 = k0
        · by_cases hps : T.2.1 = p.2
          · have HSk : Hid (Fb.sinceN W s olds (i + 1) = Fb.sinceN W s olds i) := Fb.sinceN_skip (.inr (by
              rw [HPe.out, HAc.out]
              exact Prod.ext (by rw [hk, HK0.out]) hps.symm))
            have hkb : (T.1 == k0) = true := by simpa using hk
            have hkb2 : (T.1 != k0) = false := by simpa using hk
            rw [decide_eq_true hps] at HEq
            clear hk hps hi0
            go_wp2_with fail
            refine HEq.out.mono ?_
            rintro e w7 ⟨rfl, nq, hw7⟩
            have hb7 : Below W6.heap.size W6 w7 := by rw [hw7]; exact below_dN (Below.refl _ _) nq
            have y0 := (hb7.cell (p := ⟨w5.heap.size, 0, none⟩) (cell_lt y0)).trans y0
            have y1 := (hb7.cell (p := ⟨w5.heap.size, 1, none⟩) (cell_lt y1)).trans y1
            have HL7 := Lib.hid (HL6.out.below hb7)
            have HP7 := Lib.hid (HP6.out.below hb7)
            have HOw7 := Lib.hid (ownsRow_below HOw6.out hb7)
            have HB7 := Lib.hid (HB6.out.trans (hb7.mono HB6.out.size))
            have l0 := HL7.out.c0
            have l1 := HL7.out.c1
            have g0 := HL7.out.f0
            have g1 := HL7.out.f1
            clear hw7 hb7
            go_wp2_with fail
            go_roundw
            case rel =>
              refine ⟨i + 1, m, c, q5, d5, ad, a5, T.1, l, by first | rfl | go_num, rfl, by omega, by omega, hml, hls.out.trans HSk.out.symm, ?_, ?_, ?_⟩
              · exact ownsRow_butS HOw7.out ((But.set (S := fun b => b = w2.heap.size + 1) (a := ⟨w2.heap.size + 1, 0, none⟩) rfl _).trans (But.set (S := fun b => b = w2.heap.size + 1) (a := ⟨w2.heap.size + 1, 1, none⟩) rfl _)) (fun b hb e => HLB.out (by rw [hb, e]))
              · rw [if_neg (by omega), Nat.add_sub_cancel, HAc.out]
                exact HL7.out.set rfl HP7.out
              · exact ((hB.out.trans (HB7.out.mono (by have := hB.out.size; have := HS4.out; omega))).setCell (Nat.le_refl _) _).setCell (Nat.le_refl _) _
            case measure => simp [intOf]; omega
          · have HSk : Hid (Fb.sinceN W s olds (i + 1) = Fb.sinceN W s olds i ++ [(i : Int)]) := Fb.sinceN_more (by
              rw [HPe.out, HAc.out]
              rintro (h | h)
              · exact hi0 h
              · exact hps (congrArg Prod.snd h).symm)
            have hkb : (T.1 == k0) = true := by simpa using hk
            have hkb2 : (T.1 != k0) = false := by simpa using hk
            rw [decide_eq_false hps] at HEq
            clear hk hps hi0
            go_wp2_with fail
            refine HEq.out.mono ?_
            rintro e w7 ⟨rfl, nq, hw7⟩
            have hb7 : Below W6.heap.size W6 w7 := by rw [hw7]; exact below_dN (Below.refl _ _) nq
            have y0 := (hb7.cell (p := ⟨w5.heap.size, 0, none⟩) (cell_lt y0)).trans y0
            have y1 := (hb7.cell (p := ⟨w5.heap.size, 1, none⟩) (cell_lt y1)).trans y1
            have HL7 := Lib.hid (HL6.out.below hb7)
            have HP7 := Lib.hid (HP6.out.below hb7)
            have HOw7 := Lib.hid (ownsRow_below HOw6.out hb7)
            have HB7 := Lib.hid (HB6.out.trans (hb7.mono HB6.out.size))
            have l0 := HL7.out.c0
            have l1 := HL7.out.c1
            have g0 := HL7.out.f0
            have g1 := HL7.out.f1
            clear hw7 hb7
            have hbw7 : Below w.heap.size w w7 := HBw.out.trans (HB7.out.mono HBw.out.size)
            have S1 := (hbw7.cell (p := ⟨sb, 1, none⟩) hw0).trans HS.out.c1
            have S3 := (hbw7.cell (p := ⟨sb, 3, none⟩) hw0).trans c3
            obtain ⟨d, hd⟩ : ∃ d, n - 1 - i = d := ⟨_, rfl⟩
            have hk1 : (n : Int) - 1 - (i : Int) = (d : Int) := by omega
            have hw4 : IntKind.i64.wrap ((n : Int) - 1) = (n : Int) - 1 := IntWalk.i64_in _ (by omega)
            have hw5 : IntKind.i64.wrap ((n : Int) - 1 - (i : Int)) = (d : Int) := by rw [hk1]; exact IntWalk.i64_in _ (by omega)
            have hw6 : IntKind.i64.wrap (d : Int) = (d : Int) := IntWalk.i64_in _ (by omega)
            have hw7 : IntKind.u64.wrap (d : Int) = (d : Int) := by
              unfold IntKind.wrap
              simp [IntKind.signed, IntKind.bits]
              omega
            have hk8 : (ver : Int) - (d : Int) = (i : Int) := by have := HNv.out; omega
            have hw8 : IntKind.u64.wrap ((ver : Int) - (d : Int)) = (i : Int) := by
              rw [hk8]
              unfold IntKind.wrap
              simp [IntKind.signed, IntKind.bits]
              omega
            have hw9 : IntKind.u64.wrap (i : Int) = (i : Int) := by
              unfold IntKind.wrap
              simp [IntKind.signed, IntKind.bits]
              omega
            have hkeep : w7.cell? ⟨sb, 1, none⟩ = some (.int .u64 (ver : Int)) ∧ w7.cell? ⟨sb, 3, none⟩ = some (.slice (some ⟨g, 0, none⟩) n vc) := ⟨S1, S3⟩
            have hl7 : l.length ≤ 100000 := by have := hml.out; omega
            clear hd hbw7
            go_upto_region 13 with fail
            go_region_held3 (fun Wx => Wx.cell? ⟨sb, 1, none⟩ = some (.int .u64 (ver : Int)) ∧ Wx.cell? ⟨sb, 3, none⟩ = some (.slice (some ⟨g, 0, none⟩) n vc)) (first | exact hkeep | exact k8 | go_keep) (first
              | ((refine step_app_u rfl (.tmp 63) (.tmp 78) (by rfl) W4.heap.size (.slice ad m c) l (by rfl) (ownsRow_below HOw7.out (by repeat (first | (with_reducible exact Below.refl _ _) | (with_reducible refine Below.drew ?_) | (with_reducible refine Below.alloc ?_ (by simp) _)))) w7.heap.size 1 (i : Int) (by rfl) (by exact heap_alloc_new _ _) hl7 (by have := hB.out.size; have := HB7.out.size; simp <;> omega) ?_); intro ad8 c8 w8 ho8 hg8 hat8; have HO8 := Lib.hid ho8; have HQ8 := Lib.hid (app_u_post (w := w7) rfl (by repeat (first | (with_reducible exact Below.refl _ _) | (with_reducible refine Below.drew ?_) | (with_reducible refine Below.alloc ?_ (by simp) _))) hg8 hat8 (n := l.length + 1) (c := c8) (v' := .slice ad8 (l.length + 1) c8)); have hsb8 : ¬ (Value.slice ad m c).ownBlock = some sb := (fun e => by have := (own_lt HOw7.out e).1; have := HS4.out; have := Hw2.out; omega); have hsw7 : sb < w7.heap.size := (by have := HB7.out.size; have := hB.out.size; have := HS4.out; have := Hw2.out; omega); have k8 : w8.cell? ⟨sb, 1, none⟩ = some (.int .u64 (ver : Int)) ∧ w8.cell? ⟨sb, 3, none⟩ = some (.slice (some ⟨g, 0, none⟩) n vc) := ⟨(HQ8.out.1.cell (p := ⟨sb, 1, none⟩) hsw7 hsb8).trans hkeep.1, (HQ8.out.1.cell (p := ⟨sb, 3, none⟩) hsw7 hsb8).trans hkeep.2⟩; clear ho8 hg8 hat8))
            have hne5 : ¬ (Value.slice ad m c).ownBlock = some w5.heap.size := fun e => by have := HW5.out _ e; have := Hs5.out; omega
            have z0 := (HQ8.out.1.cell (p := ⟨w5.heap.size, 0, none⟩) (cell_lt y0) hne5).trans y0
            have z1 := (HQ8.out.1.cell (p := ⟨w5.heap.size, 1, none⟩) (cell_lt y1) hne5).trans y1
            have HL8 := Lib.hid (HL7.out.but HQ8.out.1 HLB.out (fun b hb hne e => (HQ8.out.2 b e).elim (fun h => hne h) (fun h => by omega)))
            have HP8 : Hid (RdsO (fun b => w2.heap.size + 1 < b ∧ (Value.slice ad8 (l.length + 1) c8).ownBlock ≠ some b) w8 (.slice a5 q5 d5) T.2.1) := (HP7.out.lt.but HQ8.out.1 (fun b hb e => hb.1.2 e)).mono fun b hb => ⟨hb.1.1, fun e => (HQ8.out.2 b e).elim hb.1.2 (fun h => by have := hb.2; omega)⟩
            have HB8 : Hid (Below (w2.heap.size + 1) W4 w8) := (hB.out.trans (HB7.out.mono (by have := hB.out.size; have := HS4.out; omega))).trans (HQ8.out.1.toBelow (by have := hB.out.size; have := HS4.out; have := HB7.out.size; omega) (fun k hk => by have := (own_lt HOw7.out hk).1; have := HS4.out; omega))
            have m0 := HL8.out.c0
            have m1 := HL8.out.c1
            have e0 := HL8.out.f0
            have e1 := HL8.out.f1
            have hm1 : Hid (l.length + 1 = (l ++ [(i : Int)]).length) := by show _ = _; simp
            have hml2 : l.length + 1 ≤ i + 1 := by have := hml.out; omega
            have hls2 : Hid (l ++ [(i : Int)] = Fb.sinceN W s olds (i + 1)) := by show _ = _; rw [HSk.out, ← hls.out]
            clear y0 y1 l0 l1 g0 g1 hne5 hsb8 hsw7 k8 hkeep hk1 hk8
            go_wp2_with fail
            go_roundw
            case rel =>
              refine ⟨i + 1, l.length + 1, c8, q5, d5, ad8, a5, T.1, l ++ [(i : Int)], by first | rfl | go_num, rfl, by omega, hml2, hm1, hls2, ?_, ?_, ?_⟩
              · exact ownsRow_butS HO8.out ((But.set (S := fun b => b = w2.heap.size + 1) (a := ⟨w2.heap.size + 1, 0, none⟩) rfl _).trans (But.set (S := fun b => b = w2.heap.size + 1) (a := ⟨w2.heap.size + 1, 1, none⟩) rfl _)) (fun b hb e => (HQ8.out.2 b hb).elim (fun h => HLB.out (by rw [h, e])) (fun h => by have := hB.out.size; have := HB7.out.size; have := HS4.out; omega))
              · rw [if_neg (by omega), Nat.add_sub_cancel, HAc.out]
                exact HL8.out.set rfl HP8.out
              · exact (HB8.out.setCell (Nat.le_refl _) _).setCell (Nat.le_refl _) _
            case measure => simp [intOf]; omega
        · have HSk : Hid (Fb.sinceN W s olds (i + 1) = Fb.sinceN W s olds i ++ [(i : Int)]) := Fb.sinceN_more (by
            rw [HPe.out, HAc.out]
            rintro (h | h)
            · exact hi0 h
            · exact hk (by rw [HK0.out, h]))
          have hkb : (T.1 == k0) = false := by simpa using hk
          have hkb2 : (T.1 != k0) = true := by simpa using hk
          clear hk hi0 HEq
          obtain ⟨w7, hw7⟩ : ∃ w7, w7 = W6 := ⟨_, rfl⟩
          have hb7 : Below W6.heap.size W6 w7 := by rw [hw7]; exact Below.refl _ _
          rw [← hw7]
          have y0 := (hb7.cell (p := ⟨w5.heap.size, 0, none⟩) (cell_lt y0)).trans y0
          have y1 := (hb7.cell (p := ⟨w5.heap.size, 1, none⟩) (cell_lt y1)).trans y1
          have HL7 := Lib.hid (HL6.out.below hb7)
          have HP7 := Lib.hid (HP6.out.below hb7)
          have HOw7 := Lib.hid (ownsRow_below HOw6.out hb7)
          have HB7 := Lib.hid (HB6.out.trans (hb7.mono HB6.out.size))
          have l0 := HL7.out.c0
          have l1 := HL7.out.c1
          have g0 := HL7.out.f0
          have g1 := HL7.out.f1
          clear hw7 hb7
          have hbw7 : Below w.heap.size w w7 := HBw.out.trans (HB7.out.mono HBw.out.size)
          have S1 := (hbw7.cell (p := ⟨sb, 1, none⟩) hw0).trans HS.out.c1
          have S3 := (hbw7.cell (p := ⟨sb, 3, none⟩) hw0).trans c3
          obtain ⟨d, hd⟩ : ∃ d, n - 1 - i = d := ⟨_, rfl⟩
          have hk1 : (n : Int) - 1 - (i : Int) = (d : Int) := by omega
          have hw4 : IntKind.i64.wrap ((n : Int) - 1) = (n : Int) - 1 := IntWalk.i64_in _ (by omega)
          have hw5 : IntKind.i64.wrap ((n : Int) - 1 - (i : Int)) = (d : Int) := by rw [hk1]; exact IntWalk.i64_in _ (by omega)
          have hw6 : IntKind.i64.wrap (d : Int) = (d : Int) := IntWalk.i64_in _ (by omega)
          have hw7 : IntKind.u64.wrap (d : Int) = (d : Int) := by
            unfold IntKind.wrap
            simp [IntKind.signed, IntKind.bits]
            omega
          have hk8 : (ver : Int) - (d : Int) = (i : Int) := by have := HNv.out; omega
          have hw8 : IntKind.u64.wrap ((ver : Int) - (d : Int)) = (i : Int) := by
            rw [hk8]
            unfold IntKind.wrap
            simp [IntKind.signed, IntKind.bits]
            omega
          have hw9 : IntKind.u64.wrap (i : Int) = (i : Int) := by
            unfold IntKind.wrap
            simp [IntKind.signed, IntKind.bits]
            omega
          have hkeep : w7.cell? ⟨sb, 1, none⟩ = some (.int .u64 (ver : Int)) ∧ w7.cell? ⟨sb, 3, none⟩ = some (.slice (some ⟨g, 0, none⟩) n vc) := ⟨S1, S3⟩
          have hl7 : l.length ≤ 100000 := by have := hml.out; omega
          clear hd hbw7
          go_upto_region 13 with fail
          go_region_held3 (fun Wx => Wx.cell? ⟨sb, 1, none⟩ = some (.int .u64 (ver : Int)) ∧ Wx.cell? ⟨sb, 3, none⟩ = some (.slice (some ⟨g, 0, none⟩) n vc)) (first | exact hkeep | exact k8 | go_keep) (first
            | ((refine step_app_u rfl (.tmp 63) (.tmp 78) (by rfl) W4.heap.size (.slice ad m c) l (by rfl) (ownsRow_below HOw7.out (by repeat (first | (with_reducible exact Below.refl _ _) | (with_reducible refine Below.drew ?_) | (with_reducible refine Below.alloc ?_ (by simp) _)))) w7.heap.size 1 (i : Int) (by rfl) (by exact heap_alloc_new _ _) hl7 (by have := hB.out.size; have := HB7.out.size; simp <;> omega) ?_); intro ad8 c8 w8 ho8 hg8 hat8; have HO8 := Lib.hid ho8; have HQ8 := Lib.hid (app_u_post (w := w7) rfl (by repeat (first | (with_reducible exact Below.refl _ _) | (with_reducible refine Below.drew ?_) | (with_reducible refine Below.alloc ?_ (by simp) _))) hg8 hat8 (n := l.length + 1) (c := c8) (v' := .slice ad8 (l.length + 1) c8)); have hsb8 : ¬ (Value.slice ad m c).ownBlock = some sb := (fun e => by have := (own_lt HOw7.out e).1; have := HS4.out; have := Hw2.out; omega); have hsw7 : sb < w7.heap.size := (by have := HB7.out.size; have := hB.out.size; have := HS4.out; have := Hw2.out; omega); have k8 : w8.cell? ⟨sb, 1, none⟩ = some (.int .u64 (ver : Int)) ∧ w8.cell? ⟨sb, 3, none⟩ = some (.slice (some ⟨g, 0, none⟩) n vc) := ⟨(HQ8.out.1.cell (p := ⟨sb, 1, none⟩) hsw7 hsb8).trans hkeep.1, (HQ8.out.1.cell (p := ⟨sb, 3, none⟩) hsw7 hsb8).trans hkeep.2⟩; clear ho8 hg8 hat8))
          have hne5 : ¬ (Value.slice ad m c).ownBlock = some w5.heap.size := fun e => by have := HW5.out _ e; have := Hs5.out; omega
          have z0 := (HQ8.out.1.cell (p := ⟨w5.heap.size, 0, none⟩) (cell_lt y0) hne5).trans y0
          have z1 := (HQ8.out.1.cell (p := ⟨w5.heap.size, 1, none⟩) (cell_lt y1) hne5).trans y1
          have HL8 := Lib.hid (HL7.out.but HQ8.out.1 HLB.out (fun b hb hne e => (HQ8.out.2 b e).elim (fun h => hne h) (fun h => by omega)))
          have HP8 : Hid (RdsO (fun b => w2.heap.size + 1 < b ∧ (Value.slice ad8 (l.length + 1) c8).ownBlock ≠ some b) w8 (.slice a5 q5 d5) T.2.1) := (HP7.out.lt.but HQ8.out.1 (fun b hb e => hb.1.2 e)).mono fun b hb => ⟨hb.1.1, fun e => (HQ8.out.2 b e).elim hb.1.2 (fun h => by have := hb.2; omega)⟩
          have HB8 : Hid (Below (w2.heap.size + 1) W4 w8) := (hB.out.trans (HB7.out.mono (by have := hB.out.size; have := HS4.out; omega))).trans (HQ8.out.1.toBelow (by have := hB.out.size; have := HS4.out; have := HB7.out.size; omega) (fun k hk => by have := (own_lt HOw7.out hk).1; have := HS4.out; omega))
          have m0 := HL8.out.c0
          have m1 := HL8.out.c1
          have e0 := HL8.out.f0
          have e1 := HL8.out.f1
          have hm1 : Hid (l.length + 1 = (l ++ [(i : Int)]).length) := by show _ = _; simp
          have hml2 : l.length + 1 ≤ i + 1 := by have := hml.out; omega
          have hls2 : Hid (l ++ [(i : Int)] = Fb.sinceN W s olds (i + 1)) := by show _ = _; rw [HSk.out, ← hls.out]
          clear y0 y1 l0 l1 g0 g1 hne5 hsb8 hsw7 k8 hkeep hk1 hk8
          go_wp2_with fail
          go_roundw
          case rel =>
            refine ⟨i + 1, l.length + 1, c8, q5, d5, ad8, a5, T.1, l ++ [(i : Int)], by first | rfl | go_num, rfl, by omega, hml2, hm1, hls2, ?_, ?_, ?_⟩
            · exact ownsRow_butS HO8.out ((But.set (S := fun b => b = w2.heap.size + 1) (a := ⟨w2.heap.size + 1, 0, none⟩) rfl _).trans (But.set (S := fun b => b = w2.heap.size + 1) (a := ⟨w2.heap.size + 1, 1, none⟩) rfl _)) (fun b hb e => (HQ8.out.2 b hb).elim (fun h => HLB.out (by rw [h, e])) (fun h => by have := hB.out.size; have := HB7.out.size; have := HS4.out; omega))
            · rw [if_neg (by omega), Nat.add_sub_cancel, HAc.out]
              exact HL8.out.set rfl HP8.out
            · exact (HB8.out.setCell (Nat.le_refl _) _).setCell (Nat.le_refl _) _
          case measure => simp [intOf]; omega
    · have hin' : i = n := by omega
      have hF : l = Fb.sinceN W s olds (ver + 1) := by rw [hls.out, hin', HNv.out]
      have hf : SincePost w (Fb.sinceN W s olds (ver + 1)) (.returned (.tuple #[.slice ad m c, .int .i64 0])) wo := by
        rw [← hF, hml.out]
        have h := hOw.out
        rw [hml.out] at h
        exact ⟨ad, c, rfl, ⟨h.1, h.2.imp id fun ⟨g, cap, cur, h1, h2, h3⟩ => ⟨g, cap, cur, h1, by have := HS4.out; have := Hw2.out; omega, h3⟩⟩, hbw⟩
      have HF := Lib.hid hf
      have hltz : decide ((i : Int) < (n : Int)) = false := by simp; omega
      clear hF hf hin' hbw
      go_wp2_with fail
      go_ret2
      exact HF.out
end Go.Proofs.YtlbelkjgaeaaeaaGreat
/-
  Walks: Since, of the reference; numbers.
-/
namespace Go.Proofs.YtlbelkjgaeaaeaaGreat
open Go.RowKit Go.Shelf Go.Lib Go.Sort
set_option linter.unusedVariables false
set_option linter.unusedSectionVars false
set_option linter.unusedSimpArgs false

theorem cell_setd {W : World} {g o : Nat} {u : Value} {p : Addr} {r : Option Value} (hne : g ≠ p.block) (h : W.cell? p = r) : (W.setCell ⟨g, o, none⟩ u).cell? p = r := (cell_set_other _ (fun e => hne (by rw [← e]))).trans h
theorem cell_drewd {W : World} {p : Addr} {r : Option Value} (h : W.cell? p = r) : W.drew.cell? p = r := h

set_option maxHeartbeats 800000 in
set_option maxRecDepth 20000 in
theorem rsince_bad {ok : Nat → Prop} {base : Nat} {w : World} {sb tb : Nat} {v vo : Value} {us : List Value} {L : List Rl} {W : Int} {ver boot : Nat} {olds : List (List Rl)} (h : RSto ok base w sb tb v vo us L W ver boot olds) (s : ByteArray) (hs : s.size ≤ maxLen) (he : ¬ (Fb.lookS L W s).2.2 = 0) :
    Calls Tryz.prog 23 #[.pointer (some ⟨sb, 0, none⟩), .string s] w fun e w' => e = .returned (.tuple #[.slice none 0 0, .int .i64 (Fb.lookS L W s).2.2]) ∧ Below w.heap.size w w' := by
  have HL := Lib.hid (rlookup_any h.tab s hs)
  have c0 := h.c0
  obtain ⟨S, hS⟩ : ∃ S, Fb.lookS L W s = S := ⟨_, rfl⟩
  rw [hS] at HL he ⊢
  have hez : (S.2.2 == 0) = false := by simpa using he
  have hez2 : (S.2.2 != 0) = true := by simpa using he
  clear h hs hS
  go_enter Tryz.func23, Tryz.ntmps23
  go_wp2_with fail
  refine HL.out.mono ?_
  rintro e w2 ⟨hb2, a, m, cc, hrd, rfl⟩
  have HB2 := Lib.hid hb2
  clear hb2 hrd
  go_wp2_with fail
  go_ret2
  exact ⟨rfl, HB2.out.alloc HB2.out.size _⟩

set_option maxHeartbeats 6400000 in
set_option maxRecDepth 20000 in
theorem rsince_good {ok : Nat → Prop} {base : Nat} {w : World} {sb tb : Nat} {v vo : Value} {us : List Value} {L : List Rl} {W : Int} {ver boot : Nat} {olds : List (List Rl)} (h : RSto ok base w sb tb v vo us L W ver boot olds) (s : ByteArray) (hs : s.size ≤ maxLen) (he : (Fb.lookS L W s).2.2 = 0) (hlen : olds.length = ver + 1) (hv : ver ≤ 4000) (hO : ∀ l ∈ olds, Fb.Ok W l) :
    Calls Tryz.prog 23 #[.pointer (some ⟨sb, 0, none⟩), .string s] w (SincePost w (Fb.sinceN W s olds (ver + 1))) := by
  have HL := Lib.hid (rlookup_any h.tab s hs)
  have HS := Lib.hid h
  have HSs := Lib.hid hs
  have HO := Lib.hid hO
  have c0 := h.c0
  have c3 := h.c3
  have t0 := h.tab.c0
  have t1 := h.tab.c1
  obtain ⟨n, hn⟩ : ∃ n, us.length = n := ⟨_, rfl⟩
  have hnv : n = ver + 1 := by have := h.len; omega
  obtain ⟨va, vc, hvo, _⟩ := ownsRow_slice h.own
  obtain ⟨tad, tcap, htv, _, _⟩ := h.tab.rd.form
  obtain ⟨tl, htl⟩ : ∃ tl, L.length = tl := ⟨_, rfl⟩
  rw [htl] at htv
  rw [hn] at hvo
  subst hvo
  subst htv
  have HNu := Lib.hid hn
  have HLen := Lib.hid hlen
  have HNv := Lib.hid hnv
  have hn4 : n ≤ 4001 := by omega
  obtain ⟨S, hS⟩ : ∃ S, Fb.lookS L W s = S := ⟨_, rfl⟩
  rw [hS] at HL he
  have hw0 := cell_lt c0
  have ht0 : tb < w.heap.size := h.tab.lt
  obtain ⟨n1, hn1⟩ : ∃ n1, ver + 1 = n1 := ⟨_, rfl⟩
  have HN1 := Lib.hid hn1
  have hst : sb ≠ tb := h.ne
  clear h hs hS hO hn hnv hlen htl hn1
  go_enter Tryz.func23, Tryz.ntmps23
  go_wp2_with fail
  refine HL.out.mono ?_
  rintro e w2 ⟨hb2, a, m, cc, hrd, rfl⟩
  have hez : (S.2.2 == 0) = true := by rw [he]; rfl
  have hez2 : (S.2.2 != 0) = false := by rw [he]; rfl
  obtain ⟨W4, hW4⟩ : ∃ W4, W4 = w2.alloc (.cells #[.int .i64 S.1, .slice a m cc] 60) := ⟨_, rfl⟩
  have hb4 : Below w.heap.size w W4 := by rw [hW4]; exact hb2.alloc hb2.size _
  have hw4 : w.heap.size ≤ W4.heap.size := hb4.size
  have HB4 := Lib.hid hb4
  have HW4 := Lib.hid hW4
  clear hb2 hrd hW4 hb4 he
  go_wp2_with fail
  rw [← HW4.out]
  clear HW4
  go_loopw [8, 9] (fun s8 s9 wr => ∃ (i m c : Nat) (ad : Option Addr) (l : List Int), s9 = .int .i64 i ∧ s8 = .slice ad m c ∧ 1 ≤ i ∧ i ≤ n ∧ m ≤ i ∧ Hid (m = l.length) ∧ Hid (l = Fb.sinceN W s olds i) ∧ Hid (OwnU wr W4.heap.size (.slice ad m c) l) ∧ Hid (Below W4.heap.size W4 wr)) (fun _ s9 _ => n - (intOf s9).toNat)
  case atStart => exact ⟨1, 0, 0, none, [], rfl, rfl, Nat.le_refl _, by have := HNv.out; omega, by omega, (rfl : (0 : Nat) = ([] : List Int).length), (rfl : ([] : List Int) = Fb.sinceN W s olds 1), (World.ownsRow_nil _ _ _ _ : OwnU W4 W4.heap.size (.slice none 0 0) []), Below.refl _ _⟩
  case round =>
    obtain ⟨wo, rfl⟩ : ∃ wo : World, wo = wr := ⟨wr, rfl⟩
    obtain ⟨i, m, c, ad, l, rfl, rfl, hi1, hin, hmi, hml, hls, hOw, hB⟩ := hrel
    have hbw : Below w.heap.size w wo := HB4.out.trans (hB.out.mono hw4)
    have HBw := Lib.hid hbw
    have X3 := (hbw.cell (p := ⟨sb, 3, none⟩) hw0).trans c3
    by_cases hlt : i < n
    · have X0 := (hbw.cell (p := ⟨sb, 0, none⟩) hw0).trans c0
      have T0 := (hbw.cell (p := ⟨tb, 0, none⟩) ht0).trans t1
      have T1 := (hbw.cell (p := ⟨tb, 1, none⟩) ht0).trans t0
      have hltz : (i : Int) < (n : Int) := by omega
      obtain ⟨W6, hW6⟩ : ∃ W6, W6 = (wo.alloc (.cells #[.int .i64 0, .slice none 0 0] 85)).alloc (.cells #[.int .i64 0, .slice none 0 0] 85) := ⟨_, rfl⟩
      have HW6 := Lib.hid hW6
      have hb6 : Below wo.heap.size wo W6 := by rw [hW6]; exact ((Below.refl _ _).alloc (Nat.le_refl _) _).alloc (by simp) _
      have hsbo : sb < wo.heap.size := by have := hbw.size; omega
      have htbo : tb < wo.heap.size := by have := hbw.size; omega
      have hh6 : W6.heap[wo.heap.size]? = some (.cells #[.int .i64 0, .slice none 0 0] 85 (0, 0)) := by
        rw [hW6]; simp only [al_heap, Array.getElem?_push, Array.size_push]; simp <;> omega
      have hh7 : W6.heap[wo.heap.size + 1]? = some (.cells #[.int .i64 0, .slice none 0 0] 85 (0, 0)) := by
        rw [hW6]; simp only [al_heap, Array.getElem?_push, Array.size_push]; simp <;> omega
      have a0 : W6.cell? ⟨wo.heap.size, 0, none⟩ = some (.int .i64 0) := by simp [World.cell?, hh6]
      have a1 : W6.cell? ⟨wo.heap.size, 1, none⟩ = some (.slice none 0 0) := by simp [World.cell?, hh6]
      have a2 : W6.frozen? ⟨wo.heap.size, 0, none⟩ = false := by simp [World.frozen?, hh6]
      have a3 : W6.frozen? ⟨wo.heap.size, 1, none⟩ = false := by simp [World.frozen?, hh6]
      have b0 : W6.cell? ⟨wo.heap.size + 1, 0, none⟩ = some (.int .i64 0) := by simp [World.cell?, hh7]
      have b1 : W6.cell? ⟨wo.heap.size + 1, 1, none⟩ = some (.slice none 0 0) := by simp [World.cell?, hh7]
      have b2 : W6.frozen? ⟨wo.heap.size + 1, 0, none⟩ = false := by simp [World.frozen?, hh7]
      have b3 : W6.frozen? ⟨wo.heap.size + 1, 1, none⟩ = false := by simp [World.frozen?, hh7]
      have X0 := (hb6.cell (p := ⟨sb, 0, none⟩) hsbo).trans X0
      have X3 := (hb6.cell (p := ⟨sb, 3, none⟩) hsbo).trans X3
      have T0 := (hb6.cell (p := ⟨tb, 0, none⟩) htbo).trans T0
      have T1 := (hb6.cell (p := ⟨tb, 1, none⟩) htbo).trans T1
      have HB6 := Lib.hid hb6
      clear hW6 hb6 hh6 hh7
      go_upto_region 9 with fail
      rw [← HW6.out]
      have hk : W6.cell? ⟨sb, 0, none⟩ = some (.pointer (some ⟨tb, 0, none⟩)) ∧ W6.cell? ⟨tb, 0, none⟩ = some (.int .i64 W) ∧ W6.cell? ⟨tb, 1, none⟩ = some (.slice tad tl tcap) := ⟨X0, T0, T1⟩
      have hky : ∀ (Wz : World) (g : Nat) (x y : Value), wo.heap.size ≤ g → (Wz.cell? ⟨sb, 0, none⟩ = some (.pointer (some ⟨tb, 0, none⟩)) ∧ Wz.cell? ⟨tb, 0, none⟩ = some (.int .i64 W) ∧ Wz.cell? ⟨tb, 1, none⟩ = some (.slice tad tl tcap)) → (((Wz.setCell ⟨g, 0, none⟩ x).setCell ⟨g, 1, none⟩ y).cell? ⟨sb, 0, none⟩ = some (.pointer (some ⟨tb, 0, none⟩)) ∧ ((Wz.setCell ⟨g, 0, none⟩ x).setCell ⟨g, 1, none⟩ y).cell? ⟨tb, 0, none⟩ = some (.int .i64 W) ∧ ((Wz.setCell ⟨g, 0, none⟩ x).setCell ⟨g, 1, none⟩ y).cell? ⟨tb, 1, none⟩ = some (.slice tad tl tcap)) := fun Wz g x y hg h =>
        ⟨cell_setd (by show g ≠ sb; omega) (cell_setd (by show g ≠ sb; omega) h.1), cell_setd (by show g ≠ tb; omega) (cell_setd (by show g ≠ tb; omega) h.2.1), cell_setd (by show g ≠ tb; omega) (cell_setd (by show g ≠ tb; omega) h.2.2)⟩
      go_region_held3 (fun Wx => Wx.cell? ⟨sb, 0, none⟩ = some (.pointer (some ⟨tb, 0, none⟩)) ∧ Wx.cell? ⟨tb, 0, none⟩ = some (.int .i64 W) ∧ Wx.cell? ⟨tb, 1, none⟩ = some (.slice tad tl tcap)) (first | exact hk | exact hky _ _ _ _ (by omega) hk | exact hky _ _ _ _ (by omega) (hky _ _ _ _ (by omega) hk) | go_keep) (fail)
      rename_i hHeld
      obtain ⟨W8, hW8⟩ : ∃ W8, W8 = ((((W6.setCell ⟨wo.heap.size, 0, none⟩ (.int .i64 W)).setCell ⟨wo.heap.size, 1, none⟩ (.slice tad tl tcap)).setCell ⟨wo.heap.size + 1, 0, none⟩ (.int .i64 W)).setCell ⟨wo.heap.size + 1, 1, none⟩ (.slice tad tl tcap)).drew := ⟨_, rfl⟩
      rw [← hW8]
      have hb8 : Below wo.heap.size wo W8 := by
        rw [hW8]
        exact ((((HB6.out.setCell (Nat.le_refl _) _).setCell (Nat.le_refl _) _).setCell (Nat.le_succ _) _).setCell (Nat.le_succ _) _).drew
      have p0 : W8.cell? ⟨wo.heap.size, 0, none⟩ = some (.int .i64 W) := by
        rw [hW8]
        exact cell_drewd (cell_setd (by show _ ≠ _; simp) (cell_setd (by show _ ≠ _; simp) ((cell_set_other _ (by simp)).trans (cell_set_same _ a0))))
      have p1 : W8.cell? ⟨wo.heap.size, 1, none⟩ = some (.slice tad tl tcap) := by
        rw [hW8]
        exact cell_drewd (cell_setd (by show _ ≠ _; simp) (cell_setd (by show _ ≠ _; simp) (cell_set_same _ ((cell_set_other _ (by simp)).trans a1))))
      have p2 : W8.cell? ⟨wo.heap.size + 1, 0, none⟩ = some (.int .i64 W) := by
        rw [hW8]
        exact cell_drewd ((cell_set_other _ (by simp)).trans (cell_set_same _ (cell_setd (by show _ ≠ _; simp) (cell_setd (by show _ ≠ _; simp) b0))))
      have p3 : W8.cell? ⟨wo.heap.size + 1, 1, none⟩ = some (.slice tad tl tcap) := by
        rw [hW8]
        exact cell_drewd (cell_set_same _ ((cell_set_other _ (by simp)).trans (cell_setd (by show _ ≠ _; simp) (cell_setd (by show _ ≠ _; simp) b1))))
      have hfr : ∀ p, W8.frozen? p = W6.frozen? p := fun p => by
        rw [hW8]
        show ((((W6.setCell _ _).setCell _ _).setCell _ _).setCell _ _).frozen? p = _
        simp only [World.frozen?_setCell]
      have q2 := (hfr _).trans a2
      have q3 := (hfr _).trans a3
      have q4 := (hfr _).trans b2
      have q5 := (hfr _).trans b3
      obtain ⟨i1, hi1e⟩ : ∃ i1, i = i1 + 1 := ⟨i - 1, by omega⟩
      have hii : (i : Int) - 1 = (i1 : Int) := by omega
      have hww : IntKind.i64.wrap ((i : Int) - 1) = (i1 : Int) := by rw [hii]; exact IntWalk.i64_in _ (by omega)
      have hww2 : IntKind.i64.wrap (i1 : Int) = (i1 : Int) := IntWalk.i64_in _ (by omega)
      have hi1n : i1 < n := by omega
      have hi1z : (i1 : Int) < (n : Int) := by omega
      have hi10 : (0 : Int) ≤ (i1 : Int) := by omega
      have hiu : i < us.length := by rw [HNu.out]; exact hlt
      have hio : i < olds.length := by have := HLen.out; have := HNv.out; omega
      have hju : i1 < us.length := by omega
      have hjo : i1 < olds.length := by omega
      have hrdI := HS.out.rd i hiu hio
      have hrdJ := HS.out.rd i1 hju hjo
      obtain ⟨g, hva, hgl, hclI⟩ := own_cell (by have := HS.out.own; rw [HNu.out] at this; exact this) i hiu
      obtain ⟨g', hva', _, hclJ⟩ := own_cell (by have := HS.out.own; rw [HNu.out] at this; exact this) i1 hju
      subst hva
      injection hva' with hva'
      injection hva' with hva'
      subst hva'
      obtain ⟨R, hR⟩ : ∃ R, olds[i] = R := ⟨_, rfl⟩
      obtain ⟨R1, hR1⟩ : ∃ R1, olds[i1] = R1 := ⟨_, rfl⟩
      have hAI : Fb.actS W s (olds.getD i []) = ((Fb.lookS R W s).1, (Fb.lookS R W s).2.1) := by
        have : olds.getD i [] = R := by rw [← hR]; simp [hio]
        rw [this]; rfl
      have hAJ : Fb.actS W s (olds.getD (i - 1) []) = ((Fb.lookS R1 W s).1, (Fb.lookS R1 W s).2.1) := by
        have : olds.getD (i - 1) [] = R1 := by rw [← hR1, show i - 1 = i1 by omega]; simp [hjo]
        rw [this]; rfl
      rw [hR] at hrdI
      rw [hR1] at hrdJ
      obtain ⟨adI, capI, huI, _, _⟩ := hrdI.form
      obtain ⟨adJ, capJ, huJ, _, _⟩ := hrdJ.form
      obtain ⟨lI, hlI⟩ : ∃ lI, R.length = lI := ⟨_, rfl⟩
      obtain ⟨lJ, hlJ⟩ : ∃ lJ, R1.length = lJ := ⟨_, rfl⟩
      rw [hlI] at huI
      rw [hlJ] at huJ
      rw [huI] at hrdI hclI
      rw [huJ] at hrdJ hclJ
      have hbw8 : Below w.heap.size w W8 := HBw.out.trans (hb8.mono HBw.out.size)
      have Y3 := (hbw8.cell (p := ⟨sb, 3, none⟩) hw0).trans c3
      have YI := (hbw8.cell (p := ⟨g, i, none⟩) hgl).trans hclI
      have YJ := (hbw8.cell (p := ⟨g, i1, none⟩) hgl).trans hclJ
      have hgo : g < wo.heap.size := by have := HBw.out.size; omega
      have HRI := Lib.hid hrdI
      have HRJ := Lib.hid hrdJ
      have HB8 := Lib.hid hb8
      have HAI := Lib.hid hAI
      have HAJ := Lib.hid hAJ
      obtain ⟨TI, hTI⟩ : ∃ TI, Fb.lookS R W s = TI := ⟨_, rfl⟩
      obtain ⟨TJ, hTJ⟩ : ∃ TJ, Fb.lookS R1 W s = TJ := ⟨_, rfl⟩
      have HTI := Lib.hid hTI
      have HTJ := Lib.hid hTJ
      have HI1 := Lib.hid hi1e
      clear hW8 hb8 hfr hrdI hrdJ hclI hclJ hR hR1 hAI hAJ hbw8 hlI hlJ huI huJ hi1e hTI hTJ a0 a1 a2 a3 b0 b1 b2 b3 X0 X3 T0 T1 hk hky hHeld HW6
      go_upto_region 10 with fail
      have hk : W8.cell? ⟨sb, 3, none⟩ = some (.slice (some ⟨g, 0, none⟩) n vc) ∧ W8.cell? ⟨g, i, none⟩ = some (.slice adI lI capI) ∧ W8.cell? ⟨g, i1, none⟩ = some (.slice adJ lJ capJ) := ⟨Y3, YI, YJ⟩
      have hky : ∀ (Wz : World) (gz : Nat) (x : Value), wo.heap.size ≤ gz → (Wz.cell? ⟨sb, 3, none⟩ = some (.slice (some ⟨g, 0, none⟩) n vc) ∧ Wz.cell? ⟨g, i, none⟩ = some (.slice adI lI capI) ∧ Wz.cell? ⟨g, i1, none⟩ = some (.slice adJ lJ capJ)) → ((Wz.setCell ⟨gz, 1, none⟩ x).cell? ⟨sb, 3, none⟩ = some (.slice (some ⟨g, 0, none⟩) n vc) ∧ (Wz.setCell ⟨gz, 1, none⟩ x).cell? ⟨g, i, none⟩ = some (.slice adI lI capI) ∧ (Wz.setCell ⟨gz, 1, none⟩ x).cell? ⟨g, i1, none⟩ = some (.slice adJ lJ capJ)) := fun Wz gz x hgz h =>
        ⟨cell_setd (by show gz ≠ sb; omega) h.1, cell_setd (by show gz ≠ g; omega) h.2.1, cell_setd (by show gz ≠ g; omega) h.2.2⟩
      go_region_held3 (fun Wx => Wx.cell? ⟨sb, 3, none⟩ = some (.slice (some ⟨g, 0, none⟩) n vc) ∧ Wx.cell? ⟨g, i, none⟩ = some (.slice adI lI capI) ∧ Wx.cell? ⟨g, i1, none⟩ = some (.slice adJ lJ capJ)) (first | exact hk | exact hky _ _ _ (by omega) hk | exact hky _ _ _ (by omega) (hky _ _ _ (by omega) hk) | go_keep) (fail)
      rename_i hHeld
      obtain ⟨W10, hW10⟩ : ∃ W10, W10 = ((W8.setCell ⟨wo.heap.size, 1, none⟩ (.slice adJ lJ capJ)).setCell ⟨wo.heap.size + 1, 1, none⟩ (.slice adI lI capI)).drew := ⟨_, rfl⟩
      rw [← hW10]
      have hb10 : Below wo.heap.size wo W10 := by rw [hW10]; exact ((HB8.out.setCell (Nat.le_refl _) _).setCell (Nat.le_succ _) _).drew
      have u0 : W10.cell? ⟨wo.heap.size, 0, none⟩ = some (.int .i64 W) := by
        rw [hW10]; exact cell_drewd (cell_setd (by show _ ≠ _; simp) ((cell_set_other _ (by simp)).trans p0))
      have u1 : W10.cell? ⟨wo.heap.size, 1, none⟩ = some (.slice adJ lJ capJ) := by
        rw [hW10]; exact cell_drewd (cell_setd (by show _ ≠ _; simp) (cell_set_same _ p1))
      have u2 : W10.cell? ⟨wo.heap.size + 1, 0, none⟩ = some (.int .i64 W) := by
        rw [hW10]; exact cell_drewd ((cell_set_other _ (by simp)).trans (cell_setd (by show _ ≠ _; simp) p2))
      have u3 : W10.cell? ⟨wo.heap.size + 1, 1, none⟩ = some (.slice adI lI capI) := by
        rw [hW10]; exact cell_drewd (cell_set_same _ (cell_setd (by show _ ≠ _; simp) p3))
      have hfr : ∀ p, W10.frozen? p = W8.frozen? p := fun p => by
        rw [hW10]
        show ((W8.setCell _ _).setCell _ _).frozen? p = _
        simp only [World.frozen?_setCell]
      have hbw10 : Below w.heap.size w W10 := HBw.out.trans (hb10.mono HBw.out.size)
      have hwow : w.heap.size ≤ wo.heap.size := HBw.out.size
      have hTJ : Tab 1 0 (fun b => ok b ∧ b < wo.heap.size) W10 wo.heap.size (.slice adJ lJ capJ) R1 W := ⟨u1, u0, (hfr _).trans q3, ((HRJ.out.lt).below hbw10).mono (fun b hb => ⟨hb.1, by omega⟩), fun b hb => by omega, HS.out.tab.lo, HS.out.tab.hi⟩
      have hTI : Tab 1 0 (fun b => ok b ∧ b < wo.heap.size) W10 (wo.heap.size + 1) (.slice adI lI capI) R W := ⟨u3, u2, (hfr _).trans q5, ((HRI.out.lt).below hbw10).mono (fun b hb => ⟨hb.1, by omega⟩), fun b hb => by omega, HS.out.tab.lo, HS.out.tab.hi⟩
      have hLJ := rlookup_any hTJ s HSs.out
      rw [HTJ.out] at hLJ
      have HLJ := Lib.hid hLJ
      have HLI : Hid (∀ Wx, Below W10.heap.size W10 Wx → Calls Tryz.prog 37 #[.pointer (some ⟨wo.heap.size + 1, 0, none⟩), .string s] Wx (LookPost (fun b => (ok b ∧ b < wo.heap.size) ∧ b < Wx.heap.size) Wx TI)) := fun Wx hWx => by
        have h := rlookup_any (hTI.below hWx) s HSs.out
        rwa [HTI.out] at h
      have HB10 := Lib.hid hb10
      clear hW10 hb10 u0 u1 u2 u3 hfr hbw10 hwow hTJ hTI hLJ p0 p1 p2 p3 q2 q3 q4 q5 Y3 YI YJ hk hky hHeld
      go_wp2_with fail
      refine HLJ.out.mono ?_
      rintro e w11 ⟨hb11, aJ, mJ, cJ, hrdJ, rfl⟩
      obtain ⟨W12, hW12⟩ : ∃ W12, W12 = w11.alloc (.cells #[.int .i64 TJ.1, .slice aJ mJ cJ] 60) := ⟨_, rfl⟩
      have hb12 : Below w11.heap.size w11 W12 := by rw [hW12]; exact (Below.refl _ _).alloc (Nat.le_refl _) _
      have hh12 : W12.heap[w11.heap.size]? = some (.cells #[.int .i64 TJ.1, .slice aJ mJ cJ] 60 (0, 0)) := by rw [hW12]; exact heap_alloc_new _ _
      have hs12 : W12.heap.size = w11.heap.size + 1 := by rw [hW12]; simp
      have hrJ := hrdJ.below hb12
      have hb1012 : Below W10.heap.size W10 W12 := hb11.trans (hb12.mono hb11.size)
      have HLI2 := Lib.hid (HLI.out W12 hb1012)
      have HB12 := Lib.hid hb1012
      have HRJ2 := Lib.hid hrJ
      have HH12 := Lib.hid hh12
      have HS12 := Lib.hid hs12
      have HW12 := Lib.hid hW12
      clear hb11 hb12 hrdJ hh12 hs12 hrJ hb1012 hW12 HLI HLJ
      go_wp2_with fail
      rw [← HW12.out]
      clear HW12
      refine HLI2.out.mono ?_
      rintro e w13 ⟨hb13, aI, mI, cI, hrdI, rfl⟩
      obtain ⟨W14, hW14⟩ : ∃ W14, W14 = w13.alloc (.cells #[.int .i64 TI.1, .slice aI mI cI] 60) := ⟨_, rfl⟩
      have hb14 : Below w13.heap.size w13 W14 := by rw [hW14]; exact (Below.refl _ _).alloc (Nat.le_refl _) _
      have hh14 : W14.heap[w13.heap.size]? = some (.cells #[.int .i64 TI.1, .slice aI mI cI] 60 (0, 0)) := by rw [hW14]; exact heap_alloc_new _ _
      have hb1214 : Below W12.heap.size W12 W14 := hb13.trans (hb14.mono hb13.size)
      have hh15 : W14.heap[w11.heap.size]? = some (.cells #[.int .i64 TJ.1, .slice aJ mJ cJ] 60 (0, 0)) := (hb1214.block _ (by have := HS12.out; omega)).trans HH12.out
      have y0 : W14.cell? ⟨w11.heap.size, 0, none⟩ = some (.int .i64 TJ.1) := by simp [World.cell?, hh15]
      have y1 : W14.cell? ⟨w11.heap.size, 1, none⟩ = some (.slice aJ mJ cJ) := by simp [World.cell?, hh15]
      have z0 : W14.cell? ⟨w13.heap.size, 0, none⟩ = some (.int .i64 TI.1) := by simp [World.cell?, hh14]
      have z1 : W14.cell? ⟨w13.heap.size, 1, none⟩ = some (.slice aI mI cI) := by simp [World.cell?, hh14]
      have HSm := Lib.hid (same_all TJ.1 TI.1 aJ aI mJ mI cJ cI TJ.2.1 TI.2.1 W14 (HRJ2.out.1.below hb1214) (hrdI.1.below hb14))
      have HB14 : Hid (Below wo.heap.size wo W14) := HB10.out.trans ((HB12.out.trans (hb1214.mono HB12.out.size)).mono HB10.out.size)
      have HW14 := Lib.hid hW14
      clear hb13 hrdI hW14 hb14 hh14 hb1214 hh15 HH12 HRJ2 HLI2
      go_upto_region 13 with fail
      rw [← HW14.out]
      clear HW14
      by_cases hd : TJ.1 = TI.1 ∧ TJ.2.1 = TI.2.1
      · have HSk : Hid (Fb.sinceN W s olds (i + 1) = Fb.sinceN W s olds i) := Fb.sinceN_skip (.inr (by
          rw [HAJ.out, HAI.out, HTJ.out, HTI.out]
          exact Prod.ext hd.1 hd.2))
        have hbt : (TJ.1 == TI.1 && decide (TJ.2.1 = TI.2.1)) = true := by rw [hd.1, hd.2]; simp
        rw [hbt] at HSm
        clear hd hbt
        go_wp2_with fail
        refine HSm.out.mono ?_
        rintro e w15 ⟨rfl, hb15⟩
        have HB15 : Hid (Below wo.heap.size wo w15) := HB14.out.trans (hb15.mono HB14.out.size)
        clear hb15
        go_wp2_with fail
        go_roundw
        case rel => exact ⟨i + 1, m, c, ad, l, by first | rfl | go_num, rfl, by omega, by omega, by omega, hml, hls.out.trans HSk.out.symm, ownsRow_below hOw.out HB15.out, hB.out.trans (HB15.out.mono hB.out.size)⟩
        case measure => simp [intOf]; omega
      · have HSk : Hid (Fb.sinceN W s olds (i + 1) = Fb.sinceN W s olds i ++ [(i : Int)]) := Fb.sinceN_more (by
          rw [HAJ.out, HAI.out, HTJ.out, HTI.out]
          rintro (h | h)
          · omega
          · exact hd ⟨(Prod.mk.inj h).1, (Prod.mk.inj h).2⟩)
        have hbt : (TJ.1 == TI.1 && decide (TJ.2.1 = TI.2.1)) = false := by
          rw [Bool.eq_false_iff]
          intro h
          rw [Bool.and_eq_true] at h
          exact hd ⟨eq_of_beq h.1, of_decide_eq_true h.2⟩
        rw [hbt] at HSm
        clear hd hbt
        go_wp2_with fail
        refine HSm.out.mono ?_
        rintro e w7 ⟨rfl, hb15⟩
        have HB7 : Hid (Below wo.heap.size wo w7) := HB14.out.trans (hb15.mono HB14.out.size)
        have HOw7 := Lib.hid (ownsRow_below hOw.out HB7.out)
        clear hb15 y0 y1 z0 z1
        have hbw7 : Below w.heap.size w w7 := HBw.out.trans (HB7.out.mono HBw.out.size)
        have S1 := (hbw7.cell (p := ⟨sb, 1, none⟩) hw0).trans HS.out.c1
        have S3 := (hbw7.cell (p := ⟨sb, 3, none⟩) hw0).trans c3
        obtain ⟨d, hd⟩ : ∃ d, n - 1 - i = d := ⟨_, rfl⟩
        have hk1 : (n : Int) - 1 - (i : Int) = (d : Int) := by omega
        have hw4 : IntKind.i64.wrap ((n : Int) - 1) = (n : Int) - 1 := IntWalk.i64_in _ (by omega)
        have hw5 : IntKind.i64.wrap ((n : Int) - 1 - (i : Int)) = (d : Int) := by rw [hk1]; exact IntWalk.i64_in _ (by omega)
        have hw6 : IntKind.i64.wrap (d : Int) = (d : Int) := IntWalk.i64_in _ (by omega)
        have hw7 : IntKind.u64.wrap (d : Int) = (d : Int) := by
          unfold IntKind.wrap
          simp [IntKind.signed, IntKind.bits]
          omega
        have hk8 : (ver : Int) - (d : Int) = (i : Int) := by have := HNv.out; omega
        have hw8 : IntKind.u64.wrap ((ver : Int) - (d : Int)) = (i : Int) := by
          rw [hk8]
          unfold IntKind.wrap
          simp [IntKind.signed, IntKind.bits]
          omega
        have hw9 : IntKind.u64.wrap (i : Int) = (i : Int) := by
          unfold IntKind.wrap
          simp [IntKind.signed, IntKind.bits]
          omega
        have hkeep : w7.cell? ⟨sb, 1, none⟩ = some (.int .u64 (ver : Int)) ∧ w7.cell? ⟨sb, 3, none⟩ = some (.slice (some ⟨g, 0, none⟩) n vc) := ⟨S1, S3⟩
        have hl7 : l.length ≤ 100000 := by have := hml.out; omega
        clear hd hbw7 hii hww hww2
        go_upto_region 14 with fail
        go_region_held3 (fun Wx => Wx.cell? ⟨sb, 1, none⟩ = some (.int .u64 (ver : Int)) ∧ Wx.cell? ⟨sb, 3, none⟩ = some (.slice (some ⟨g, 0, none⟩) n vc)) (first | exact hkeep | exact k8 | go_keep) (first
          | ((refine step_app_u rfl (.tmp 94) (.tmp 109) (by rfl) W4.heap.size (.slice ad m c) l (by rfl) (ownsRow_below HOw7.out (by repeat (first | (with_reducible exact Below.refl _ _) | (with_reducible refine Below.drew ?_) | (with_reducible refine Below.alloc ?_ (by simp) _)))) w7.heap.size 1 (i : Int) (by rfl) (by exact heap_alloc_new _ _) hl7 (by have := hB.out.size; have := HB7.out.size; simp <;> omega) ?_); intro ad8 c8 w8 ho8 hg8 hat8; have HO8 := Lib.hid ho8; have HQ8 := Lib.hid (app_u_post (w := w7) rfl (by repeat (first | (with_reducible exact Below.refl _ _) | (with_reducible refine Below.drew ?_) | (with_reducible refine Below.alloc ?_ (by simp) _))) hg8 hat8 (n := l.length + 1) (c := c8) (v' := .slice ad8 (l.length + 1) c8)); have hsb8 : ¬ (Value.slice ad m c).ownBlock = some sb := (fun e => by have := (own_lt HOw7.out e).1; omega); have hsw7 : sb < w7.heap.size := (by have := HB7.out.size; omega); have k8 : w8.cell? ⟨sb, 1, none⟩ = some (.int .u64 (ver : Int)) ∧ w8.cell? ⟨sb, 3, none⟩ = some (.slice (some ⟨g, 0, none⟩) n vc) := ⟨(HQ8.out.1.cell (p := ⟨sb, 1, none⟩) hsw7 hsb8).trans hkeep.1, (HQ8.out.1.cell (p := ⟨sb, 3, none⟩) hsw7 hsb8).trans hkeep.2⟩; clear ho8 hg8 hat8))
        have HB8 : Hid (Below W4.heap.size W4 w8) := (hB.out.trans (HB7.out.mono hB.out.size)).trans (HQ8.out.1.toBelow (by have := hB.out.size; have := HB7.out.size; omega) (fun k hk => (own_lt HOw7.out hk).1))
        have hm1 : Hid (l.length + 1 = (l ++ [(i : Int)]).length) := by show _ = _; simp
        have hml2 : l.length + 1 ≤ i + 1 := by have := hml.out; omega
        have hls2 : Hid (l ++ [(i : Int)] = Fb.sinceN W s olds (i + 1)) := by show _ = _; rw [HSk.out, ← hls.out]
        clear hsb8 hsw7 k8 hkeep hk1 hk8 S1 S3
        go_wp2_with fail
        go_roundw
        case rel => exact ⟨i + 1, l.length + 1, c8, ad8, l ++ [(i : Int)], by first | rfl | go_num, rfl, by omega, by omega, hml2, hm1, hls2, HO8.out, HB8.out⟩
        case measure => simp [intOf]; omega
    · have hin' : i = n := by omega
      have hF : l = Fb.sinceN W s olds (ver + 1) := by rw [hls.out, hin', HNv.out]
      have hf : SincePost w (Fb.sinceN W s olds (ver + 1)) (.returned (.tuple #[.slice ad m c, .int .i64 0])) wo := by
        rw [← hF, hml.out]
        have h := hOw.out
        rw [hml.out] at h
        exact ⟨ad, c, rfl, ⟨h.1, h.2.imp id fun ⟨g, cap, cur, h1, h2, h3⟩ => ⟨g, cap, cur, h1, by omega, h3⟩⟩, hbw⟩
      have HF := Lib.hid hf
      have hltz : decide ((i : Int) < (n : Int)) = false := by simp; omega
      clear hF hf hin' hbw
      go_wp2_with fail
      go_ret2
      exact HF.out
end Go.Proofs.YtlbelkjgaeaaeaaGreat
/-
  The law StoreRuns: both stores, kept alike; Install of every kind.
-/
namespace Go.Proofs.YtlbelkjgaeaaeaaGreat
open Go.RowKit Go.Shelf Go.Lib Go.Sort
set_option linter.unusedVariables false
set_option linter.unusedSectionVars false
set_option linter.unusedSimpArgs false

namespace Fb
/-- Does an install make a version? -/
def insG (W : Int) (L : List Rl) (m : List (Int × Rl)) : Bool := decide (m ≠ []) && decide ((doL W L m 0).2.2 = 0)
/-- What an install answers. -/
def insR (W : Int) (L : List Rl) (ver : Nat) (m : List (Int × Rl)) : Int × Int × Int := if m = [] then (0, 0, 1) else if (doL W L m 0).2.2 = 0 then ((ver : Int) + 1, 0, 0) else (0, (doL W L m 0).2.1, (doL W L m 0).2.2)
def insV (W : Int) (L : List Rl) (ver : Nat) (m : List (Int × Rl)) : Nat := if insG W L m then ver + 1 else ver
def insO (W : Int) (L : List Rl) (olds : List (List Rl)) (m : List (Int × Rl)) : List (List Rl) := if insG W L m then olds ++ [endL W L m] else olds
end Fb

theorem s_inst {ok ok2 : Nat → Prop} {base : Nat} {w : World} {sb tb : Nat} {v vo : Value} {us : List Value} {L : List Rl} {W : Int} {ver boot : Nat} {olds : List (List Rl)} (h : Sto ok base w sb tb v vo us L W ver boot olds) {cv : Value} {m : List (Int × Rl)} (hc : RdsC ok2 w cv m) (hm : m.length * 64 ≤ 140737488351232) (hL : Fb.Ok W L) (hv : ver ≤ 1000000) (ho : olds.length < 4096) (hbase : base ≤ w.heap.size) :
    Calls Tryz.prog 15 #[.pointer (some ⟨sb, 0, none⟩), cv] w fun e w' => e = .returned (.tuple #[.int .u64 (Fb.insR W L ver m).1, .int .i64 (Fb.insR W L ver m).2.1, .int .i64 (Fb.insR W L ver m).2.2]) ∧
      (∃ v' vo' us', Sto (fun b => okNew ok w b ∧ vo'.ownBlock ≠ some b) base w' sb tb v' vo' us' (Fb.endL W L m) W (Fb.insV W L ver m) boot (Fb.insO W L olds m) ∧ (∀ b, vo'.ownBlock = some b → vo.ownBlock = some b ∨ w.heap.size ≤ b)) ∧ But (fun b => b = sb ∨ b = tb ∨ vo.ownBlock = some b) w w' := by
  have hvl : ∀ b, vo.ownBlock = some b → b < w.heap.size := fun b e => (own_lt h.own e).2
  have hsl := h.slt
  have htl := h.tab.lt
  by_cases hm0 : m = []
  · subst hm0
    have e1 : Fb.insR W L ver [] = (0, 0, 1) := by simp [Fb.insR]
    have e2 : Fb.insV W L ver [] = ver := by simp [Fb.insV, Fb.insG]
    have e3 : Fb.insO W L olds [] = olds := by simp [Fb.insO, Fb.insG]
    have e4 : Fb.endL W L [] = L := by simp [Fb.endL, Fb.doL]
    rw [e1, e2, e3, e4]
    refine (install_none h hc).mono ?_
    rintro e w' ⟨rfl, rfl⟩
    exact ⟨rfl, ⟨v, vo, us, h.toP _ (fun b hb hl => ⟨.inl ⟨hb, hl⟩, fun e => (h.nv b e).1 hb⟩) (fun b hb => hb.1.elim (fun h' => h.ns b h'.1) (fun _ => by omega)) (fun b hb => hb.1.elim (fun h' => h.tab.no b h'.1) (fun _ => by omega)) (fun b hb e => e.2 hb), fun b hb => .inl hb⟩, But.refl _ _⟩
  · by_cases hd : (Fb.doL W L m 0).2.2 = 0
    · have e1 : Fb.insR W L ver m = ((ver : Int) + 1, 0, 0) := by simp [Fb.insR, hm0, hd]
      have e2 : Fb.insV W L ver m = ver + 1 := by simp [Fb.insV, Fb.insG, hm0, hd]
      have e3 : Fb.insO W L olds m = olds ++ [Fb.endL W L m] := by simp [Fb.insO, Fb.insG, hm0, hd]
      rw [e1, e2, e3]
      exact install_good h hc hm hm0 hL hd hv ho hbase
    · have e1 : Fb.insR W L ver m = ((0 : Int), (((Fb.doL W L m 0).2.1 : Nat) : Int), (Fb.doL W L m 0).2.2) := by simp [Fb.insR, hm0, hd]
      have e2 : Fb.insV W L ver m = ver := by simp [Fb.insV, Fb.insG, hm0, hd]
      have e3 : Fb.insO W L olds m = olds := by simp [Fb.insO, Fb.insG, hm0, hd]
      rw [e1, e2, e3, endL_bad hd]
      refine (install_bad h hc hm hm0 hL hd).mono ?_
      rintro e w' ⟨rfl, ⟨v', hs⟩, hb⟩
      exact ⟨rfl, ⟨v', vo, us, hs.toP _ (fun b hb hl => ⟨hb, fun e => hb.elim (fun h' => (h.nv b e).1 h'.1) (fun _ => by have := hvl b e; omega)⟩) (fun b hb => hs.ns b hb.1) (fun b hb => hs.tab.no b hb.1) (fun b hb e => e.2 hb), fun b hb => .inl hb⟩, hb.mono fun b hb => .inr (.inl hb)⟩

theorem r_inst {ok ok2 : Nat → Prop} {base : Nat} {w : World} {sb tb : Nat} {v vo : Value} {us : List Value} {L : List Rl} {W : Int} {ver boot : Nat} {olds : List (List Rl)} (h : RSto ok base w sb tb v vo us L W ver boot olds) {cv : Value} {m : List (Int × Rl)} (hc : RdsC ok2 w cv m) (hm : m.length * 64 ≤ 140737488351232) (hL : Fb.Ok W L) (hv : ver ≤ 1000000) (ho : olds.length < 4096) (hbase : base ≤ w.heap.size) :
    Calls Tryz.prog 18 #[.pointer (some ⟨sb, 0, none⟩), cv] w fun e w' => e = .returned (.tuple #[.int .u64 (Fb.insR W L ver m).1, .int .i64 (Fb.insR W L ver m).2.1, .int .i64 (Fb.insR W L ver m).2.2]) ∧
      (∃ v' vo' us', RSto (fun b => okNew ok w b ∧ vo'.ownBlock ≠ some b) base w' sb tb v' vo' us' (Fb.endL W L m) W (Fb.insV W L ver m) boot (Fb.insO W L olds m) ∧ (∀ b, vo'.ownBlock = some b → vo.ownBlock = some b ∨ w.heap.size ≤ b)) ∧ But (fun b => b = sb ∨ b = tb ∨ vo.ownBlock = some b) w w' := by
  have hvl : ∀ b, vo.ownBlock = some b → b < w.heap.size := fun b e => (own_lt h.own e).2
  have hsl := h.slt
  have htl := h.tab.lt
  by_cases hm0 : m = []
  · subst hm0
    have e1 : Fb.insR W L ver [] = (0, 0, 1) := by simp [Fb.insR]
    have e2 : Fb.insV W L ver [] = ver := by simp [Fb.insV, Fb.insG]
    have e3 : Fb.insO W L olds [] = olds := by simp [Fb.insO, Fb.insG]
    have e4 : Fb.endL W L [] = L := by simp [Fb.endL, Fb.doL]
    rw [e1, e2, e3, e4]
    refine (rinstall_none hc).mono ?_
    rintro e w' ⟨rfl, rfl⟩
    exact ⟨rfl, ⟨v, vo, us, h.toP _ (fun b hb hl => ⟨.inl ⟨hb, hl⟩, fun e => (h.nv b e).1 hb⟩) (fun b hb => hb.1.elim (fun h' => h.ns b h'.1) (fun _ => by omega)) (fun b hb => hb.1.elim (fun h' => h.tab.no b h'.1) (fun _ => by omega)) (fun b hb e => e.2 hb), fun b hb => .inl hb⟩, But.refl _ _⟩
  · by_cases hd : (Fb.doL W L m 0).2.2 = 0
    · have e1 : Fb.insR W L ver m = ((ver : Int) + 1, 0, 0) := by simp [Fb.insR, hm0, hd]
      have e2 : Fb.insV W L ver m = ver + 1 := by simp [Fb.insV, Fb.insG, hm0, hd]
      have e3 : Fb.insO W L olds m = olds ++ [Fb.endL W L m] := by simp [Fb.insO, Fb.insG, hm0, hd]
      rw [e1, e2, e3]
      exact rinstall_good h hc hm hm0 hL hd hv ho hbase
    · have e1 : Fb.insR W L ver m = ((0 : Int), (((Fb.doL W L m 0).2.1 : Nat) : Int), (Fb.doL W L m 0).2.2) := by simp [Fb.insR, hm0, hd]
      have e2 : Fb.insV W L ver m = ver := by simp [Fb.insV, Fb.insG, hm0, hd]
      have e3 : Fb.insO W L olds m = olds := by simp [Fb.insO, Fb.insG, hm0, hd]
      rw [e1, e2, e3, endL_bad hd]
      refine (rinstall_bad h hc hm hm0 hL hd).mono ?_
      rintro e w' ⟨rfl, ⟨v', hs⟩, hb⟩
      exact ⟨rfl, ⟨v', vo, us, hs.toP _ (fun b hb hl => ⟨hb, fun e => hb.elim (fun h' => (h.nv b e).1 h'.1) (fun _ => by have := hvl b e; omega)⟩) (fun b hb => hs.ns b hb.1) (fun b hb => hs.tab.no b hb.1) (fun b hb e => e.2 hb), fun b hb => .inl hb⟩, hb.mono fun b hb => .inr (.inl hb)⟩

/-- Blocks in which rules of two stores may lie. -/
def okB (n0 sb tb rb ub : Nat) (vo vo' : Value) (b : Nat) : Prop := n0 ≤ b ∧ b ≠ sb ∧ b ≠ tb ∧ b ≠ rb ∧ b ≠ ub ∧ vo.ownBlock ≠ some b ∧ vo'.ownBlock ≠ some b

/-- A store and the reference's, alike. -/
structure Both (n0 : Nat) (w : World) (sb tb rb ub : Nat) (v vo v' vo' : Value) (us us' : List Value) (L : List Rl) (W : Int) (ver boot : Nat) (olds : List (List Rl)) : Prop where
  s : Sto (okB n0 sb tb rb ub vo vo') n0 w sb tb v vo us L W ver boot olds
  r : RSto (okB n0 sb tb rb ub vo vo') n0 w rb ub v' vo' us' L W ver boot olds
  okL : Fb.Ok W L
  okO : ∀ l ∈ olds, Fb.Ok W l
  lv : olds.length = ver + 1
  vs : ∀ b, vo.ownBlock = some b → vo'.ownBlock ≠ some b ∧ b ≠ rb ∧ b ≠ ub
  vr : ∀ b, vo'.ownBlock = some b → b ≠ sb ∧ b ≠ tb
  ne : sb ≠ rb ∧ sb ≠ ub ∧ tb ≠ rb ∧ tb ≠ ub
  lo : n0 ≤ sb ∧ n0 ≤ tb ∧ n0 ≤ rb ∧ n0 ≤ ub

section
variable {n0 : Nat} {w w1 w2 : World} {sb tb rb ub : Nat} {v vo v' vo' : Value} {us us' : List Value} {L : List Rl} {W : Int} {ver boot : Nat} {olds : List (List Rl)}

theorem Both.below (h : Both n0 w sb tb rb ub v vo v' vo' us us' L W ver boot olds) (hb : Below w.heap.size w w1) : Both n0 w1 sb tb rb ub v vo v' vo' us us' L W ver boot olds :=
  ⟨h.s.below hb, h.r.below hb, h.okL, h.okO, h.lv, h.vs, h.vr, h.ne, h.lo⟩

theorem Both.mid (h : Both n0 w sb tb rb ub v vo v' vo' us us' L W ver boot olds) (b1 : But (fun b => b = sb ∨ b = tb ∨ vo.ownBlock = some b) w w1) :
    RSto (fun b => okB n0 sb tb rb ub vo vo' b ∧ b < w.heap.size) n0 w1 rb ub v' vo' us' L W ver boot olds := by
  have h0 : RSto (fun b => okB n0 sb tb rb ub vo vo' b ∧ b < w.heap.size) n0 w rb ub v' vo' us' L W ver boot olds := h.r.toP _ (fun b hb hl => ⟨hb, hl⟩) (fun b hb => h.r.ns b hb.1) (fun b hb => h.r.tab.no b hb.1) (fun b hb e => (h.r.nv b hb).1 e.1)
  refine h0.but b1 ?_ ?_ ?_ ?_
  · rintro (e | e | e)
    · exact h.ne.1 e.symm
    · exact h.ne.2.2.1 e.symm
    · exact (h.vs _ e).2.1 rfl
  · rintro (e | e | e)
    · exact h.ne.2.1 e.symm
    · exact h.ne.2.2.2 e.symm
    · exact (h.vs _ e).2.2 rfl
  · rintro b hb (e | e | e)
    · exact hb.1.2.1 e
    · exact hb.1.2.2.1 e
    · exact hb.1.2.2.2.2.2.1 e
  · rintro b hb (e | e | e)
    · exact (h.vr b hb).1 e
    · exact (h.vr b hb).2 e
    · exact (h.vs b e).1 hb

theorem Both.install (h : Both n0 w sb tb rb ub v vo v' vo' us us' L W ver boot olds) (hn0 : n0 ≤ w.heap.size) {v1 vo1 v2 vo2 : Value} {us1 us2 : List Value} {E : List Rl} {ver' : Nat} {olds' : List (List Rl)}
    (h1 : Sto (fun b => okNew (okB n0 sb tb rb ub vo vo') w b ∧ vo1.ownBlock ≠ some b) n0 w1 sb tb v1 vo1 us1 E W ver' boot olds') (o1 : ∀ b, vo1.ownBlock = some b → vo.ownBlock = some b ∨ w.heap.size ≤ b) (b1 : But (fun b => b = sb ∨ b = tb ∨ vo.ownBlock = some b) w w1)
    (h2 : RSto (fun b => okNew (fun b => okB n0 sb tb rb ub vo vo' b ∧ b < w.heap.size) w1 b ∧ vo2.ownBlock ≠ some b) n0 w2 rb ub v2 vo2 us2 E W ver' boot olds') (o2 : ∀ b, vo2.ownBlock = some b → vo'.ownBlock = some b ∨ w1.heap.size ≤ b) (b2 : But (fun b => b = rb ∨ b = ub ∨ vo'.ownBlock = some b) w1 w2)
    (hE : Fb.Ok W E) (hO : ∀ l ∈ olds', Fb.Ok W l) (hl : olds'.length = ver' + 1) : Both n0 w2 sb tb rb ub v1 vo1 v2 vo2 us1 us2 E W ver' boot olds' := by
  have hs1 := b1.size
  have hsl := h.s.slt
  have htl := h.s.tab.lt
  have hrl := h.r.slt
  have hul := h.r.tab.lt
  have hvl : ∀ b, vo.ownBlock = some b → b < w.heap.size ∧ n0 ≤ b := fun b e => ⟨(own_lt h.s.own e).2, (own_lt h.s.own e).1⟩
  have hvl' : ∀ b, vo'.ownBlock = some b → b < w.heap.size ∧ n0 ≤ b := fun b e => ⟨(own_lt h.r.own e).2, (own_lt h.r.own e).1⟩
  have hv1l : ∀ b, vo1.ownBlock = some b → b < w1.heap.size := fun b e => (own_lt h1.own e).2
  have hne := h.ne
  have hlo := h.lo
  have hsb := h.s.ne
  have hrb := h.r.ne
  have hvs := h.vs
  have hvr := h.vr
  have hvs2 := h.s.nv
  have hvr2 := h.r.nv
  -- the code's, at w1, below w1; then at w2
  have a0 : Sto (fun b => (okNew (okB n0 sb tb rb ub vo vo') w b ∧ vo1.ownBlock ≠ some b) ∧ b < w1.heap.size) n0 w1 sb tb v1 vo1 us1 E W ver' boot olds' := h1.toP _ (fun b hb hl => ⟨hb, hl⟩) (fun b hb => h1.ns b hb.1) (fun b hb => h1.tab.no b hb.1) (fun b hb e => e.1.2 hb)
  have a1 : Sto (fun b => (okNew (okB n0 sb tb rb ub vo vo') w b ∧ vo1.ownBlock ≠ some b) ∧ b < w1.heap.size) n0 w2 sb tb v1 vo1 us1 E W ver' boot olds' := by
    refine a0.but b2 ?_ ?_ ?_ ?_
    · rintro (e | e | e)
      · exact hne.1 e
      · exact hne.2.1 e
      · exact (hvr _ e).1 rfl
    · rintro (e | e | e)
      · exact hne.2.2.1 e
      · exact hne.2.2.2 e
      · exact (hvr _ e).2 rfl
    · rintro b ⟨⟨hb | hb, _⟩, _⟩ (e | e | e)
      · exact hb.1.2.2.2.1 e
      · exact hb.1.2.2.2.2.1 e
      · exact hb.1.2.2.2.2.2.2 e
      · omega
      · omega
      · have := (hvl' b e).1; omega
    · rintro b hb e0
      have hb' := o1 b hb
      rcases e0 with e | e | e
      · rcases hb' with hb' | hb'
        · exact (hvs b hb').2.1 e
        · omega
      · rcases hb' with hb' | hb'
        · exact (hvs b hb').2.2 e
        · omega
      · rcases hb' with hb' | hb'
        · exact (hvs b hb').1 e
        · have := (hvl' b e).1; omega
  have f1 : ∀ b, vo1.ownBlock = some b → vo2.ownBlock ≠ some b ∧ b ≠ rb ∧ b ≠ ub := fun b hb => by
    have hb' := o1 b hb
    have hbl := hv1l b hb
    refine ⟨fun e => ?_, fun e => ?_, fun e => ?_⟩
    · rcases o2 b e with e' | e'
      · rcases hb' with hb' | hb'
        · exact (hvs b hb').1 e'
        · have := (hvl' b e').1; omega
      · omega
    · rcases hb' with hb' | hb'
      · exact (hvs b hb').2.1 e
      · omega
    · rcases hb' with hb' | hb'
      · exact (hvs b hb').2.2 e
      · omega
  have f2 : ∀ b, vo2.ownBlock = some b → b ≠ sb ∧ b ≠ tb := fun b hb => by
    have hb' := o2 b hb
    rcases hb' with hb' | hb'
    · exact hvr b hb'
    · exact ⟨by omega, by omega⟩
  refine ⟨a1.toP _ (fun b hb hl => ?_) (fun b hb => hb.2.1) (fun b hb => hb.2.2.1) (fun b hb e => e.2.2.2.2.2.1 hb), h2.toP _ (fun b hb hl => ?_) (fun b hb => hb.2.2.2.1) (fun b hb => hb.2.2.2.2.1) (fun b hb e => e.2.2.2.2.2.2 hb), hE, hO, hl, f1, f2, hne, hlo⟩
  · obtain ⟨⟨hb, hv⟩, hbl⟩ := hb
    have g1 : vo2.ownBlock ≠ some b := fun e => by
      rcases o2 b e with e' | e'
      · rcases hb with hb | hb
        · exact hb.1.2.2.2.2.2.2 e'
        · have := (hvl' b e').1; omega
      · omega
    rcases hb with hb | hb
    · exact ⟨hb.1.1, hb.1.2.1, hb.1.2.2.1, hb.1.2.2.2.1, hb.1.2.2.2.2.1, hv, g1⟩
    · exact ⟨by omega, by omega, by omega, by omega, by omega, hv, g1⟩
  · obtain ⟨hb, hv⟩ := hb
    have g1 : vo1.ownBlock ≠ some b := fun e => by
      have h3 := hv1l b e
      rcases o1 b e with e' | e'
      · rcases hb with hb | hb
        · exact hb.1.1.2.2.2.2.2.1 e'
        · have := (hvl b e').1; omega
      · rcases hb with hb | hb
        · have := hb.1.2; omega
        · omega
    rcases hb with hb | hb
    · have hb1 := hb.1.1
      exact ⟨hb1.1, hb1.2.1, hb1.2.2.1, hb1.2.2.2.1, hb1.2.2.2.2.1, g1, hv⟩
    · exact ⟨by omega, by omega, by omega, by omega, by omega, g1, hv⟩

theorem Both.restart (h : Both n0 w sb tb rb ub v vo v' vo' us us' L W ver boot olds)
    (h1 : Sto (okB n0 sb tb rb ub vo vo') n0 w1 sb tb v vo us L W ver (boot + 1) olds) (h2 : RSto (okB n0 sb tb rb ub vo vo') n0 w2 rb ub v' vo' us' L W ver (boot + 1) olds) (b2 : But (fun b => b = rb) w1 w2) :
    Both n0 w2 sb tb rb ub v vo v' vo' us us' L W ver (boot + 1) olds :=
  ⟨h1.but b2 h.ne.1 h.ne.2.2.1 (fun b hb e => hb.2.2.2.1 e) (fun b hb e => (h.vs b hb).2.1 e), h2, h.okL, h.okO, h.lv, h.vs, h.vr, h.ne, h.lo⟩
end
end Go.Proofs.YtlbelkjgaeaaeaaGreat
/-
  The law StoreRuns: numbers; one act on both.
-/
namespace Go.Proofs.YtlbelkjgaeaaeaaGreat
open Go.RowKit Go.Shelf Go.Lib Go.Sort
set_option linter.unusedVariables false
set_option linter.unusedSectionVars false
set_option linter.unusedSimpArgs false

theorem ownU_cell {w : World} {base : Nat} {ad : Option Addr} {n c : Nat} {l : List Int} (h : OwnU w base (.slice ad n c) l) (hn : n = l.length) (k : Nat) (hk : k < l.length) : ∃ g, ad = some ⟨g, 0, none⟩ ∧ g < w.heap.size ∧ w.cell? ⟨g, k, none⟩ = some (.int .u64 l[k]) := by
  subst hn
  obtain ⟨g, e, hl, hc⟩ := own_cell h k (by rw [List.length_map]; exact hk)
  exact ⟨g, e, hl, by rw [hc, List.getElem_map]⟩

set_option maxHeartbeats 800000 in
set_option maxRecDepth 20000 in
theorem numbers_same (l : List Int) (a1 a2 : Option Addr) (c1 c2 n b1 b2 : Nat) (w : World) (hn : n = l.length) (hm : n ≤ 100000) (h1 : OwnU w b1 (.slice a1 n c1) l) (h2 : OwnU w b2 (.slice a2 n c2) l) :
    Calls Tryz.prog 24 #[.slice a1 n c1, .slice a2 n c2] w fun e w' => e = .returned (.bool true) ∧ ∃ k, w' = w.drewN k := by
  have H1 := Lib.hid h1
  have H2 := Lib.hid h2
  have HN := Lib.hid hn
  clear h1 h2 hn
  go_enter Tryz.func24, Tryz.ntmps24
  go_wp2_with fail
  go_loopw [5] (fun k wr => ∃ i : Nat, i ≤ n ∧ k = .int .i64 i ∧ ∃ q, wr = w.drewN q) (fun k _ => n - (intOf k).toNat)
  case atStart => exact ⟨0, Nat.zero_le _, rfl, 0, rfl⟩
  case round =>
    obtain ⟨i, hin, rfl, q, rfl⟩ := hrel
    by_cases hlt : i < n
    · have hil : i < l.length := by rw [← HN.out]; exact hlt
      obtain ⟨g1, rfl, _, k1⟩ := ownU_cell H1.out HN.out i hil
      obtain ⟨g2, rfl, _, k2⟩ := ownU_cell H2.out HN.out i hil
      have hi0 : (0 : Int) ≤ (i : Int) := by omega
      have hi1 : (i : Int) < (n : Int) := by omega
      have he : (l[i] == l[i]) = true := by simp
      go_wp2_with fail
      go_quiet (fail)
      go_wp2_with fail
      go_roundw
      case rel => exact ⟨i + 1, by omega, by go_num, _, rfl⟩
      case measure => simp [intOf]; omega
    · go_wp2_with fail
      go_ret
      exact ⟨rfl, _, rfl⟩

/-- Behind an act both are alike again. -/
def ActPost (n0 : Nat) (sb tb rb ub : Nat) (W : Int) (ver boot : Nat) (w : World) (e : Ending) (w' : World) : Prop :=
  e = .returned (.bool true) ∧ Below n0 w w' ∧ ∃ v vo v' vo' us us' L ver' boot' olds, Both n0 w' sb tb rb ub v vo v' vo' us us' L W ver' boot' olds ∧ ver' ≤ ver + 1 ∧ boot' ≤ boot + 1

theorem boxed {w W : World} {k : Int} {cv : Value} {bk : Int} {hd : ByteArray} {t : TypeId} (hW : W = w.alloc (.cells #[.int .i64 k, cv, .int .u64 bk, .string hd] t)) :
    Below w.heap.size w W ∧ W.cell? ⟨w.heap.size, 0, none⟩ = some (.int .i64 k) ∧ W.cell? ⟨w.heap.size, 1, none⟩ = some cv ∧ W.cell? ⟨w.heap.size, 2, none⟩ = some (.int .u64 bk) ∧ W.cell? ⟨w.heap.size, 3, none⟩ = some (.string hd) ∧ W.heap.size = w.heap.size + 1 := by
  have hh : W.heap[w.heap.size]? = some (.cells #[.int .i64 k, cv, .int .u64 bk, .string hd] t (0, 0)) := by rw [hW]; exact heap_alloc_new _ _
  exact ⟨by rw [hW]; exact (Below.refl _ _).alloc (Nat.le_refl _) _, by simp [World.cell?, hh], by simp [World.cell?, hh], by simp [World.cell?, hh], by simp [World.cell?, hh], by rw [hW]; simp⟩

set_option maxHeartbeats 3200000 in
set_option maxRecDepth 20000 in
theorem act_install {n0 : Nat} {w : World} {sb tb rb ub : Nat} {v vo v' vo' : Value} {us us' : List Value} {L : List Rl} {W : Int} {ver boot : Nat} {olds : List (List Rl)} (h : Both n0 w sb tb rb ub v vo v' vo' us us' L W ver boot olds) (cv : Value) (m : List (Int × Rl)) (bk : Int) (hd : ByteArray) (hc : RdsC (fun _ => True) w cv m) (hm : m.length * 64 ≤ 140737488351232) (hv : ver ≤ 4000) (hn0 : n0 ≤ w.heap.size) (hct : ∀ Wx, Below n0 w Wx → RdsC (fun _ => True) Wx cv m) :
    Calls Tryz.prog 7 #[.pointer (some ⟨sb, 0, none⟩), .pointer (some ⟨rb, 0, none⟩), .agg #[.int .i64 1, cv, .int .u64 bk, .string hd]] w (ActPost n0 sb tb rb ub W ver boot w) := by
  obtain ⟨W1, hW1⟩ : ∃ W1, W1 = w.alloc (.cells #[.int .i64 1, cv, .int .u64 bk, .string hd] 35) := ⟨_, rfl⟩
  obtain ⟨hb1, k0, k1, _, _, hs1⟩ := boxed hW1
  have hb0 : Below n0 w W1 := hb1.mono hn0
  have h1 := h.below hb1
  have HB0 := Lib.hid hb0
  have H1 := Lib.hid h1
  have HI := Lib.hid (s_inst h1.s (hct _ hb0) hm h.okL (by omega) (by have := h.lv; omega) (by omega))
  have HCt := Lib.hid hct
  have HM := Lib.hid hm
  have HW1 := Lib.hid hW1
  have hwl : w.heap.size < W1.heap.size := by omega
  have hsl := h.s.slt
  have htl := h.s.tab.lt
  have HOw := Lib.hid (fun b (e : vo.ownBlock = some b) => (own_lt h.s.own e).2)
  obtain ⟨acv, lcv, ccv, hcv⟩ : ∃ a n c, cv = .slice a n c := by obtain ⟨a, c, e, _, _⟩ := hc.form; exact ⟨a, _, c, e⟩
  obtain ⟨R, hR⟩ : ∃ R, Fb.insR W L ver m = R := ⟨_, rfl⟩
  have HR := Lib.hid hR
  rw [hR] at HI
  subst hcv
  clear h hc hm hct hb1 hb0 h1 hW1 hR hs1
  go_enter Tryz.func7, Tryz.ntmps7
  go_upto_region 1 with fail
  rw [← HW1.out]
  clear HW1
  go_wp2_with fail
  refine HI.out.mono ?_
  rintro e w2 ⟨rfl, ⟨v1, vo1, us1, hs2, o1⟩, hb2⟩
  have hb02 : Below n0 W1 w2 := hb2.toBelow (by omega) (fun k hk => by
    have := H1.out.lo
    rcases hk with e | e | e
    · omega
    · omega
    · exact (own_lt H1.out.s.own e).1)
  have hmid := H1.out.mid hb2
  have hns : ¬ (w.heap.size = sb ∨ w.heap.size = tb ∨ vo.ownBlock = some w.heap.size) := by
    rintro (e | e | e)
    · omega
    · omega
    · have := HOw.out _ e; omega
  have k1' : w2.cell? ⟨w.heap.size, 1, none⟩ = some (.slice acv lcv ccv) := (hb2.cell (p := ⟨w.heap.size, 1, none⟩) hwl hns).trans k1
  have hr2 := r_inst hmid (HCt.out _ (HB0.out.trans hb02)) HM.out H1.out.okL (by omega) (by have := H1.out.lv; omega) (by have := hb2.size; omega)
  rw [HR.out] at hr2
  have HR2 := Lib.hid hr2
  have HS2 := Lib.hid hs2
  have HO1 := Lib.hid o1
  have HB2 := Lib.hid hb2
  have HB02 := Lib.hid hb02
  clear hs2 o1 hb2 hb02 hmid hr2 k1 k0 hns
  go_wp2_with fail
  refine HR2.out.mono ?_
  rintro e w3 ⟨rfl, ⟨v2, vo2, us2, hs3, o2⟩, hb3⟩
  have hf : ActPost n0 sb tb rb ub W ver boot w (.returned (.bool true)) w3 := by
    refine ⟨rfl, (HB0.out.trans HB02.out).trans (hb3.toBelow (by have := HB02.out.size; omega) (fun k hk => ?_)), v1, vo1, v2, vo2, us1, us2, Fb.endL W L m, Fb.insV W L ver m, boot, Fb.insO W L olds m, H1.out.install (by omega) HS2.out HO1.out HB2.out hs3 o2 hb3 (H1.out.okL.end_ m) ?_ ?_, ?_, by omega⟩
    · have := H1.out.lo
      rcases hk with e | e | e
      · omega
      · omega
      · exact (own_lt H1.out.r.own e).1
    · intro l hl
      unfold Fb.insO at hl
      split at hl
      · rcases List.mem_append.1 hl with hl | hl
        · exact H1.out.okO l hl
        · simp at hl; subst hl; exact H1.out.okL.end_ m
      · exact H1.out.okO l hl
    · have := H1.out.lv
      unfold Fb.insO Fb.insV
      cases Fb.insG W L m
      · simpa using this
      · simp; omega
    · unfold Fb.insV
      split <;> omega
  have HF := Lib.hid hf
  clear hs3 o2 hb3 hf
  go_wp2_with fail
  go_ret
  exact HF.out

set_option maxHeartbeats 3200000 in
set_option maxRecDepth 20000 in
theorem act_restart {n0 : Nat} {w : World} {sb tb rb ub : Nat} {v vo v' vo' : Value} {us us' : List Value} {L : List Rl} {W : Int} {ver boot : Nat} {olds : List (List Rl)} (h : Both n0 w sb tb rb ub v vo v' vo' us us' L W ver boot olds) (acv : Option Addr) (lcv ccv : Nat) (bk : Int) (hd : ByteArray) (hv : boot ≤ 4000) (hn0 : n0 ≤ w.heap.size) :
    Calls Tryz.prog 7 #[.pointer (some ⟨sb, 0, none⟩), .pointer (some ⟨rb, 0, none⟩), .agg #[.int .i64 2, .slice acv lcv ccv, .int .u64 bk, .string hd]] w (ActPost n0 sb tb rb ub W ver boot w) := by
  obtain ⟨W1, hW1⟩ : ∃ W1, W1 = w.alloc (.cells #[.int .i64 2, .slice acv lcv ccv, .int .u64 bk, .string hd] 35) := ⟨_, rfl⟩
  obtain ⟨hb1, k0, k1, _, _, hs1⟩ := boxed hW1
  have hb0 : Below n0 w W1 := hb1.mono hn0
  have h1 := h.below hb1
  have HB0 := Lib.hid hb0
  have H1 := Lib.hid h1
  have HI := Lib.hid (restart_sto h1.s (by omega))
  have HW1 := Lib.hid hW1
  clear h hb1 hb0 h1 hW1 k1
  go_enter Tryz.func7, Tryz.ntmps7
  go_upto_region 1 with fail
  rw [← HW1.out]
  clear HW1
  go_wp2_with fail
  refine HI.out.mono ?_
  rintro e w2 ⟨rfl, hs2, hb2⟩
  have hr := H1.out.r.but hb2 (fun e => H1.out.ne.1 e.symm) (fun e => H1.out.ne.2.1 e.symm) (fun b hb e => hb.2.1 e) (fun b hb e => (H1.out.vr b hb).1 e)
  have HI2 := Lib.hid (rrestart_rsto hr (by omega))
  have HS2 := Lib.hid hs2
  have HB2 : Hid (Below n0 w w2) := HB0.out.trans (hb2.toBelow (by omega) (fun k hk => by have := H1.out.lo; omega))
  clear hr hs2 hb2 k0
  go_wp2_with fail
  refine HI2.out.mono ?_
  rintro e w3 ⟨rfl, hs3, hb3⟩
  have hf : ActPost n0 sb tb rb ub W ver boot w (.returned (.bool true)) w3 :=
    ⟨rfl, HB2.out.trans (hb3.toBelow (by have := HB2.out.size; omega) (fun k hk => by have := H1.out.lo; omega)), v, vo, v', vo', us, us', L, ver, boot + 1, olds, H1.out.restart HS2.out hs3 hb3, by omega, by omega⟩
  have HF := Lib.hid hf
  clear hs3 hb3 hf
  go_wp2_with fail
  go_ret
  exact HF.out

set_option maxHeartbeats 800000 in
set_option maxRecDepth 20000 in
theorem act_none {n0 : Nat} {w : World} {sb tb rb ub : Nat} {v vo v' vo' : Value} {us us' : List Value} {L : List Rl} {W : Int} {ver boot : Nat} {olds : List (List Rl)} (h : Both n0 w sb tb rb ub v vo v' vo' us us' L W ver boot olds) (k : Int) (hk : ¬ k = 1 ∧ ¬ k = 2 ∧ ¬ k = 3 ∧ ¬ k = 4) (acv : Option Addr) (lcv ccv : Nat) (bk : Int) (hd : ByteArray) (hn0 : n0 ≤ w.heap.size) :
    Calls Tryz.prog 7 #[.pointer (some ⟨sb, 0, none⟩), .pointer (some ⟨rb, 0, none⟩), .agg #[.int .i64 k, .slice acv lcv ccv, .int .u64 bk, .string hd]] w (ActPost n0 sb tb rb ub W ver boot w) := by
  obtain ⟨W1, hW1⟩ : ∃ W1, W1 = w.alloc (.cells #[.int .i64 k, .slice acv lcv ccv, .int .u64 bk, .string hd] 35) := ⟨_, rfl⟩
  obtain ⟨hb1, k0, k1, _, _, hs1⟩ := boxed hW1
  have HF : Hid (ActPost n0 sb tb rb ub W ver boot w (.returned (.bool true)) W1) := ⟨rfl, hb1.mono hn0, v, vo, v', vo', us, us', L, ver, boot, olds, h.below hb1, by omega, by omega⟩
  have HW1 := Lib.hid hW1
  have e1 : (k == 1) = false := by simpa using hk.1
  have e2 : (k == 2) = false := by simpa using hk.2.1
  have e3 : (k == 3) = false := by simpa using hk.2.2.1
  have e4 : (k == 4) = false := by simpa using hk.2.2.2
  clear h hb1 hW1 k1 hk
  go_enter Tryz.func7, Tryz.ntmps7
  go_upto_region 1 with fail
  rw [← HW1.out]
  clear HW1
  go_wp2_with fail
  go_ret
  exact HF.out

set_option maxHeartbeats 3200000 in
set_option maxRecDepth 20000 in
theorem act_since {n0 : Nat} {w : World} {sb tb rb ub : Nat} {v vo v' vo' : Value} {us us' : List Value} {L : List Rl} {W : Int} {ver boot : Nat} {olds : List (List Rl)} (h : Both n0 w sb tb rb ub v vo v' vo' us us' L W ver boot olds) (acv : Option Addr) (lcv ccv : Nat) (bk : Int) (hd : ByteArray) (hh : hd.size ≤ maxLen) (hv : ver ≤ 4000) (hn0 : n0 ≤ w.heap.size) :
    Calls Tryz.prog 7 #[.pointer (some ⟨sb, 0, none⟩), .pointer (some ⟨rb, 0, none⟩), .agg #[.int .i64 4, .slice acv lcv ccv, .int .u64 bk, .string hd]] w (ActPost n0 sb tb rb ub W ver boot w) := by
  obtain ⟨W1, hW1⟩ : ∃ W1, W1 = w.alloc (.cells #[.int .i64 4, .slice acv lcv ccv, .int .u64 bk, .string hd] 35) := ⟨_, rfl⟩
  obtain ⟨hb1, k0, k1, _, k3, hs1⟩ := boxed hW1
  have hb0 : Below n0 w W1 := hb1.mono hn0
  have h1 := h.below hb1
  have HB0 := Lib.hid hb0
  have H1 := Lib.hid h1
  have HW1 := Lib.hid hW1
  have hwl : w.heap.size < W1.heap.size := by omega
  by_cases he : (Fb.lookS L W hd).2.2 = 0
  · have HI := Lib.hid (since_good h1.s hd hh he h1.lv hv h1.okO)
    have HIR : Hid (∀ Wx, Below W1.heap.size W1 Wx → Calls Tryz.prog 23 #[.pointer (some ⟨rb, 0, none⟩), .string hd] Wx (SincePost Wx (Fb.sinceN W hd olds (ver + 1)))) := fun Wx hWx => rsince_good (h1.r.below hWx) hd hh he h1.lv hv h1.okO
    have hnl := Fb.sinceN_len W hd olds (ver + 1)
    obtain ⟨l, hl⟩ : ∃ l, Fb.sinceN W hd olds (ver + 1) = l := ⟨_, rfl⟩
    rw [hl] at HI HIR hnl
    clear h hb1 hb0 h1 hW1 k1 he hl hs1
    obtain ⟨n, hn⟩ : ∃ n, l.length = n := ⟨_, rfl⟩
    have HN := Lib.hid hn
    rw [hn] at hnl
    clear hn
    go_enter Tryz.func7, Tryz.ntmps7
    go_upto_region 1 with fail
    rw [← HW1.out]
    clear HW1
    go_wp2_with fail
    refine HI.out.mono ?_
    rintro e w2 ⟨a2, c2, rfl, ho2, hb2⟩
    have k3' := (hb2.cell (p := ⟨w.heap.size, 3, none⟩) hwl).trans k3
    have HO2 := Lib.hid ho2
    have HB2 := Lib.hid hb2
    clear ho2 hb2 k3 k0
    rw [HN.out] at HO2
    rw [HN.out]
    go_wp2_with fail
    refine (HIR.out _ HB2.out).mono ?_
    rintro e w3 ⟨a3, c3, rfl, ho3, hb3⟩
    rw [HN.out] at ho3
    rw [HN.out]
    have HNu := Lib.hid (numbers_same l a2 a3 c2 c3 n _ _ w3 HN.out.symm (by omega) (ownsRow_below HO2.out hb3) ho3)
    have HB3 := Lib.hid (HB2.out.trans (hb3.mono HB2.out.size))
    clear ho3 hb3 k3'
    go_wp2_with fail
    refine HNu.out.mono ?_
    rintro e w4 ⟨rfl, q, hw4⟩
    have hb4 : Below W1.heap.size W1 w4 := by rw [hw4]; exact below_dN HB3.out q
    have hf : ActPost n0 sb tb rb ub W ver boot w (.returned (.bool true)) w4 := ⟨rfl, HB0.out.trans (hb4.mono (by omega)), v, vo, v', vo', us, us', L, ver, boot, olds, H1.out.below hb4, by omega, by omega⟩
    have HF := Lib.hid hf
    clear hb4 hf hw4
    go_wp2_with fail
    go_ret
    exact HF.out
  · have HI := Lib.hid (since_bad h1.s hd hh he)
    have HIR : Hid (∀ Wx, Below W1.heap.size W1 Wx → Calls Tryz.prog 23 #[.pointer (some ⟨rb, 0, none⟩), .string hd] Wx fun e w' => e = .returned (.tuple #[.slice none 0 0, .int .i64 (Fb.lookS L W hd).2.2]) ∧ Below Wx.heap.size Wx w') := fun Wx hWx => rsince_bad (h1.r.below hWx) hd hh he
    obtain ⟨q, hq⟩ : ∃ q, (Fb.lookS L W hd).2.2 = q := ⟨_, rfl⟩
    rw [hq] at HI HIR
    clear h hb1 hb0 h1 hW1 k1 he hq hs1
    go_enter Tryz.func7, Tryz.ntmps7
    go_upto_region 1 with fail
    rw [← HW1.out]
    clear HW1
    go_wp2_with fail
    refine HI.out.mono ?_
    rintro e w2 ⟨rfl, hb2⟩
    have k3' := (hb2.cell (p := ⟨w.heap.size, 3, none⟩) hwl).trans k3
    have HB2 := Lib.hid hb2
    clear hb2 k3 k0
    go_wp2_with fail
    refine (HIR.out _ HB2.out).mono ?_
    rintro e w3 ⟨rfl, hb3⟩
    have HNu := Lib.hid (numbers_same [] none none 0 0 0 0 0 w3 rfl (by omega) (World.ownsRow_nil _ _ _ _) (World.ownsRow_nil _ _ _ _))
    have HB3 := Lib.hid (HB2.out.trans (hb3.mono HB2.out.size))
    clear hb3 k3'
    go_wp2_with fail
    refine HNu.out.mono ?_
    rintro e w4 ⟨rfl, q4, hw4⟩
    have hb4 : Below W1.heap.size W1 w4 := by rw [hw4]; exact below_dN HB3.out q4
    have hf : ActPost n0 sb tb rb ub W ver boot w (.returned (.bool true)) w4 := ⟨rfl, HB0.out.trans (hb4.mono (by omega)), v, vo, v', vo', us, us', L, ver, boot, olds, H1.out.below hb4, by omega, by omega⟩
    have HF := Lib.hid hf
    clear hb4 hf hw4
    go_wp2_with fail
    go_ret
    exact HF.out
end Go.Proofs.YtlbelkjgaeaaeaaGreat
/-
  The law StoreRuns: the act At; every act.
-/
namespace Go.Proofs.YtlbelkjgaeaaeaaGreat
open Go.RowKit Go.Shelf Go.Lib Go.Sort
set_option linter.unusedVariables false
set_option linter.unusedSectionVars false
set_option linter.unusedSimpArgs false

theorem rat_place {ok : Nat → Prop} {base : Nat} {w : World} {sb tb : Nat} {v vo : Value} {us : List Value} {L : List Rl} {W : Int} {ver boot : Nat} {olds : List (List Rl)} (h : RSto ok base w sb tb v vo us L W ver boot olds) (x : Nat) (hl : olds.length = ver + 1) (hx : x < olds.length) (hv : ver ≤ 4000) (hf : ∀ l ∈ olds, l.length ≤ 4096) :
    Calls Tryz.prog 21 #[.pointer (some ⟨sb, 0, none⟩), .int .u64 x] w fun e w' => ∃ ad c, e = .returned (.tuple #[.slice ad olds[x].length c, .int .i64 0]) ∧ RdsR ok w' (.slice ad olds[x].length c) olds[x] ∧ Below w.heap.size w w' := by
  have h1 := rat_good h x (by omega) (by omega) (by omega) (by omega) hf
  have e : olds[olds.length - 1 - (ver - x)]'(by omega) = olds[x] := by congr 1; omega
  rw [e] at h1
  exact h1

theorem u64_nat (i : Int) : ∃ x : Nat, IntKind.u64.wrap i = (x : Int) := by
  refine ⟨(IntKind.u64.wrap i).toNat, ?_⟩
  have : 0 ≤ IntKind.u64.wrap i := by
    unfold IntKind.wrap
    simp [IntKind.signed, IntKind.bits]
    omega
  omega

set_option maxHeartbeats 3200000 in
set_option maxRecDepth 20000 in
theorem act_at {n0 : Nat} {w : World} {sb tb rb ub : Nat} {v vo v' vo' : Value} {us us' : List Value} {L : List Rl} {W : Int} {ver boot : Nat} {olds : List (List Rl)} (h : Both n0 w sb tb rb ub v vo v' vo' us us' L W ver boot olds) (acv : Option Addr) (lcv ccv : Nat) (bk : Int) (hd : ByteArray) (hv : ver ≤ 4000) (hn0 : n0 ≤ w.heap.size) :
    Calls Tryz.prog 7 #[.pointer (some ⟨sb, 0, none⟩), .pointer (some ⟨rb, 0, none⟩), .agg #[.int .i64 3, .slice acv lcv ccv, .int .u64 bk, .string hd]] w (ActPost n0 sb tb rb ub W ver boot w) := by
  obtain ⟨W1, hW1⟩ : ∃ W1, W1 = w.alloc (.cells #[.int .i64 3, .slice acv lcv ccv, .int .u64 bk, .string hd] 35) := ⟨_, rfl⟩
  obtain ⟨hb1, k0, k1, k2, _, hs1⟩ := boxed hW1
  have hb0 : Below n0 w W1 := hb1.mono hn0
  have h1 := h.below hb1
  have HB0 := Lib.hid hb0
  have H1 := Lib.hid h1
  have HW1 := Lib.hid hW1
  have r1 := h1.r.c1
  obtain ⟨x, hx⟩ := u64_nat ((ver : Int) - bk)
  have hfew : ∀ l ∈ olds, l.length ≤ 4096 := fun l hl => (h1.okO l hl).few
  have hlv := h1.lv
  by_cases hxv : x ≤ ver
  · have HIS : Hid (∀ Wx, Below W1.heap.size W1 Wx → ∃ R, Calls Tryz.prog 20 #[.pointer (some ⟨sb, 0, none⟩), .int .u64 x] Wx (fun e w' => ∃ ad c, e = .returned (.tuple #[.slice ad R.length c, .int .i64 0]) ∧ RdsR (fun _ => True) w' (.slice ad R.length c) R ∧ Below Wx.heap.size Wx w') ∧
        ∀ Wy, Below Wx.heap.size Wx Wy → Calls Tryz.prog 21 #[.pointer (some ⟨rb, 0, none⟩), .int .u64 x] Wy (fun e w' => ∃ ad c, e = .returned (.tuple #[.slice ad R.length c, .int .i64 0]) ∧ RdsR (fun _ => True) w' (.slice ad R.length c) R ∧ Below Wy.heap.size Wy w')) := fun Wx hWx =>
      ⟨olds[x]'(by omega), (at_place (h1.s.below hWx) x hlv (by omega) hv hfew).mono fun e w' ⟨ad, c, he, hr, hb⟩ => ⟨ad, c, he, hr.mono (fun _ _ => trivial), hb⟩,
        fun Wy hWy => (rat_place ((h1.r.below hWx).below hWy) x hlv (by omega) hv hfew).mono fun e w' ⟨ad, c, he, hr, hb⟩ => ⟨ad, c, he, hr.mono (fun _ _ => trivial), hb⟩⟩
    clear h hb1 hb0 h1 hW1 k1 hfew hlv
    go_enter Tryz.func7, Tryz.ntmps7
    go_upto_region 1 with fail
    rw [← HW1.out]
    clear HW1
    go_wp2_with fail
    go_quiet (fail)
    go_upto_region 12 with fail
    have hB : Below W1.heap.size W1 (W1.drewN nq) := below_dN (Below.refl _ _) nq
    obtain ⟨wq, hwq⟩ : ∃ wq, wq = W1.drewN nq := ⟨_, rfl⟩
    rw [← hwq] at hB ⊢
    obtain ⟨R, hcs, hcr⟩ := HIS.out wq hB
    obtain ⟨n, hn⟩ : ∃ n, R.length = n := ⟨_, rfl⟩
    rw [hn] at hcs hcr
    have HCS := Lib.hid hcs
    have HCR := Lib.hid hcr
    have HBq := Lib.hid hB
    clear hwq hB hcs hcr hn HIS k0 k2 r1
    go_wp2_with fail
    refine HCS.out.mono ?_
    rintro e w2 ⟨a2, c2, rfl, hr2, hb2⟩
    have HR2 := Lib.hid hr2
    have HB2 := Lib.hid hb2
    clear hr2 hb2
    go_wp2_with fail
    refine (HCR.out _ HB2.out).mono ?_
    rintro e w3 ⟨a3, c3, rfl, hr3, hb3⟩
    have HSm := Lib.hid (sameRules_same _ _ _ _ _ w3 (HR2.out.below hb3) hr3)
    have HB3 := Lib.hid (HBq.out.trans ((HB2.out.trans (hb3.mono HB2.out.size)).mono HBq.out.size))
    clear hr3 hb3
    go_wp2_with fail
    refine HSm.out.mono ?_
    rintro e w4 ⟨rfl, hg4⟩
    have hb4 : Below W1.heap.size W1 w4 := HB3.out.trans (hg4.below.mono HB3.out.size)
    have hf : ActPost n0 sb tb rb ub W ver boot w (.returned (.bool true)) w4 := ⟨rfl, HB0.out.trans (hb4.mono (by omega)), v, vo, v', vo', us, us', L, ver, boot, olds, H1.out.below hb4, by omega, by omega⟩
    have HF := Lib.hid hf
    clear hb4 hf hg4
    go_wp2_with fail
    go_ret
    exact HF.out
  · have HIS : Hid (∀ Wx, Below W1.heap.size W1 Wx → Calls Tryz.prog 20 #[.pointer (some ⟨sb, 0, none⟩), .int .u64 x] Wx (fun e w' => e = .returned (.tuple #[.slice none 0 0, .int .i64 211]) ∧ Below Wx.heap.size Wx w')) := fun Wx hWx => at_bad (h1.s.below hWx) x (.inl (by omega)) (by omega) (by omega)
    have HIR : Hid (∀ Wx, Below W1.heap.size W1 Wx → Calls Tryz.prog 21 #[.pointer (some ⟨rb, 0, none⟩), .int .u64 x] Wx (fun e w' => e = .returned (.tuple #[.slice none 0 0, .int .i64 211]) ∧ Below Wx.heap.size Wx w')) := fun Wx hWx => rat_bad (h1.r.below hWx) x (.inl (by omega)) (by omega) (by omega)
    clear h hb1 hb0 h1 hW1 k1 hfew hlv
    go_enter Tryz.func7, Tryz.ntmps7
    go_upto_region 1 with fail
    rw [← HW1.out]
    clear HW1
    go_wp2_with fail
    go_quiet (fail)
    go_upto_region 12 with fail
    have hB : Below W1.heap.size W1 (W1.drewN nq) := below_dN (Below.refl _ _) nq
    obtain ⟨wq, hwq⟩ : ∃ wq, wq = W1.drewN nq := ⟨_, rfl⟩
    rw [← hwq] at hB ⊢
    have HBq := Lib.hid hB
    clear hwq hB k0 k2 r1
    go_wp2_with fail
    refine (HIS.out _ HBq.out).mono ?_
    rintro e w2 ⟨rfl, hb2⟩
    have HB2 := Lib.hid (HBq.out.trans (hb2.mono HBq.out.size))
    clear hb2
    go_wp2_with fail
    refine (HIR.out _ HB2.out).mono ?_
    rintro e w3 ⟨rfl, hb3⟩
    have HB3 := Lib.hid (HB2.out.trans (hb3.mono HB2.out.size))
    have HSm := Lib.hid (sameRules_same (fun _ => True) (fun _ => True) (.slice none 0 0) (.slice none 0 0) [] w3 (rdsR_nil _ _) (rdsR_nil _ _))
    clear hb3
    go_wp2_with fail
    refine HSm.out.mono ?_
    rintro e w4 ⟨rfl, hg4⟩
    have hb4 : Below W1.heap.size W1 w4 := HB3.out.trans (hg4.below.mono HB3.out.size)
    have hf : ActPost n0 sb tb rb ub W ver boot w (.returned (.bool true)) w4 := ⟨rfl, HB0.out.trans (hb4.mono (by omega)), v, vo, v', vo', us, us', L, ver, boot, olds, H1.out.below hb4, by omega, by omega⟩
    have HF := Lib.hid hf
    clear hb4 hf hg4
    go_wp2_with fail
    go_ret
    exact HF.out

/-- Every act. -/
theorem act_any {n0 : Nat} {w : World} {sb tb rb ub : Nat} {v vo v' vo' : Value} {us us' : List Value} {L : List Rl} {W : Int} {ver boot : Nat} {olds : List (List Rl)} (h : Both n0 w sb tb rb ub v vo v' vo' us us' L W ver boot olds) (o : Opx) (cv : Value) (hct : ∀ Wx, Below n0 w Wx → RdsC (fun _ => True) Wx cv o.m) (hm : o.m.length * 64 ≤ 140737488351232) (hh : o.hdr.size ≤ maxLen) (hv : ver ≤ 4000) (hbo : boot ≤ 4000) (hn0 : n0 ≤ w.heap.size) :
    Calls Tryz.prog 7 #[.pointer (some ⟨sb, 0, none⟩), .pointer (some ⟨rb, 0, none⟩), .agg #[.int .i64 o.k, cv, .int .u64 o.back, .string o.hdr]] w (ActPost n0 sb tb rb ub W ver boot w) := by
  have hc := hct w (Below.refl _ _)
  obtain ⟨acv, ccv, hcv, _, _⟩ := hc.form
  by_cases k1 : o.k = 1
  · rw [k1]; exact act_install h cv o.m o.back o.hdr hc hm hv hn0 hct
  by_cases k2 : o.k = 2
  · rw [k2, hcv]; exact act_restart h acv _ ccv o.back o.hdr hbo hn0
  by_cases k3 : o.k = 3
  · rw [k3, hcv]; exact act_at h acv _ ccv o.back o.hdr hv hn0
  by_cases k4 : o.k = 4
  · rw [k4, hcv]; exact act_since h acv _ ccv o.back o.hdr hh hv hn0
  · rw [hcv]; exact act_none h o.k ⟨k1, k2, k3, k4⟩ acv _ ccv o.back o.hdr hn0
end Go.Proofs.YtlbelkjgaeaaeaaGreat
/-
  A region that draws its order and stores nothing that it loads: what it loads is held all along; what is held may become more.
-/
namespace Go

section
variable {P : Program} {ops : Array Oper} {Q : Exit → Act → World → Prop} {md : Region.Mode} {S : World → Prop} {z : Nat}

theorem wpAnyG_mono {S' : World → Prop} (hS : ∀ w, S' w → S w) : ∀ (fuel : Nat) (listed : Array Bool) (a : Act) (w : World), wpAnyG P md ops Q S' z fuel listed a w → wpAnyG P md ops Q S z fuel listed a w
  | 0, _, _, _, h => h
  | fuel + 1, _, _, _, h => ⟨h.1, fun i hi => wpOp_mono (fun a' w' h' => ⟨fun h0 => hS _ (h'.1 h0), wpAnyG_mono hS fuel _ a' w' h'.2⟩) (h.2 i hi)⟩

/-- An operation that yields its value in every world that meets S; number z is none. -/
theorem wpAnyG_firstA {i : Nat} {oi : Oper} {v : Value} (hi : ops[i]? = some oi) (hz : ops[z]? = none) (hsel : ∀ (j : Nat) (o : Oper) cs b, ops[j]? = some o → o.op ≠ .select cs b)
    (hQ : ∀ c a w, Q (.panic c) (a.put oi.dst v) w → Q (.panic c) a w) :
    ∀ (fuel : Nat) (listed : Array Bool) (a : Act) (w : World), listed.getD z false = false →
      (∀ j oj, ops[j]? = some oj → j ≠ i → listed.getD j true = false → (∀ e ∈ oj.after, Region.binds md e = true → e.on ≠ i) → oi.apart ops oj = true) →
      i ∈ Region.ready md ops listed → YieldsIf P ops S oi v a → S w →
      wpAnyG P md ops Q S z fuel (listed.setIfInBounds i true) (a.put oi.dst v) w → wpAnyG P md ops Q S z (fuel + 1) listed a w := by
  have hiz : i ≠ z := by
    intro e
    subst e
    rw [hz] at hi
    cases hi
  intro fuel
  induction fuel with
  | zero =>
    intro listed a w _ _ hr hy hS H
    refine ⟨fun h => (by rw [h] at hr; cases hr), fun j hj => ?_⟩
    by_cases hji : j = i
    · subst hji; exact hy.wpOp hi hS ⟨fun _ => hS, H⟩
    · have := ready_mono hj hji
      rw [H.1] at this
      cases this
  | succ fuel ih =>
    intro listed a w hz0 hfree hr hy hS H
    refine ⟨fun h => (by rw [h] at hr; cases hr), fun j hj => ?_⟩
    by_cases hji : j = i
    · subst hji; exact hy.wpOp hi hS ⟨fun _ => hS, H⟩
    · have h1 := H.2 j (ready_mono hj hji)
      obtain ⟨hjun, oj, hoj, hall⟩ := mem_ready.1 hj
      have hnot := not_ready_of (mem_ready.1 hr).1 hall
      have hjz : j ≠ z := by
        intro e
        subst e
        rw [hz] at hoj
        cases hoj
      have h2 := wpOp_putIf hoj (hfree j oj hoj hji hjun hnot) (fun cs b => hsel i oi cs b hi) (fun cs b => hsel j oj cs b hoj) hQ hy h1
      have hfree' : ∀ k ok, ops[k]? = some ok → k ≠ i → (listed.setIfInBounds j true).getD k true = false →
          (∀ e ∈ ok.after, Region.binds md e = true → e.on ≠ i) → oi.apart ops ok = true := fun k ok hk hki hun hno => by
        refine hfree k ok hk hki ?_ hno
        by_cases hjk : j = k
        · subst hjk; exact hjun
        · rw [getD_set_ne true hjk] at hun; exact hun
      have hc : (listed.setIfInBounds j true).setIfInBounds i true = (listed.setIfInBounds i true).setIfInBounds j true := Array.setIfInBounds_comm _ _ hji
      have hzj : (listed.setIfInBounds j true).getD z false = false := by rw [getD_set_ne false hjz]; exact hz0
      have hzij : ((listed.setIfInBounds i true).setIfInBounds j true).getD z false = false := by rw [← hc, getD_set_ne false hiz]; exact hzj
      refine wpOp_mono (fun a' w' h3 => ⟨fun _ => h3.2.1 hzij, ih (listed.setIfInBounds j true) a' w' hzj hfree' (ready_mono hr (Ne.symm hji)) h3.1 (h3.2.1 hzij) ?_⟩) h2
      rw [hc]
      exact h3.2.2

def Region.okA (md : Region.Mode) (ops : Array Oper) (z : Nat) (listed : Array Bool) (i : Nat) : Bool :=
  Region.okP md ops z listed i && ops[z]?.isNone && !listed.getD z false

/-- Take number i first: a load of what S tells. -/
theorem wpAnyG_takeA (i : Nat) {oi : Oper} {v : Value} {fuel : Nat} {listed : Array Bool} {a : Act} {w : World} (hi : ops[i]? = some oi) (hb : Region.okA md ops z listed i = true)
    (hQ : ∀ c a w, Q (.panic c) (a.put oi.dst v) w → Q (.panic c) a w) (hw : Region.wanted oi (yielded ops a.tmps) = true) (hy : ∀ w, S w → (execOp a.eval oi).run P w = .ok (.value v) w) (hS : S w)
    (h : wpAnyG P md ops Q S z fuel (listed.setIfInBounds i true) (a.put oi.dst v) w) : wpAnyG P md ops Q S z (fuel + 1) listed a w := by
  simp only [Region.okA, Region.okP, Bool.and_eq_true, bne_iff_ne, Bool.not_eq_true', Option.isNone_iff_eq_none] at hb
  obtain ⟨⟨⟨⟨⟨h1, h2⟩, h3⟩, h4⟩, h5⟩, h6⟩ := hb
  exact wpAnyG_firstA hi h5 (Region.noSelect_spec h1) hQ fuel listed a w h6 (Region.free_spec hi h2) (by simpa using h3) (.inl ⟨hw, hy⟩) hS h
end
end Go
