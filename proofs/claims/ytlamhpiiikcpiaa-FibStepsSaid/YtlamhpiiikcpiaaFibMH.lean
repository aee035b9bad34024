/-
  Walks: FibSteps.
-/
import Derived.Test.YtlamhpiiikcpiaaFibMD
namespace Go.Proofs.Ytlamhpiiikcpiaa
open Go.RowKit Go.Shelf Go.Lib Go.Sort
set_option linter.unusedVariables false
set_option linter.unusedSectionVars false
set_option linter.unusedSimpArgs false

/-- All blocks but four. -/
abbrev okX (a b c d : Nat) : Nat → Prop := fun k => k ≠ a ∧ k ≠ b ∧ k ≠ c ∧ k ≠ d

theorem Tab.newX {vo wo a b c d t : Nat} {w w' : World} {v : Value} {L : List Rl} {W : Int} (h : Tab vo wo (okNew (okX a b c d) w) w' t v L W) (ha : a < w.heap.size) (hb : b < w.heap.size) (hc : c < w.heap.size) (hd : d < w.heap.size) (ht : ∀ k, okX a b c d k → k ≠ t) : Tab vo wo (okX a b c d) w' t v L W :=
  h.mono (fun k hk => by
    rcases hk with hk | hk
    · exact hk.1
    · exact ⟨by omega, by omega, by omega, by omega⟩) ht
theorem Tab.toX {vo wo t : Nat} {ok : Nat → Prop} {w : World} {v : Value} {L : List Rl} {W : Int} (h : Tab vo wo ok w t v L W) (P : Nat → Prop) (hP : ∀ k, ok k → k < w.heap.size → P k) (ht : ∀ k, P k → k ≠ t) : Tab vo wo P w t v L W :=
  ⟨h.c0, h.c1, h.f0, h.rd.lt.mono fun k hk => hP k hk.1 hk.2, ht, h.lo, h.hi⟩

theorem Fb.doL_next {W : Int} {L L' : List Rl} {m : List (Int × Rl)} {i : Nat} (h : Fb.doL W L (m.drop i) i = (some L', 0, 0)) (hi : i < m.length) : Fb.mayI L W m[i].1 m[i].2 = 0 ∧ Fb.doL W (Fb.aft L m[i].1 m[i].2) (m.drop (i + 1)) (i + 1) = (some L', 0, 0) := by
  rw [Fb.doL_step hi] at h
  split at h
  · rename_i h1; exact ⟨h1, h⟩
  · cases h

theorem below_drewN2 {B : Nat} {a w : World} (h : Below B a w) (n : Nat) : Below B a (w.drewN n) := ⟨h.os, h.tape, h.output, h.size, h.block⟩

theorem toList_ne {a b : ByteArray} (h : ¬ a = b) : (a.toList == b.toList) = false := by
  rw [beq_eq_false_iff_ne]
  intro e
  rw [Lib.toList_data, Lib.toList_data, Array.toList_inj] at e
  cases a; cases b
  simp only at e
  subst e
  exact h rfl

namespace Fb
/-- All unlike: as a row's pairs. -/
theorem unl_pairs {m : List (Int × Rl)} (h : ∀ a b (ha : a < m.length) (hb : b < m.length), a < b → unl m[b] m[a]) : m.Pairwise (fun c d => unl c d ∧ unl d c) := by
  rw [List.pairwise_iff_getElem]
  intro i j hi hj hij
  have := h i j hi hj hij
  exact ⟨fun e => this ⟨e.1.symm, e.2.symm⟩, this⟩

theorem back_step {W : Int} {L L' M : List Rl} {m : List (Int × Rl)} (hL : Ok W L) (hd : doL W L m 0 = (some L', 0, 0)) (hu : m.Pairwise (fun c d => unl c d ∧ unl d c)) (hlen : L.length + m.length ≤ 4096) {q : Nat} (hq : q < m.length) (hM : Made W L (m.drop (q + 1)) M) : mayI M W m[q].1 m[q].2 = 0 ∧ Made W L (m.drop q) (aft M m[q].1 m[q].2) := by
  have hall := doL_made (made_nil hL) (by rw [hd]) (fun _ _ _ h => by cases h) hu
  have hunl : ∀ d ∈ m.drop (q + 1), unl m[q] d := by
    intro d hd2
    obtain ⟨j, hj, rfl⟩ := List.getElem_of_mem hd2
    rw [List.length_drop] at hj
    rw [List.getElem_drop]
    exact (List.pairwise_iff_getElem.1 hu q (q + 1 + j) hq (by omega) (by omega)).1
  have hmay : mayI M W m[q].1 m[q].2 = 0 := mayI_good.2 ⟨(hM.good (c := m[q]) hunl).2 (hall.2 _ (List.getElem_mem hq)), fun _ => by
    have := hM.len
    rw [List.length_drop] at this
    omega⟩
  refine ⟨hmay, ?_⟩
  have := hM.step hunl hmay
  rw [List.drop_eq_getElem_cons hq]
  exact this

theorem back_end {W : Int} {L L' M : List Rl} {m : List (Int × Rl)} (hL : Ok W L) (hd : doL W L m 0 = (some L', 0, 0)) (hu : m.Pairwise (fun c d => unl c d ∧ unl d c)) (hM : Made W L m M) : L' = M := by
  have hall := doL_made (made_nil hL) (by rw [hd]) (fun _ _ _ h => by cases h) hu
  exact hall.1.ext hM fun c => by simp
end Fb

set_option maxHeartbeats 3200000 in
set_option maxRecDepth 20000 in
theorem FibSteps_walk (W : Int) (v1 : Value) (l : List (Int × Rl)) (v2 : Value) (m : List (Int × Rl)) (w : World) (h1 : RdsC (fun _ => True) w v1 l) (z1 : l.length * 64 ≤ 140737488351232) (h2 : RdsC (fun _ => True) w v2 m) (z2 : m.length * 64 ≤ 140737488351232) :
    Calls Try.prog 4 #[.int .i64 W, v1, v2] w fun e w' => e = .returned (.bool true) ∧ Below w.heap.size w w' := by
  have HAw : Hid (∀ Wx, Calls Try.prog 9 #[] Wx fun e w' => e = .returned (.bool true) ∧ Below Wx.heap.size Wx w') := fun Wx => awake_any Wx
  by_cases hW : W < 1 ∨ W > 128
  · have HM : Hid (∀ Wx, Calls Try.prog 8 #[.int .i64 W, v1] Wx fun e w' => e = .returned (.tuple #[.pointer none, .pointer none, .bool true]) ∧ w' = Wx) := fun Wx => made_bad W v1 Wx hW
    clear h1 h2 hW
    go_enter Try.func4, Try.ntmps4
    go_wp2_with fail
    refine (HM.out _).mono ?_
    rintro e w1 ⟨rfl, rfl⟩
    go_wp2_with fail
    refine (HM.out _).mono ?_
    rintro e w2 ⟨rfl, rfl⟩
    go_wp2_with fail
    refine (HM.out _).mono ?_
    rintro e w3 ⟨rfl, rfl⟩
    go_wp2_with fail
    refine (HAw.out _).mono ?_
    rintro e w4 ⟨rfl, hb⟩
    have HB := Lib.hid hb
    clear hb
    go_wp2_with fail
    go_ret
    exact ⟨rfl, HB.out⟩
  have HM : Hid (∀ Wx, Below w.heap.size w Wx → Calls Try.prog 8 #[.int .i64 W, v1] Wx (MadePost W l Wx)) := fun Wx hWx => made_ok W v1 l Wx (by omega) (by omega) (h1.below hWx) z1
  have HC := Lib.hid h2.lt
  obtain ⟨L, hL⟩ : ∃ L, L = Fb.mkL W (l.take 100) := ⟨_, rfl⟩
  have HOk : Hid (Fb.Ok W L) := by rw [hL]; exact Fb.mkL_ok W _
  have HL := Lib.hid hL
  obtain ⟨n, hn⟩ : ∃ n, n = m.length := ⟨_, rfl⟩
  have HN := Lib.hid hn
  obtain ⟨ad2, cap2, rfl, hc2, hm2⟩ := h2.form
  unfold maxLen at hm2
  have hzn : n * 64 ≤ 140737488351232 := by rw [hn]; exact z2
  rw [← hn] at HC hc2 ⊢
  clear h1 h2 hW hL hn z2
  go_enter Try.func4, Try.ntmps4
  go_wp2_with fail
  refine (HM.out _ (Below.refl _ _)).mono ?_
  rintro e w1 ⟨hb1, tb, rb, v, vr, ht, hr, hne, rfl, hT, hR⟩
  rw [← HL.out] at hT hR
  have HB1 := Lib.hid hb1
  have HT1 := Lib.hid hT
  have HR1 := Lib.hid hR
  clear hb1 hT hR
  go_wp2_with fail
  refine (HM.out _ HB1.out).mono ?_
  rintro e w2 ⟨hb2, ub, rb2, vu, vr2, hu, hru, hne2, rfl, hU, _⟩
  rw [← HL.out] at hU
  have HU2 := Lib.hid hU
  have HB2 := Lib.hid hb2
  clear hb2 hU
  go_wp2_with fail
  refine (HM.out _ (HB1.out.trans (HB2.out.mono HB1.out.size))).mono ?_
  rintro e w3 ⟨hb3, vb, rb3, vv, vr3, hv, hrv, hne3, rfl, hV, _⟩
  rw [← HL.out] at hV
  have HV3 := Lib.hid hV
  have HB3 := Lib.hid hb3
  clear hb3 hV
  go_wp2_with fail
  refine (HAw.out _).mono ?_
  rintro e w4 ⟨rfl, hb4⟩
  have l1 := HT1.out.lt
  have l2 := HR1.out.lt
  have l3 := HU2.out.lt
  have l4 := HV3.out.lt
  have s1 := HB1.out.size
  have s2 := HB2.out.size
  have s3 := HB3.out.size
  have s4 := hb4.size
  have H24 : Hid (Below w2.heap.size w2 w4) := HB3.out.trans (hb4.mono s3)
  have H14 : Hid (Below w1.heap.size w1 w4) := HB2.out.trans (H24.out.mono s2)
  have HB4 : Hid (Below w.heap.size w w4) := HB1.out.trans (H14.out.mono s1)
  have HT4 : Hid (Tab 0 1 (okX tb rb ub vb) w4 tb v L W) := (HT1.out.toX (okX tb rb ub vb) (fun k hk hk2 => ⟨hk.2.1, hk.2.2, by omega, by omega⟩) (fun k hk => hk.1)).below H14.out
  have HR4 : Hid (Tab 1 0 (okX tb rb ub vb) w4 rb vr L W) := (HR1.out.toX (okX tb rb ub vb) (fun k hk hk2 => ⟨hk.2.1, hk.2.2, by omega, by omega⟩) (fun k hk => hk.2.1)).below H14.out
  have HU4 : Hid (Tab 0 1 (okX tb rb ub vb) w4 ub vu L W) := (HU2.out.toX (okX tb rb ub vb) (fun k hk hk2 => ⟨by have := hk.1; omega, by have := hk.1; omega, hk.2.1, by omega⟩) (fun k hk => hk.2.2.1)).below H24.out
  have HV4 : Hid (Tab 0 1 (okX tb rb ub vb) w4 vb vv L W) := (HV3.out.toX (okX tb rb ub vb) (fun k hk hk2 => ⟨by have := hk.1; omega, by have := hk.1; omega, by have := hk.1; omega, hk.2.1⟩) (fun k hk => hk.2.2.2)).below hb4
  have e1 : tb ≠ ub := by omega
  have e2 : tb ≠ vb := by omega
  have e3 : rb ≠ ub := by omega
  have e4 : rb ≠ vb := by omega
  have e5 : ub ≠ vb := by omega
  obtain ⟨S, hS⟩ : ∃ S, S = Fb.doL W L m 0 := ⟨_, rfl⟩
  have hd := do_tab HT4.out (HC.out.below HB4.out) (by rw [← HN.out]; exact hzn) HOk.out
  rw [← hS] at hd
  have HD := Lib.hid hd
  have HS := Lib.hid hS
  have k1 : tb < w4.heap.size := by omega
  have k2 : rb < w4.heap.size := by omega
  have k3 : ub < w4.heap.size := by omega
  have k4 : vb < w4.heap.size := by omega
  clear hb4 l1 l2 l3 l4 hd hS
  go_wp2_with fail
  refine HD.out.mono ?_
  rintro e w5 ⟨rfl, ⟨v5, hT5⟩, hbt5⟩
  have HT5 := Lib.hid (hT5.newX k1 k2 k3 k4 (fun k hk => hk.1))
  have HR5 := Lib.hid (HR4.out.but hbt5 (fun e => hne e.symm) (fun b hb e => hb.1 e))
  have HU5 := Lib.hid (HU4.out.but hbt5 (fun e => e1 e.symm) (fun b hb e => hb.1 e))
  have HV5 := Lib.hid (HV4.out.but hbt5 (fun e => e2 e.symm) (fun b hb e => hb.1 e))
  have HBt5 : Hid (But (fun b => b = tb ∨ b = ub ∨ b = vb) w w5) := (But.below HB4.out).trans (hbt5.mono fun b hb => .inl hb)
  have s5 := hbt5.size
  rcases Fb.doL_cases (W := W) m L 0 with ⟨L', hd⟩ | ⟨j, q, hd, hq⟩
  · have hS2 : S.2.2 = 0 := by rw [HS.out, hd]
    have hE : Fb.endL W L m = L' := by unfold Fb.endL; rw [hd]; rfl
    rw [hE] at HT5
    rw [hS2]
    have HD0 := Lib.hid hd
    have HOkL : Hid (Fb.Ok W L') := by rw [← hE]; exact HOk.out.end_ m
    clear hT5 hbt5 hd hS2 hE
    go_wp2_with fail
    go_loopw [18, 19] (fun s18 s19 wr => ∃ (bo : Bool) (i : Nat) (vq : Value) (Lu : List Rl), s18 = .bool bo ∧ s19 = .int .i64 i ∧ i ≤ n ∧ Hid (Tab 0 1 (okX tb rb ub vb) wr tb v5 L' W) ∧ Hid (Tab 1 0 (okX tb rb ub vb) wr rb vr L W) ∧ Hid (Tab 0 1 (okX tb rb ub vb) wr ub vq Lu W) ∧ Hid (Tab 0 1 (okX tb rb ub vb) wr vb vv L W) ∧
      Hid (Fb.Ok W Lu) ∧ Hid (Fb.doL W Lu (m.drop i) i = (some L', 0, 0)) ∧ Hid (But (fun b => b = tb ∨ b = ub ∨ b = vb) w wr) ∧ Hid (w4.heap.size ≤ wr.heap.size) ∧ Hid (bo = true → ∀ a b (ha : a < m.length) (hb : b < m.length), a < b → b < i → Fb.unl m[b] m[a])) (fun _ s19 _ => n - (intOf s19).toNat)
    case atStart => exact ⟨true, 0, vu, L, rfl, rfl, Nat.zero_le _, HT5.out, HR5.out, HU5.out, HV5.out, HOk.out, HD0.out, HBt5.out, s5, fun _ a b _ _ _ h => absurd h (Nat.not_lt_zero _)⟩
    case round =>
      obtain ⟨wo, rfl⟩ : ∃ wo : World, wo = wr := ⟨wr, rfl⟩
      obtain ⟨bo, i, vq, Lu, rfl, rfl, hin, HT, HR, HU, HV, HOu, HDu, HBt, HSz, HUn⟩ := hrel
      by_cases hlt : i < n
      · have him : i < m.length := by rw [← HN.out]; exact hlt
        have HCo := Lib.hid (HC.out.but HBt.out (fun b hb e => by have := hb.2; omega))
        obtain ⟨b, off, k, x, rfl, hb, _, hk, x0, x1, x2, x3, x4, hx⟩ := HCo.out.get i him
        obtain ⟨W6, hW6⟩ : ∃ W6, W6 = wo.alloc (.cells #[.int .i64 k, .int .i64 x.p, .string x.m, .int .i64 x.k, .slice x.a x.n x.c] 51) := ⟨_, rfl⟩
        have hb6 : Below wo.heap.size wo W6 := by rw [hW6]; exact (Below.refl _ _).alloc (Nat.le_refl _) _
        have hh6 : W6.heap[wo.heap.size]? = some (.cells #[.int .i64 k, .int .i64 x.p, .string x.m, .int .i64 x.k, .slice x.a x.n x.c] 51 (0, 0)) := by rw [hW6]; exact heap_alloc_new _ _
        obtain ⟨hmay, hnext⟩ := Fb.doL_next HDu.out him
        have hd1 := do_tab (HU.out.below hb6) (one_rdsC hh6 ((Rl.okTrue hx).below hb6) trivial) (by simp) HOu.out
        rw [show (k, m[i].2) = m[i] by rw [hk], Fb.doL_one, if_pos hmay, Fb.endL_one hmay] at hd1
        have HD1 := Lib.hid hd1
        have HNx := Lib.hid hnext
        have HOu2 : Hid (Fb.Ok W (Fb.aft Lu m[i].1 m[i].2)) := HOu.out.aft hmay
        have HB6 := Lib.hid hb6
        have HW6 := Lib.hid hW6
        have hw6 := hb6.size
        have hsz := HSz.out
        clear hx hk hW6 hb6 hh6 hd1 hmay hnext
        go_wp2_with fail
        rw [← HW6.out]
        clear HW6
        refine HD1.out.mono ?_
        rintro e w7 ⟨rfl, ⟨v7, hU7⟩, hbt7⟩
        have HU7 := Lib.hid (hU7.newX (by omega) (by omega) (by omega) (by omega) (fun k hk => hk.2.2.1))
        have HT7 := Lib.hid ((HT.out.below HB6.out).but hbt7 (fun e => e1 e) (fun b hb e => hb.2.2.1 e))
        have HR7 := Lib.hid ((HR.out.below HB6.out).but hbt7 (fun e => e3 e) (fun b hb e => hb.2.2.1 e))
        have HV7 := Lib.hid ((HV.out.below HB6.out).but hbt7 (fun e => e5 e.symm) (fun b hb e => hb.2.2.1 e))
        have HBt7 : Hid (But (fun b => b = tb ∨ b = ub ∨ b = vb) w w7) := (HBt.out.trans (But.below HB6.out)).trans (hbt7.mono fun b hb => .inr (.inl hb))
        have HSz7 : Hid (w4.heap.size ≤ w7.heap.size) := Nat.le_trans hsz (Nat.le_trans hw6 hbt7.size)
        have HC7 := Lib.hid (HC.out.but HBt7.out (fun b hb e => by have := hb.2; omega))
        clear hU7 hbt7 x0 x1 x2 x3 x4
        go_wp2_with fail
        go_loopw [18, 22] (fun s18 s22 wr => ∃ (bo : Bool) (q : Nat), s18 = .bool bo ∧ s22 = .int .i64 q ∧ q ≤ i ∧ Hid (Below w7.heap.size w7 wr) ∧ Hid (bo = true → ∀ a b (ha : a < m.length) (hb : b < m.length), a < b → (b < i ∨ (b = i ∧ a < q)) → Fb.unl m[b] m[a])) (fun _ s22 _ => i - (intOf s22).toNat)
        case atStart => exact ⟨bo, 0, rfl, rfl, Nat.zero_le _, Below.refl _ _, fun h a b ha hb hab hq => HUn.out h a b ha hb hab (by omega)⟩
        case round =>
          obtain ⟨wz, rfl⟩ : ∃ wz : World, wz = wr := ⟨wr, rfl⟩
          obtain ⟨bo, q, rfl, rfl, hqi, HBz, HUq⟩ := hrel
          by_cases hlt2 : q < i
          · have hqm : q < m.length := by omega
            obtain ⟨bi, offi, ki, xi, eqi, hbi, _, hki, _, i1, i2, _, _, hxi⟩ := HC7.out.get i him
            injection eqi with eqi
            injection eqi with eb eo _
            subst eb eo
            obtain ⟨bq, offq, kq, xq, eqq, hbq, _, hkq, _, q1, q2, _, _, hxq⟩ := HC7.out.get q hqm
            injection eqq with eqq
            injection eqq with eb eo _
            subst eb eo
            have I1 := (HBz.out.cell (p := ⟨b, off + i * 5 + 1, none⟩) hbi).trans i1
            have I2 : wz.cell? ⟨b, off + i * 5 + 1 + 1, none⟩ = some (.string xi.m) := (HBz.out.cell (p := ⟨b, off + i * 5 + 2, none⟩) hbi).trans i2
            have Q1 := (HBz.out.cell (p := ⟨b, off + q * 5 + 1, none⟩) hbi).trans q1
            have Q2 : wz.cell? ⟨b, off + q * 5 + 1 + 1, none⟩ = some (.string xq.m) := (HBz.out.cell (p := ⟨b, off + q * 5 + 2, none⟩) hbi).trans q2
            have HUl : Hid (¬ (xi.p = xq.p ∧ xi.m = xq.m) → Fb.unl m[i] m[q]) := fun h e => h ⟨hxi.p.trans (e.1.trans hxq.p.symm), hxi.m.trans (e.2.trans hxq.m.symm)⟩
            have HStep : Hid (∀ bo' : Bool, (bo' = true → bo = true ∧ ¬ (xi.p = xq.p ∧ xi.m = xq.m)) → (bo' = true → ∀ a b (ha : a < m.length) (hb : b < m.length), a < b → (b < i ∨ (b = i ∧ a < q + 1)) → Fb.unl m[b] m[a])) := fun bo' hbo h a b ha hb hab hq => by
              by_cases hlast : b = i ∧ a = q
              · obtain ⟨rfl, rfl⟩ := hlast
                exact HUl.out (hbo h).2
              · exact HUq.out (hbo h).1 a b ha hb hab (by omega)
            have HBz' : Hid (∀ k, Below w7.heap.size w7 (wz.drewN k)) := fun k => below_drewN2 HBz.out k
            have hiN : (i : Int) < n := by omega
            have hqN : (q : Int) < n := by omega
            clear i1 i2 q1 q2 hxi hxq hki hkq hbi hbq
            cases bo with
            | false =>
              clear I1 I2 Q1 Q2
              go_wp2_with fail
              go_quiet (fail)
              go_wp2_with fail
              go_roundw
              case rel => exact ⟨false, q + 1, rfl, by first | rfl | go_num, by omega, HBz'.out _, HStep.out false (fun h => by cases h)⟩
              case measure => simp [intOf]; omega
            | true =>
              by_cases hp : xi.p = xq.p
              · have ep : (xi.p != xq.p) = false := by rw [hp]; simp
                have HP := Lib.hid hp
                clear hp
                by_cases hmm : xi.m = xq.m
                · have em : (xi.m.toList == xq.m.toList) = true := by rw [hmm]; simp
                  clear hmm
                  go_wp2_with fail
                  go_quiet (fail)
                  go_wp2_with fail
                  go_roundw
                  case rel => exact ⟨false, q + 1, rfl, by first | rfl | go_num, by omega, HBz'.out _, HStep.out false (fun h => by cases h)⟩
                  case measure => simp [intOf]; omega
                · have em : (xi.m.toList == xq.m.toList) = false := toList_ne hmm
                  have HMm := Lib.hid hmm
                  clear hmm
                  go_wp2_with fail
                  go_quiet (fail)
                  go_wp2_with fail
                  go_roundw
                  case rel => exact ⟨true, q + 1, rfl, by first | rfl | go_num, by omega, HBz'.out _, HStep.out true (fun _ => ⟨by trivial, fun e => HMm.out e.2⟩)⟩
                  case measure => simp [intOf]; omega
              · have ep : (xi.p != xq.p) = true := by rw [bne_iff_ne]; exact hp
                have HP := Lib.hid hp
                clear hp I2 Q2
                go_wp2_with fail
                go_quiet (fail)
                go_wp2_with fail
                go_roundw
                case rel => exact ⟨true, q + 1, rfl, by first | rfl | go_num, by omega, HBz'.out _, HStep.out true (fun _ => ⟨by trivial, fun e => HP.out e.1⟩)⟩
                case measure => simp [intOf]; omega
          · have HQi : Hid (q = i) := by show _ = _; omega
            go_wp2_with fail
            go_roundw
            case rel => exact ⟨bo, i + 1, v7, _, rfl, by first | rfl | go_num, by omega, HT7.out.below HBz.out, HR7.out.below HBz.out, HU7.out.below HBz.out, HV7.out.below HBz.out, HOu2.out, HNx.out, HBt7.out.trans (But.below HBz.out), Nat.le_trans HSz7.out HBz.out.size, fun h a b ha hb hab hq => HUq.out h a b ha hb hab (by have := HQi.out; omega)⟩
            case measure => simp [intOf]; omega
      · have hLu : Lu = L' := by
          have h := HDu.out
          rw [show i = m.length by rw [← HN.out]; omega, Fb.doL_end] at h
          exact Option.some.inj (Prod.mk.inj h).1
        subst hLu
        have HUall : Hid (bo = true → m.Pairwise (fun c d => Fb.unl c d ∧ Fb.unl d c)) := fun h => Fb.unl_pairs fun a b ha hb hab => HUn.out h a b ha hb hab (by have := HN.out; omega)
        have HBo : Hid (Below w.heap.size w wo) := HBt.out.toBelow (Nat.le_refl _) (fun k hk => by omega)
        have hRt := rules_tab HT.out HOkL.out.few
        have HRt := Lib.hid hRt
        have hsz := HSz.out
        clear hRt
        go_wp2_with fail
        refine HRt.out.mono ?_
        rintro e w7 ⟨ad7, c7, rfl, hr7, hb7⟩
        have HRu := Lib.hid (rules_tab (HU.out.below hb7) HOkL.out.few)
        have HR7 := Lib.hid hr7
        have HB7 := Lib.hid hb7
        clear hr7 hb7
        go_wp2_with fail
        refine HRu.out.mono ?_
        rintro e w8 ⟨ad8, c8, rfl, hr8, hb8⟩
        have HSm := Lib.hid (sameRules_same _ _ _ _ _ w8 (HR7.out.below hb8) hr8)
        have HB8 := Lib.hid (HB7.out.trans (hb8.mono HB7.out.size))
        clear hr8 hb8
        go_wp2_with fail
        refine HSm.out.mono ?_
        rintro e w9 ⟨rfl, hg9⟩
        have HB9 := Lib.hid (HB8.out.trans (hg9.below.mono HB8.out.size))
        have HT9 := Lib.hid (HT.out.below HB9.out)
        have HR9 := Lib.hid (HR.out.below HB9.out)
        have HV9 := Lib.hid (HV.out.below HB9.out)
        have HBt9 : Hid (But (fun b => b = tb ∨ b = ub ∨ b = vb) w w9) := HBt.out.trans (But.below HB9.out)
        have HBw9 : Hid (Below w.heap.size w w9) := HBo.out.trans (HB9.out.mono HBo.out.size)
        have hs9 : w4.heap.size ≤ w9.heap.size := Nat.le_trans hsz HB9.out.size
        obtain ⟨adr, cpr, rfl, hcr, hmr⟩ := HR9.out.rd.form
        have c9 := HR9.out.c0
        have hL4 := HOk.out.few
        clear hg9
        cases bo with
        | false =>
          clear c9
          go_wp2_with fail
          go_ret
          exact ⟨rfl, HBw9.out⟩
        | true =>
          obtain ⟨ll, hll⟩ : ∃ ll, ll = L.length := ⟨_, rfl⟩
          have HLl := Lib.hid hll
          rw [← hll] at c9 hL4 hcr
          clear hll
          by_cases hbig : ll + n > 4096
          · have hbig' : (ll : Int) + n > 4096 := by omega
            have hov : ¬ (9223372036854775807 < (ll : Int) + n) := by omega
            go_wp2_with fail
            go_ret
            exact ⟨rfl, HBw9.out⟩
          · have hbig' : ¬ (ll : Int) + n > 4096 := by omega
            have HAll : Hid (L.length + m.length ≤ 4096) := by show _ ≤ _; rw [← HLl.out, ← HN.out]; omega
            go_wp2_with fail
            go_loopw [23] (fun s23 wr => ∃ (q : Nat) (vq : Value) (M : List Rl), s23 = .int .i64 ((q : Int) - 1) ∧ q ≤ n ∧ Hid (Tab 0 1 (okX tb rb ub vb) wr tb v5 _ W) ∧ Hid (Tab 0 1 (okX tb rb ub vb) wr vb vq M W) ∧ Hid (Fb.Made W L (m.drop q) M) ∧ Hid (But (fun b => b = tb ∨ b = ub ∨ b = vb) w wr) ∧ Hid (w4.heap.size ≤ wr.heap.size)) (fun s23 _ => (intOf s23 + 1).toNat)
            case atStart => exact ⟨n, vv, L, by first | rfl | go_num, Nat.le_refl _, HT9.out, HV9.out, by show Fb.Made _ _ _ _; rw [HN.out, List.drop_length]; exact Fb.made_nil HOk.out, HBt9.out, hs9⟩
            case round =>
              obtain ⟨wo, rfl⟩ : ∃ wz : World, wz = wr := ⟨wr, rfl⟩
              obtain ⟨q, vq, M, rfl, hqn, HTz, HVz, HMd, HBz, HSzz⟩ := hrel
              have hszz := HSzz.out
              by_cases hq0 : 0 < q
              · obtain ⟨q', hq'⟩ : ∃ q', q = q' + 1 := ⟨q - 1, by omega⟩
                subst hq'
                have hqm : q' < m.length := by rw [← HN.out]; omega
                have ecast : ((q' + 1 : Nat) : Int) - 1 = (q' : Int) := by omega
                have hge : (q' : Int) ≥ 0 := by omega
                have hqN : (q' : Int) < n := by omega
                rw [ecast]
                have HCz := Lib.hid (HC.out.but HBz.out (fun b hb e => by have := hb.2; omega))
                obtain ⟨b, off, k, x, rfl, hb, _, hk, x0, x1, x2, x3, x4, hx⟩ := HCz.out.get q' hqm
                obtain ⟨W6, hW6⟩ : ∃ W6, W6 = wo.alloc (.cells #[.int .i64 k, .int .i64 x.p, .string x.m, .int .i64 x.k, .slice x.a x.n x.c] 51) := ⟨_, rfl⟩
                have hb6 : Below wo.heap.size wo W6 := by rw [hW6]; exact (Below.refl _ _).alloc (Nat.le_refl _) _
                have hh6 : W6.heap[wo.heap.size]? = some (.cells #[.int .i64 k, .int .i64 x.p, .string x.m, .int .i64 x.k, .slice x.a x.n x.c] 51 (0, 0)) := by rw [hW6]; exact heap_alloc_new _ _
                obtain ⟨hmay, hnext⟩ := Fb.back_step HOk.out HD0.out (HUall.out (by trivial)) HAll.out hqm HMd.out
                have hd1 := do_tab (HVz.out.below hb6) (one_rdsC hh6 ((Rl.okTrue hx).below hb6) trivial) (by simp) HMd.out.ok
                rw [show (k, m[q'].2) = m[q'] by rw [hk], Fb.doL_one, if_pos hmay, Fb.endL_one hmay] at hd1
                have HD1 := Lib.hid hd1
                have HNx := Lib.hid hnext
                have HB6 := Lib.hid hb6
                have HW6 := Lib.hid hW6
                have hw6 := hb6.size
                clear hx hk hW6 hb6 hh6 hd1 hmay hnext ecast
                go_wp2_with fail
                rw [← HW6.out]
                clear HW6
                refine HD1.out.mono ?_
                rintro e wy ⟨rfl, ⟨vy, hVy⟩, hbty⟩
                have HVy := Lib.hid (hVy.newX (by omega) (by omega) (by omega) (by omega) (fun k hk => hk.2.2.2))
                have HTy := Lib.hid ((HTz.out.below HB6.out).but hbty (fun e => e2 e) (fun b hb e => hb.2.2.2 e))
                have HBty : Hid (But (fun b => b = tb ∨ b = ub ∨ b = vb) w wy) := (HBz.out.trans (But.below HB6.out)).trans (hbty.mono fun b hb => .inr (.inr hb))
                have HSzy : Hid (w4.heap.size ≤ wy.heap.size) := Nat.le_trans hszz (Nat.le_trans hw6 hbty.size)
                clear hVy hbty x0 x1 x2 x3 x4
                go_wp2_with fail
                go_roundw
                case rel => exact ⟨q', vy, _, by first | rfl | go_num, by omega, HTy.out, HVy.out, HNx.out, HBty.out, HSzy.out⟩
                case measure => first | (simp [intOf]; done) | (simp [intOf]; omega)
              · have hq00 : q = 0 := by omega
                subst hq00
                have hMe : _ = M := Fb.back_end HOk.out HD0.out (HUall.out (by trivial)) (by have := HMd.out; rw [List.drop_zero] at this; exact this)
                have HMe := Lib.hid hMe
                have HOkM : Hid (Fb.Ok W M) := HMd.out.ok
                have HRt2 := Lib.hid (rules_tab HTz.out HOkL.out.few)
                have HBwz : Hid (Below w.heap.size w wo) := HBz.out.toBelow (Nat.le_refl _) (fun k hk => by omega)
                clear hMe
                go_wp2_with fail
                refine HRt2.out.mono ?_
                rintro e wa ⟨ada, ca, rfl, hra, hba⟩
                have HRv := Lib.hid (rules_tab (HVz.out.below hba) HOkM.out.few)
                have HRa := Lib.hid hra
                have HBa := Lib.hid hba
                clear hra hba
                go_wp2_with fail
                refine HRv.out.mono ?_
                rintro e wb ⟨adb, cb, rfl, hrb, hbb⟩
                obtain ⟨nm, hnm⟩ : ∃ nm, nm = M.length := ⟨_, rfl⟩
                rw [← hnm] at hrb ⊢
                clear hnm
                have hrb2 := hrb
                rw [← HMe.out] at hrb2
                have HSm2 := Lib.hid (sameRules_same _ _ _ _ _ wb (HRa.out.below hbb) hrb2)
                have HBb := Lib.hid (HBa.out.trans (hbb.mono HBa.out.size))
                clear hrb hbb hrb2
                go_wp2_with fail
                refine HSm2.out.mono ?_
                rintro e wc ⟨rfl, hgc⟩
                have HBc := Lib.hid (HBb.out.trans (hgc.below.mono HBb.out.size))
                clear hgc
                go_wp2_with fail
                go_ret
                exact ⟨rfl, HBwz.out.trans (HBc.out.mono HBwz.out.size)⟩
  · have hS2 : S.2.2 = q := by rw [HS.out, hd]
    have hE : Fb.endL W L m = L := by unfold Fb.endL; rw [hd]; rfl
    rw [hE] at HT5
    rw [hS2]
    have HRu := Lib.hid (rules_loose HT5.out HOk.out.few)
    have HSa := Lib.hid (same_loose (L := L) (w := w5))
    obtain ⟨adr, cpr, rfl, _, _⟩ := HR5.out.rd.form
    have c5 := HR5.out.c0
    have HB5 : Hid (Below w.heap.size w w5) := HBt5.out.toBelow (Nat.le_refl _) (fun k hk => by omega)
    clear hT5 hbt5 hd hS2 hE
    go_upto_region 10 with fail
    go_region_held3 (fun w' => w'.cell? ⟨rb, 1, none⟩ = some (.slice adr L.length cpr)) (first | assumption | go_keep) (first
      | (go_at_call 18; refine (HRu.out _ (by repeat (first | (with_reducible exact Below.refl _ _) | (with_reducible refine Below.drew ?_)))).mono ?_; rintro _ w7 ⟨ad7, n7, c7, rfl, hr7, hb7⟩; have c7' := ((HR5.out.below hb7).c0); have HR7 := Lib.hid hr7; have HB7 := Lib.hid hb7; clear hr7 hb7)
      | (go_at_call 17; refine (HSa.out _ _ _ _ _ HR7.out (HR5.out.below HB7.out).rd HB7.out).mono ?_; rintro _ w8 ⟨rfl, hb8⟩; have HB8 := Lib.hid hb8; have c8 := ((HR5.out.below hb8).c0); clear hb8))
    all_goals
      go_wp2_with fail
      go_ret
      exact ⟨rfl, HB5.out.trans (HB8.out.mono HB5.out.size)⟩
end Go.Proofs.Ytlamhpiiikcpiaa
