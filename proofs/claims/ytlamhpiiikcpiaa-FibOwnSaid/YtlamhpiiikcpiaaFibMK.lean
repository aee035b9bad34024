/-
  Walks: SameRule of a rule with itself; FibMeets.
-/
import Derived.Test.YtlamhpiiikcpiaaFibMD
import Derived.BigQuiet
import Derived.Deep.RegionHeld3
namespace Go.Proofs.Ytlamhpiiikcpiaa
open Go.RowKit Go.Shelf Go.Lib Go.Sort
set_option linter.unusedVariables false
set_option linter.unusedSectionVars false
set_option linter.unusedSimpArgs false

set_option maxHeartbeats 1600000 in
set_option maxRecDepth 20000 in
theorem sameRule_same (ok ok2 : Nat → Prop) (x y : RC) (r : Rl) (w : World) (hx : RdC ok w x r) (hy : RdC ok2 w y r) :
    Calls Try.prog 14 #[.agg #[.int .i64 x.p, .string x.m, .int .i64 x.k, .slice x.a x.n x.c], .agg #[.int .i64 y.p, .string y.m, .int .i64 y.k, .slice y.a y.n y.c]] w fun e w' => e = .returned (.bool true) ∧ Below w.heap.size w w' := by
  obtain ⟨W2, hW2⟩ : ∃ W2, W2 = (w.alloc (.cells #[.int .i64 x.p, .string x.m, .int .i64 x.k, .slice x.a x.n x.c] 33)).alloc (.cells #[.int .i64 y.p, .string y.m, .int .i64 y.k, .slice y.a y.n y.c] 33) := ⟨_, rfl⟩
  have hg : Grn w W2 := by rw [hW2]; exact ((Grn.refl w).alloc _).alloc _
  have h0 : W2.heap[w.heap.size]? = some (.cells #[.int .i64 x.p, .string x.m, .int .i64 x.k, .slice x.a x.n x.c] 33 (0, 0)) := by
    rw [hW2]; simp only [al_heap, Array.getElem?_push, Array.size_push]; simp <;> omega
  have h1 : W2.heap[w.heap.size + 1]? = some (.cells #[.int .i64 y.p, .string y.m, .int .i64 y.k, .slice y.a y.n y.c] 33 (0, 0)) := by
    rw [hW2]; simp only [al_heap, Array.getElem?_push, Array.size_push]; simp
  have a0 : W2.cell? ⟨w.heap.size, 0, none⟩ = some (.int .i64 r.p) := by simp [World.cell?, h0, hx.p]
  have a1 : W2.cell? ⟨w.heap.size, 1, none⟩ = some (.string r.m) := by simp [World.cell?, h0, hx.m]
  have a2 : W2.cell? ⟨w.heap.size, 2, none⟩ = some (.int .i64 r.k) := by simp [World.cell?, h0, hx.k]
  have a3 : W2.cell? ⟨w.heap.size, 3, none⟩ = some (.slice x.a x.n x.c) := by simp [World.cell?, h0]
  have b0 : W2.cell? ⟨w.heap.size + 1, 0, none⟩ = some (.int .i64 r.p) := by simp [World.cell?, h1, hy.p]
  have b1 : W2.cell? ⟨w.heap.size + 1, 1, none⟩ = some (.string r.m) := by simp [World.cell?, h1, hy.m]
  have b2 : W2.cell? ⟨w.heap.size + 1, 2, none⟩ = some (.int .i64 r.k) := by simp [World.cell?, h1, hy.k]
  have b3 : W2.cell? ⟨w.heap.size + 1, 3, none⟩ = some (.slice y.a y.n y.c) := by simp [World.cell?, h1]
  have HSm := Lib.hid (same_same r.k x.a y.a x.n y.n x.c y.c r.ps W2 (hx.s.1.below hg.below) (hy.s.1.below hg.below))
  have HG := Lib.hid hg.below
  have HW2 := Lib.hid hW2
  have e1 : (r.m.toList == r.m.toList) = true := by simp
  have e2 : (r.p == r.p) = true := by simp
  clear hx hy hg h0 h1 hW2
  go_enter Try.func14, Try.ntmps14
  go_upto_region 1 with fail
  rw [← HW2.out]
  clear HW2
  go_wp2_with fail
  refine HSm.out.mono ?_
  rintro e w3 ⟨rfl, hg3⟩
  have HB3 := Lib.hid (HG.out.trans (hg3.below.mono HG.out.size))
  clear hg3 a0 a1 a2 a3 b0 b1 b2 b3
  go_wp2_with fail
  go_ret
  exact ⟨rfl, HB3.out⟩

set_option maxHeartbeats 3200000 in
set_option maxRecDepth 20000 in
theorem FibMeets_walk (W : Int) (v1 : Value) (l : List (Int × Rl)) (v2 : Value) (hs : List ByteArray) (w : World) (h1 : RdsC (fun _ => True) w v1 l) (z1 : l.length * 64 ≤ 140737488351232) (h2 : RdsS w v2 hs) (zs : ∀ s ∈ hs, s.size ≤ maxLen) (z2 : hs.length * 16 ≤ 140737488351232) :
    Calls Try.prog 3 #[.int .i64 W, v1, v2] w fun e w' => e = .returned (.bool true) ∧ Below w.heap.size w w' := by
  have HAw : Hid (∀ Wx, Calls Try.prog 9 #[] Wx fun e w' => e = .returned (.bool true) ∧ Below Wx.heap.size Wx w') := fun Wx => awake_any Wx
  by_cases hW : W < 1 ∨ W > 128
  · have HM := Lib.hid (made_bad W v1 w hW)
    clear h1 h2 hW
    go_enter Try.func3, Try.ntmps3
    go_wp2_with fail
    refine HM.out.mono ?_
    rintro e w1 ⟨rfl, rfl⟩
    go_wp2_with fail
    refine (HAw.out _).mono ?_
    rintro e w2 ⟨rfl, hb⟩
    have HB := Lib.hid hb
    clear hb
    go_wp2_with fail
    go_ret
    exact ⟨rfl, HB.out⟩
  have HM := Lib.hid (made_ok W v1 l w (by omega) (by omega) h1 z1)
  obtain ⟨L, hL⟩ : ∃ L, L = Fb.mkL W (l.take 100) := ⟨_, rfl⟩
  have HL := Lib.hid hL
  obtain ⟨adh, lenh, caph, rfl, hlh, hmh, helh⟩ := rdsS_form h2
  have HEl := Lib.hid helh
  have HLh := Lib.hid hlh
  have HZs := Lib.hid zs
  unfold maxLen at hmh
  clear h1 h2 hW hL helh hlh zs
  go_enter Try.func3, Try.ntmps3
  go_wp2_with fail
  refine HM.out.mono ?_
  rintro e w1 ⟨hb1, tb, rb, v, vr, ht, hr, hne, rfl, hT, hR⟩
  rw [← HL.out] at hT hR
  have HB1 := Lib.hid hb1
  have HT1 := Lib.hid hT
  have HR1 := Lib.hid hR
  clear hb1 hT hR
  go_wp2_with fail
  refine (HAw.out _).mono ?_
  rintro e w2 ⟨rfl, hb2⟩
  have HB2 := Lib.hid (HB1.out.trans (hb2.mono HB1.out.size))
  have HT2 := Lib.hid (HT1.out.below hb2)
  have HR2 := Lib.hid (HR1.out.below hb2)
  clear hb2
  go_wp2_with fail
  go_loopw [10] (fun s10 wr => ∃ i : Nat, s10 = .int .i64 i ∧ i ≤ lenh ∧ Hid (Below w2.heap.size w2 wr)) (fun s10 _ => lenh - (intOf s10).toNat)
  case atStart => exact ⟨0, rfl, Nat.zero_le _, Below.refl _ _⟩
  case round =>
    obtain ⟨wo, rfl⟩ : ∃ wo : World, wo = wr := ⟨wr, rfl⟩
    obtain ⟨i, rfl, hin, HB⟩ := hrel
    by_cases hlt : i < lenh
    · have hih : i < hs.length := by have := HLh.out; omega
      obtain ⟨b, off, rfl, hb, x0⟩ := HEl.out i hih
      obtain ⟨s, hss⟩ : ∃ s, hs[i] = s := ⟨_, rfl⟩
      rw [hss] at x0
      have hsz : s.size ≤ maxLen := by rw [← hss]; exact HZs.out _ (List.getElem_mem hih)
      have X0 : ∀ Wx, Below wo.heap.size wo Wx → Wx.cell? ⟨b, off + i, none⟩ = some (.string s) := fun Wx hWx => ((HB2.out.trans ((HB.out.trans (hWx.mono HB.out.size)).mono HB2.out.size)).cell (p := ⟨b, off + i, none⟩) hb).trans x0
      have HX := Lib.hid X0
      have x1 := X0 wo (Below.refl _ _)
      obtain ⟨S, hS⟩ : ∃ S, S = Fb.meetS L W s := ⟨_, rfl⟩
      have hm := meets_any (HT2.out.below HB.out) s hsz
      rw [← hS] at hm
      have HMe := Lib.hid hm
      have HS := Lib.hid hS
      have HSz := Lib.hid hsz
      clear x0 X0 hm hS hss hsz
      go_wp2_with fail
      refine HMe.out.mono ?_
      rintro e w4 ⟨hb4, x, hx, rfl⟩
      obtain ⟨W4, hW4⟩ : ∃ W4, W4 = w4.alloc (.cells #[.int .i64 x.p, .string x.m, .int .i64 x.k, .slice x.a x.n x.c] 33) := ⟨_, rfl⟩
      have hb4a : Below w4.heap.size w4 W4 := by rw [hW4]; exact (Below.refl _ _).alloc (Nat.le_refl _) _
      have hB4 : Below wo.heap.size wo W4 := hb4.trans (hb4a.mono hb4.size)
      have HK4 : Hid (W4.heap[w4.heap.size]? = some (.cells #[.int .i64 x.p, .string x.m, .int .i64 x.k, .slice x.a x.n x.c] 33 (0, 0))) := by rw [hW4]; exact heap_alloc_new _ _
      have HL4 : Hid (w4.heap.size < W4.heap.size) := by show _ < _; rw [hW4]; simp
      have HX4 := Lib.hid ((Rl.okTrue hx).below hb4a)
      have HB4 := Lib.hid hB4
      have hm := rmeets_any ((HR2.out.below HB.out).below hB4) s HSz.out
      rw [← HS.out] at hm
      have HMe2 := Lib.hid hm
      have x4 := HX.out W4 hB4
      have HW4 := Lib.hid hW4
      clear hb4 hx hb4a hB4 hm hW4 x1
      go_upto_region 10 with fail
      rw [← HW4.out]
      clear HW4
      go_wp2_with fail
      refine HMe2.out.mono ?_
      rintro e w5 ⟨hb5, y, hy, rfl⟩
      obtain ⟨W5, hW5⟩ : ∃ W5, W5 = w5.alloc (.cells #[.int .i64 y.p, .string y.m, .int .i64 y.k, .slice y.a y.n y.c] 33) := ⟨_, rfl⟩
      have hb5a : Below w5.heap.size w5 W5 := by rw [hW5]; exact (Below.refl _ _).alloc (Nat.le_refl _) _
      have h45 : Below W4.heap.size W4 W5 := hb5.trans (hb5a.mono hb5.size)
      have hB5 : Below wo.heap.size wo W5 := HB4.out.trans (h45.mono HB4.out.size)
      have HK5 : Hid (W5.heap[w5.heap.size]? = some (.cells #[.int .i64 y.p, .string y.m, .int .i64 y.k, .slice y.a y.n y.c] 33 (0, 0))) := by rw [hW5]; exact heap_alloc_new _ _
      have HL5 : Hid (w5.heap.size < W5.heap.size) := by show _ < _; rw [hW5]; simp
      have HY5 := Lib.hid ((Rl.okTrue hy).below hb5a)
      have H45 := Lib.hid h45
      have HB5 := Lib.hid hB5
      obtain ⟨SL, hSL⟩ : ∃ SL, SL = Fb.lookS L W s := ⟨_, rfl⟩
      have HSL := Lib.hid hSL
      have hm := lookup_any ((HT2.out.below HB.out).below hB5) s HSz.out
      rw [← hSL] at hm
      have HLk := Lib.hid hm
      have x5 := HX.out W5 hB5
      have HW5 := Lib.hid hW5
      clear hb5 hy hb5a h45 hB5 hm hW5 x4 hSL
      go_upto_region 11 with fail
      rw [← HW5.out]
      clear HW5
      go_wp2_with fail
      refine HLk.out.mono ?_
      rintro e w6 ⟨hb6, a6, n6, c6, hr6, rfl⟩
      obtain ⟨W6, hW6⟩ : ∃ W6, W6 = w6.alloc (.cells #[.int .i64 SL.1, .slice a6 n6 c6] 31) := ⟨_, rfl⟩
      have hb6a : Below w6.heap.size w6 W6 := by rw [hW6]; exact (Below.refl _ _).alloc (Nat.le_refl _) _
      have h56 : Below W5.heap.size W5 W6 := hb6.trans (hb6a.mono hb6.size)
      have hB6 : Below wo.heap.size wo W6 := HB5.out.trans (h56.mono HB5.out.size)
      have HK6 : Hid (W6.heap[w6.heap.size]? = some (.cells #[.int .i64 SL.1, .slice a6 n6 c6] 31 (0, 0))) := by rw [hW6]; exact heap_alloc_new _ _
      have HL6 : Hid (w6.heap.size < W6.heap.size) := by show _ < _; rw [hW6]; simp
      have HR6 := Lib.hid (hr6.1.below hb6a)
      have H56 := Lib.hid h56
      have HB6 := Lib.hid hB6
      have hm := rlookup_any ((HR2.out.below HB.out).below hB6) s HSz.out
      rw [← HSL.out] at hm
      have HLk2 := Lib.hid hm
      have x6 := HX.out W6 hB6
      have HW6 := Lib.hid hW6
      clear hb6 hr6 hb6a h56 hB6 hm hW6 x5
      go_upto_region 12 with fail
      rw [← HW6.out]
      clear HW6
      go_wp2_with fail
      refine HLk2.out.mono ?_
      rintro e w7 ⟨hb7, a7, n7, c7, hr7, rfl⟩
      obtain ⟨W7, hW7⟩ : ∃ W7, W7 = w7.alloc (.cells #[.int .i64 SL.1, .slice a7 n7 c7] 31) := ⟨_, rfl⟩
      have hb7a : Below w7.heap.size w7 W7 := by rw [hW7]; exact (Below.refl _ _).alloc (Nat.le_refl _) _
      have h67 : Below W6.heap.size W6 W7 := hb7.trans (hb7a.mono hb7.size)
      have hB7 : Below wo.heap.size wo W7 := HB6.out.trans (h67.mono HB6.out.size)
      have k7 : W7.heap[w7.heap.size]? = some (.cells #[.int .i64 SL.1, .slice a7 n7 c7] 31 (0, 0)) := by rw [hW7]; exact heap_alloc_new _ _
      have k6 := (h67.block _ HL6.out).trans HK6.out
      have h57 : Below W5.heap.size W5 W7 := H56.out.trans (h67.mono H56.out.size)
      have k5 := (h57.block _ HL5.out).trans HK5.out
      have h47 : Below W4.heap.size W4 W7 := H45.out.trans (h57.mono H45.out.size)
      have k4 := (h47.block _ HL4.out).trans HK4.out
      have p0 : W7.cell? ⟨w4.heap.size, 0, none⟩ = some (.int .i64 x.p) := by simp [World.cell?, k4]
      have p1 : W7.cell? ⟨w4.heap.size, 1, none⟩ = some (.string x.m) := by simp [World.cell?, k4]
      have p2 : W7.cell? ⟨w4.heap.size, 2, none⟩ = some (.int .i64 x.k) := by simp [World.cell?, k4]
      have p3 : W7.cell? ⟨w4.heap.size, 3, none⟩ = some (.slice x.a x.n x.c) := by simp [World.cell?, k4]
      have q0 : W7.cell? ⟨w5.heap.size, 0, none⟩ = some (.int .i64 y.p) := by simp [World.cell?, k5]
      have q1 : W7.cell? ⟨w5.heap.size, 1, none⟩ = some (.string y.m) := by simp [World.cell?, k5]
      have q2 : W7.cell? ⟨w5.heap.size, 2, none⟩ = some (.int .i64 y.k) := by simp [World.cell?, k5]
      have q3 : W7.cell? ⟨w5.heap.size, 3, none⟩ = some (.slice y.a y.n y.c) := by simp [World.cell?, k5]
      have HSr := Lib.hid (sameRule_same (fun _ => True) (fun _ => True) x y S.1 W7 (HX4.out.below h47) (HY5.out.below h57))
      have HKK : Hid (∀ Wx, Below W7.heap.size W7 Wx → Wx.cell? ⟨w6.heap.size, 0, none⟩ = some (.int .i64 SL.1) ∧ Wx.cell? ⟨w6.heap.size, 1, none⟩ = some (.slice a6 n6 c6) ∧ Wx.cell? ⟨w7.heap.size, 0, none⟩ = some (.int .i64 SL.1) ∧ Wx.cell? ⟨w7.heap.size, 1, none⟩ = some (.slice a7 n7 c7)) := fun Wx hWx => by
        have l6 : w6.heap.size < W7.heap.size := Nat.lt_of_lt_of_le HL6.out h67.size
        have l7 : w7.heap.size < W7.heap.size := by rw [hW7]; simp
        refine ⟨(hWx.cell (p := ⟨w6.heap.size, 0, none⟩) l6).trans ?_, (hWx.cell (p := ⟨w6.heap.size, 1, none⟩) l6).trans ?_, (hWx.cell (p := ⟨w7.heap.size, 0, none⟩) l7).trans ?_, (hWx.cell (p := ⟨w7.heap.size, 1, none⟩) l7).trans ?_⟩
        · simp [World.cell?, k6]
        · simp [World.cell?, k6]
        · simp [World.cell?, k7]
        · simp [World.cell?, k7]
      have HSa : Hid (∀ Wx, Below W7.heap.size W7 Wx → Calls Try.prog 15 #[.agg #[.int .i64 SL.1, .slice a6 n6 c6], .agg #[.int .i64 SL.1, .slice a7 n7 c7]] Wx fun e w' => e = .returned (.bool true) ∧ Grn Wx w') := fun Wx hWx => same_same SL.1 a6 a7 n6 n7 c6 c7 SL.2.1 Wx ((HR6.out.below h67).below hWx) ((hr7.1.below hb7a).below hWx)
      have HB7 := Lib.hid hB7
      have HW7 := Lib.hid hW7
      have f1 : (S.2.1 != S.2.1) = false := by simp
      have f2 : (S.2.2 != S.2.2) = false := by simp
      have f3 : (SL.2.2 != SL.2.2) = false := by simp
      clear hb7 hr7 hb7a h67 hB7 hW7 x6 k7 k6 k5 k4 h57 h47
      go_upto_region 13 with fail
      rw [← HW7.out]
      clear HW7
      go_wp2_with fail
      refine HSr.out.mono ?_
      rintro e w8 ⟨rfl, hb8⟩
      obtain ⟨r0, r1, r2, r3⟩ := HKK.out w8 hb8
      have HB8 := Lib.hid hb8
      clear hb8 p0 p1 p2 p3 q0 q1 q2 q3
      go_wp2_with fail
      refine (HSa.out _ HB8.out).mono ?_
      rintro e w9 ⟨rfl, hg9⟩
      have HG9 := Lib.hid hg9.below
      clear hg9 r0 r1 r2 r3
      go_wp2_with fail
      go_roundw
      case rel => exact ⟨i + 1, by first | rfl | go_num, by omega, HB.out.trans ((HB7.out.trans ((HB8.out.trans (HG9.out.mono HB8.out.size)).mono HB7.out.size)).mono HB.out.size)⟩
      case measure => simp [intOf]; omega
    · go_wp2_with fail
      go_ret
      exact ⟨rfl, HB2.out.trans (HB.out.mono HB2.out.size)⟩
end Go.Proofs.Ytlamhpiiikcpiaa
/-
  Walks: slices.Clone at strings, copied and the reference's Copy, with what is new in them: the ports' cells may be written.
-/
namespace Go.Proofs.Ytlamhpiiikcpiaa
open Go.RowKit Go.Shelf Go.Lib Go.Sort
set_option linter.unusedVariables false
set_option linter.unusedSectionVars false
set_option linter.unusedSimpArgs false

/-- The cells of a rule's ports may be written. -/
def Pf (w : World) (x : RC) : Prop := ∀ b off, x.a = some ⟨b, off, none⟩ → ∀ k, k < x.n → w.frozen? ⟨b, off + k, none⟩ = false

theorem Pf.but {ok S : Nat → Prop} {w w' : World} {x : RC} {r : Rl} (h : Pf w x) (hx : RdC ok w x r) (hb : But S w w') (hs : ∀ b, ok b → ¬ S b) : Pf w' x := by
  intro b off ha k hk
  have hl := hx.s.lt.2 ⟨b, off, none⟩ x.n x.c (by rw [ha]) (by omega)
  exact (hb.frozen (p := ⟨b, off + k, none⟩) hl.2 (hs b hl.1)).trans (h b off ha k hk)
theorem Pf.below {ok : Nat → Prop} {w w' : World} {x : RC} {r : Rl} (h : Pf w x) (hx : RdC ok w x r) (hb : Below w.heap.size w w') : Pf w' x := h.but hx (But.below (S := fun _ => False) hb) (fun _ _ h => h)

theorem ownsRow_pf {w : World} {base : Nat} {e : TypeId} {ad : Option Addr} {n c : Nat} {xs : List Value} (h : w.ownsRow base e 1 (.slice ad n c) n xs) : ∀ b off, ad = some ⟨b, off, none⟩ → ∀ k, k < n → w.frozen? ⟨b, off + k, none⟩ = false := by
  intro b off ha k hk
  subst ha
  have hoff : off = 0 := by
    rcases h.2 with ⟨h1, _⟩ | ⟨g, cap, cur, hv, _⟩
    · cases h1
    · injection hv with e1 _ _
      injection e1 with e1
      injection e1
  subst hoff
  rw [Nat.zero_add]
  exact h.frozenAt k

set_option maxHeartbeats 800000 in
set_option maxRecDepth 20000 in
theorem cloneS_own (v : Value) (ps : List ByteArray) (w : World) (hr : RdsS w v ps) (hn : ps.length * 16 ≤ 140737488351232) :
    Calls Try.prog 45 #[v] w fun e w' => ∃ ad c, e = .returned (.slice ad ps.length c) ∧ RdsO (fun b => w.heap.size ≤ b) w' (.slice ad ps.length c) ps ∧ (∀ b off, ad = some ⟨b, off, none⟩ → ∀ k, k < ps.length → w'.frozen? ⟨b, off + k, none⟩ = false) ∧ Below w.heap.size w w' := by
  obtain ⟨i0, hi, hz0, hz1, hz2⟩ := info_parts infoS
  have HR := Lib.hid hr
  obtain ⟨ad, len, cap, rfl, hl, hlm, hel⟩ := rdsS_form hr
  clear hel hr
  unfold maxLen at hlm
  cases ad with
  | none =>
    obtain ⟨e1, e2, e3⟩ := rdsS_nilcap HR.out
    subst e2 e3
    have hp := Lib.hid e1
    clear hl e1
    have hnn : ∀ W : World, (binOp .eql 23 (.slice none 0 0) (.slice none 0 0)).run Try.prog W = .ok (.bool true) W := fun W => Lib.run_eql_slice_nil W _ _ _ _ _ _ _ Try.underlying23
    go_enter Try.func45, Try.ntmps45
    go_wp2_with fail
    go_ret
    refine ⟨none, 0, by rw [hp.out]; rfl, ?_, (fun b off h => by cases h), Below.refl _ _⟩
    rw [hp.out]
    exact ⟨rdsS_nil _, okV_nil _ _ _⟩
  | some a =>
    have HL := Lib.hid hl
    have HN := Lib.hid hn
    have hown := lit0_rowE (w := w) (e := 9) (k := 1) (g := w.heap.size) (b := w.heap.size) rfl (Nat.le_refl _)
    have HOW := Lib.hid hown
    have hb := (Below.refl w.heap.size w).alloc (Nat.le_refl _) (.cells #[] 9)
    have HR2 := Lib.hid (HR.out.below hb)
    have HB := Lib.hid hb
    clear hl hn hb hown
    have hnn : ∀ W : World, (binOp .eql 23 (.slice (some a) len cap) (.slice none 0 0)).run Try.prog W = .ok (.bool false) W := fun W => Lib.run_eql_slice_nil W _ _ _ _ _ _ _ Try.underlying23
    go_enter Try.func45, Try.ntmps45
    go_wp2_with (at_builtin; go_loud (refine wpList_append_rds rfl (.tmp 5) (.tmp 6) _ rfl w.heap.size 9 i0 _ 16 Try.underlying23 hi hz0 hz1 hz2 rfl _ 0 [] rfl HOW.out _ (ps.map Value.string) rfl HR2.out str_one len (by rw [List.length_map]; have := HL.out; omega) (by unfold maxLen; omega) (by have := HL.out; have := HN.out; omega) (by simp) ?_); intro ad2 cap2 w2 h2 hg; have HO := Lib.hid h2; have HG := Lib.hid hg; clear h2 hg)
    go_ret
    have HG2 : Below w.heap.size w w2 := HB.out.grown HG.out (by simp) (fun k hk => by injection hk with hk; subst hk; exact Nat.le_refl _)
    refine ⟨ad2, cap2, by rw [← HL.out]; rfl, ?_, by rw [← HL.out]; exact ownsRow_pf HO.out, HG2⟩
    rw [← HL.out]
    refine ⟨?_, ?_⟩
    · have := ownsRow_rds HO.out
      show Rds _ _ _
      simpa using this
    · intro a' n' c' hv hn'
      injection hv with e1 _ _
      have := (HO.out.lt a'.block (by rw [e1]; rfl)).1
      exact this

set_option maxHeartbeats 1600000 in
set_option maxRecDepth 20000 in
theorem copied_own (ok : Nat → Prop) (v : Value) (L : List Rl) (w : World) (hr : RdsR ok w v L) (hn : L.length * 56 ≤ 140737488355328) :
    Calls Try.prog 31 #[v] w fun e w' => ∃ ad c xs, e = .returned (.slice ad L.length c) ∧ OwnR (okF w.heap.size (.slice ad L.length c)) w' w.heap.size (.slice ad L.length c) xs L ∧ (∀ j (h : j < xs.length), Pf w' xs[j]) ∧ Below w.heap.size w w' := by
  have HR := Lib.hid hr
  obtain ⟨n, hnl⟩ : ∃ n, n = L.length := ⟨_, rfl⟩
  have HN : Hid (n = L.length) := hnl
  have hnb : n * 56 ≤ 140737488355328 := by rw [hnl]; exact hn
  obtain ⟨ad0, cap0, rfl, hnc, hcm⟩ := hr.form
  rw [← hnl] at HR hnc ⊢
  unfold maxLen at hcm
  clear hr hn hnl
  go_enter Try.func31, Try.ntmps31
  go_wp2_with fail
  go_loopw [3, 8] (fun s3 s8 wr => ∃ (i : Nat) (ad : Option Addr) (c : Nat) (xs : List RC), s8 = .int .i64 i ∧ s3 = .slice ad i c ∧ i ≤ n ∧ Hid (xs.length = i) ∧ Hid (OwnR (okF w.heap.size (.slice ad i c)) wr w.heap.size (.slice ad i c) xs (L.take i)) ∧ Hid (∀ j (h : j < xs.length), Pf wr xs[j]) ∧ Hid (Below w.heap.size w wr)) (fun _ s8 _ => n - (intOf s8).toNat)
  case atStart => exact ⟨0, none, 0, [], rfl, rfl, Nat.zero_le _, rfl, ownR_nil _ _ _, (fun j h => absurd h (Nat.not_lt_zero _)), Below.refl _ _⟩
  case round =>
    obtain ⟨wo, rfl⟩ : ∃ wo : World, wo = wr := ⟨wr, rfl⟩
    obtain ⟨i, ad, c, xs, rfl, rfl, hin, HXl, HO, HPf, HB⟩ := hrel
    by_cases hlt : i < n
    · have hiL : i < L.length := by rw [← HN.out]; exact hlt
      obtain ⟨b, off, x, rfl, hb, _, x0, x1, x2, x3, hx⟩ := HR.out.get i hiL
      have X0 := (HB.out.cell (p := ⟨b, off + i * 4, none⟩) hb).trans x0
      have X1 := (HB.out.cell (p := ⟨b, off + i * 4 + 1, none⟩) hb).trans x1
      have X2 := (HB.out.cell (p := ⟨b, off + i * 4 + 2, none⟩) hb).trans x2
      have X3 := (HB.out.cell (p := ⟨b, off + i * 4 + 3, none⟩) hb).trans x3
      obtain ⟨r, hrr⟩ : ∃ r, L[i] = r := ⟨_, rfl⟩
      rw [hrr] at hx
      have HRr := Lib.hid hrr
      have HXx := Lib.hid hx
      obtain ⟨W2, hW2⟩ : ∃ W2, W2 = wo.alloc (.cells #[.int .i64 x.p, .string x.m, .int .i64 x.k, .slice x.a x.n x.c] 33) := ⟨_, rfl⟩
      have hg2 : Grn wo W2 := by rw [hW2]; exact (Grn.refl _).alloc _
      have HG2 := Lib.hid hg2
      have HCS := Lib.hid (cloneS_own (.slice x.a x.n x.c) r.ps W2 ((hx.s.1.below HB.out).below hg2.below) hx.z.n)
      have HHp : Hid (W2.heap[wo.heap.size]? = some (.cells #[.int .i64 x.p, .string x.m, .int .i64 x.k, .slice x.a x.n x.c] 33 (0, 0))) := by rw [hW2]; exact heap_alloc_new _ _
      have hw2s : W2.heap.size = wo.heap.size + 1 := by rw [hW2]; simp
      have HW2s := Lib.hid hw2s
      have y3 : W2.cell? ⟨wo.heap.size, 2 + 1, none⟩ = some (.slice x.a x.n x.c) := by rw [hW2]; simp [go_sem]
      have HW2 := Lib.hid hW2
      clear x0 x1 x2 x3 hx hrr hg2 hW2 hw2s
      go_upto_region 5 with fail
      rw [← HW2.out]
      clear HW2 X0 X1 X2 X3
      go_wp2_with fail
      refine HCS.out.mono ?_
      rintro e w3 ⟨ad2, c2, rfl, hrd, hfr3, hb3⟩
      have hlt2 : wo.heap.size < W2.heap.size := by rw [HW2s.out]; omega
      have hh3 : w3.heap[wo.heap.size]? = some (.cells #[.int .i64 x.p, .string x.m, .int .i64 x.k, .slice x.a x.n x.c] 33 (0, 0)) := by rw [hb3.block _ hlt2]; exact HHp.out
      have z0 : w3.cell? ⟨wo.heap.size, 0, none⟩ = some (.int .i64 x.p) := by simp [World.cell?, hh3]
      have z1 : w3.cell? ⟨wo.heap.size, 1, none⟩ = some (.string x.m) := by simp [World.cell?, hh3]
      have z2 : w3.cell? ⟨wo.heap.size, 2, none⟩ = some (.int .i64 x.k) := by simp [World.cell?, hh3]
      have z3 : w3.cell? ⟨wo.heap.size, 3, none⟩ = some (.slice x.a x.n x.c) := by simp [World.cell?, hh3]
      have f3 : w3.frozen? ⟨wo.heap.size, 3, none⟩ = false := by simp [World.frozen?, hh3]
      obtain ⟨w5, hw5⟩ : ∃ w5, w5 = w3.setCell ⟨wo.heap.size, 3, none⟩ (.slice ad2 r.ps.length c2) := ⟨_, rfl⟩
      have hbw5 : Below wo.heap.size wo w5 := by
        rw [hw5]
        refine (HG2.out.below.trans (hb3.mono (by rw [HW2s.out]; omega))).setCell ?_ _
        show wo.heap.size ≤ wo.heap.size
        omega
      have hbut5 : But (fun b => b = wo.heap.size) w3 w5 := by rw [hw5]; exact But.set (S := fun b => b = wo.heap.size) (a := ⟨wo.heap.size, 3, none⟩) rfl _
      have hs35 : w3.heap.size ≤ w5.heap.size := hbut5.size
      have hW2w3 := hb3.size
      have HOw := Lib.hid (HO.out.below (hbw5.alloc hbw5.size (.cells #[.int .i64 x.p, .string x.m, .int .i64 x.k, .slice ad2 r.ps.length c2] 33)))
      have HYr : Hid (RdC (okF w.heap.size (.slice ad i c)) (w5.alloc (.cells #[.int .i64 x.p, .string x.m, .int .i64 x.k, .slice ad2 r.ps.length c2] 33)) ⟨x.p, x.m, x.k, ad2, r.ps.length, c2⟩ r) := by
        refine ⟨HXx.out.p, HXx.out.m, HXx.out.k, ?_, HXx.out.z⟩
        refine ((hrd.but hbut5 (fun b hb e => by omega)).below ((Below.refl _ _).alloc (Nat.le_refl _) _)).mono (fun b hb => ⟨by have := HB.out.size; have := HW2s.out; omega, fun e => ?_⟩)
        have := (HO.out.row.lt b e).2
        have := HW2s.out
        omega
      have HPy : Hid (Pf (w5.alloc (.cells #[.int .i64 x.p, .string x.m, .int .i64 x.k, .slice ad2 r.ps.length c2] 33)) ⟨x.p, x.m, x.k, ad2, r.ps.length, c2⟩) := by
        have hrc : RdC (fun b => W2.heap.size ≤ b) w3 ⟨x.p, x.m, x.k, ad2, r.ps.length, c2⟩ r := ⟨HXx.out.p, HXx.out.m, HXx.out.k, hrd, HXx.out.z⟩
        have hp3 : Pf w3 ⟨x.p, x.m, x.k, ad2, r.ps.length, c2⟩ := hfr3
        have hns : ∀ b, W2.heap.size ≤ b → ¬ b = wo.heap.size := fun b hb e => by omega
        exact (hp3.but hrc hbut5 hns).below (hrc.but hbut5 hns) ((Below.refl _ _).alloc (Nat.le_refl _) _)
      have HPo : Hid (∀ j (h : j < xs.length), Pf (w5.alloc (.cells #[.int .i64 x.p, .string x.m, .int .i64 x.k, .slice ad2 r.ps.length c2] 33)) xs[j]) := fun j h => by
        have h2 : j < (L.take i).length := by rw [← HO.out.len]; exact h
        exact (HPf.out j h).below (HO.out.rd j h h2) (hbw5.alloc hbw5.size _)
      have HBw5 : Hid (Below w.heap.size w w5) := HB.out.trans (hbw5.mono HB.out.size)
      have hbsz := HB.out.size
      have HOl : Hid ((L.take i).length = i) := by show _ = _; rw [List.length_take]; omega
      have HW5 := Lib.hid hw5
      have q0 : w5.cell? ⟨wo.heap.size, 0, none⟩ = some (.int .i64 x.p) := by rw [hw5]; exact (cell_set_other _ (by simp)).trans z0
      have q1 : w5.cell? ⟨wo.heap.size, 1, none⟩ = some (.string x.m) := by rw [hw5]; exact (cell_set_other _ (by simp)).trans z1
      have q2 : w5.cell? ⟨wo.heap.size, 2, none⟩ = some (.int .i64 x.k) := by rw [hw5]; exact (cell_set_other _ (by simp)).trans z2
      have q3 : w5.cell? ⟨wo.heap.size, 3, none⟩ = some (.slice ad2 r.ps.length c2) := by rw [hw5]; exact cell_set_same _ z3
      clear hrd hfr3 hb3 hh3 hbut5 hw5 hW2w3 hs35 hlt2 y3
      go_upto_region 6 with fail
      rw [← HW5.out]
      clear z0 z1 z2 z3 f3 HW5
      go_wp2_with (at_builtin; go_loud (refine wpList_plain rfl (fun _ hK => wp_app_one (.tmp 18) (.tmp 20) rfl w.heap.size _ xs (L.take i) (by rfl) HOw.out w5.heap.size 1 ⟨x.p, x.m, x.k, ad2, r.ps.length, c2⟩ r (by rfl) (heap_alloc_new _ _) HYr.out (i + 1) (by rw [HOl.out]) (by omega) (by have := HBw5.out.size; simp; omega) (fun ad4 c4 w4 ho4 hg4 => hK _ _ ?_))); have HO4 := Lib.hid ho4; have HG4 := Lib.hid hg4; clear ho4 hg4)
      have HB4 : Hid (Below w.heap.size w w4) := (HBw5.out.alloc HBw5.out.size _).grown HG4.out (by have := HBw5.out.size; simp; omega) (fun k hk => (HO.out.row.lt k hk).1)
      have HF4 : Hid (L.take i ++ [r] = L.take (i + 1)) := by show _ = _; rw [List.take_succ_eq_append_getElem hiL, HRr.out]
      have HP4 : Hid (∀ j (h : j < (xs ++ [(⟨x.p, x.m, x.k, ad2, r.ps.length, c2⟩ : RC)]).length), Pf w4 (xs ++ [(⟨x.p, x.m, x.k, ad2, r.ps.length, c2⟩ : RC)])[j]) := fun j h => by
        have hbut : But (fun b => (Value.slice ad i c).ownBlock = some b) (w5.alloc (.cells #[.int .i64 x.p, .string x.m, .int .i64 x.k, .slice ad2 r.ps.length c2] 33)) w4 := ⟨HG4.out.os, HG4.out.tape, HG4.out.output, HG4.out.size, fun k hk hn => HG4.out.block k hk (fun e => hn e.symm)⟩
        by_cases hj : j < xs.length
        · have e : (xs ++ [(⟨x.p, x.m, x.k, ad2, r.ps.length, c2⟩ : RC)])[j] = xs[j] := List.getElem_append_left hj
          rw [e]
          have h2 : j < (L.take i).length := by rw [← HO.out.len]; exact hj
          exact (HPo.out j hj).but (HOw.out.rd j hj h2) hbut (fun b hb e => hb.2 e)
        · have hji : j = xs.length := by simp at h; omega
          have e : (xs ++ [(⟨x.p, x.m, x.k, ad2, r.ps.length, c2⟩ : RC)])[j] = ⟨x.p, x.m, x.k, ad2, r.ps.length, c2⟩ := by subst hji; simp
          rw [e]
          exact HPy.out.but HYr.out hbut (fun b hb e => hb.2 e)
      rw [HF4.out] at HO4
      go_roundw
      case rel => exact ⟨i + 1, ad4, c4, _, by first | rfl | go_num, rfl, by omega, (by show _ = _; rw [List.length_append, HXl.out]; rfl : Hid ((xs ++ [_]).length = i + 1)), HO4, HP4.out, HB4⟩
      case measure => simp [intOf]; omega
    · have hin' : i = n := by omega
      have HF : Hid (L.take i = L) := by show _ = _; rw [hin']; exact List.take_of_length_le (by have := HN.out; omega)
      subst hin'
      go_wp2_with fail
      go_ret
      refine ⟨ad, c, xs, rfl, ?_, HPf.out, HB.out⟩
      have := HO.out
      rw [HF.out] at this
      exact this

set_option maxHeartbeats 1600000 in
set_option maxRecDepth 20000 in
theorem rCopy_own (ok : Nat → Prop) (x : RC) (r : Rl) (w : World) (hx : RdC ok w x r) :
    Calls Try.prog 19 #[.agg #[.int .i64 x.p, .string x.m, .int .i64 x.k, .slice x.a x.n x.c]] w fun e w' => ∃ y : RC, e = .returned (.agg #[.int .i64 y.p, .string y.m, .int .i64 y.k, .slice y.a y.n y.c]) ∧ RdC (fun b => w.heap.size ≤ b) w' y r ∧ Pf w' y ∧ Below w.heap.size w w' := by
  obtain ⟨i0, hi, hz0, hz1, hz2⟩ := info_parts infoS
  obtain ⟨W0, hW0⟩ : ∃ W0, W0 = (w.alloc (.cells #[.int .i64 x.p, .string x.m, .int .i64 x.k, .slice x.a x.n x.c] 33)).alloc (.cells #[.int .i64 0, .string ⟨#[]⟩, .int .i64 0, .slice none 0 0] 33) := ⟨_, rfl⟩
  obtain ⟨W1, hW1⟩ : ∃ W1, W1 = W0.alloc (.cells #[] 9) := ⟨_, rfl⟩
  have hg : Grn w W1 := by rw [hW1, hW0]; exact (((Grn.refl w).alloc _).alloc _).alloc _
  have hs0 : W0.heap.size = w.heap.size + 2 := by rw [hW0]; simp
  have hsz : W1.heap.size = w.heap.size + 3 := by rw [hW1]; simp [hs0]
  have h0 : W1.heap[w.heap.size]? = some (.cells #[.int .i64 x.p, .string x.m, .int .i64 x.k, .slice x.a x.n x.c] 33 (0, 0)) := by
    rw [hW1, hW0]; simp only [al_heap, Array.getElem?_push, Array.size_push]; simp <;> omega
  have h1 : W1.heap[w.heap.size + 1]? = some (.cells #[.int .i64 0, .string ⟨#[]⟩, .int .i64 0, .slice none 0 0] 33 (0, 0)) := by
    rw [hW1, hW0]; simp only [al_heap, Array.getElem?_push, Array.size_push]; simp <;> omega
  have hown : W1.ownsRow (w.heap.size + 2) 9 1 (.slice (some ⟨w.heap.size + 2, 0, none⟩) 0 0) 0 [] := by
    rw [hW1]; exact lit0_rowE hs0.symm (Nat.le_refl _)
  have HOW := Lib.hid hown
  have HR := Lib.hid (hx.s.1.below hg.below)
  have HG := Lib.hid hg.below
  have H0 := Lib.hid h0
  have H1 := Lib.hid h1
  have HX := Lib.hid hx
  have HZ := Lib.hid hx.z.n
  have hxn : x.n = r.ps.length := by
    obtain ⟨ad, len, cap, e, hl, _, _⟩ := rdsS_form hx.s.1
    injection e with _ e2 _
    rw [e2, hl]
  have HN := Lib.hid hxn
  rw [hW0] at hW1
  have HSz := Lib.hid hsz
  have HW1 := Lib.hid hW1
  have a3 : W1.cell? ⟨w.heap.size, 2 + 1, none⟩ = some (.slice x.a x.n x.c) := by simp [World.cell?, h0]
  clear hown hg h0 h1 hx hxn hW0 hW1 hs0 hsz
  go_enter Try.func19, Try.ntmps19
  go_upto_region 1 with fail
  obtain ⟨nn, hnn⟩ : ∃ nn, nn = r.ps.length := ⟨_, rfl⟩
  have HNN := Lib.hid hnn
  clear hnn
  go_wp2_with (at_builtin; rw [← HW1.out]; go_loud (refine wpList_append_rds rfl (.tmp 3) (.tmp 6) _ rfl (w.heap.size + 2) 9 i0 _ 16 Try.underlying23 hi hz0 hz1 hz2 rfl (.slice (some ⟨w.heap.size + 2, 0, none⟩) 0 0) 0 [] rfl HOW.out _ (r.ps.map Value.string) rfl HR.out str_one nn (by rw [List.length_map, HNN.out]; omega) (by have := HZ.out; have := HNN.out; unfold maxLen; omega) (by have := HZ.out; have := HNN.out; omega) (by rw [HSz.out]; omega) ?_); intro ad2 cap2 w2 h2 hg; have HO := Lib.hid h2; have HG2 := Lib.hid hg; have b0 := (hg.block w.heap.size (by rw [HSz.out]; omega) (by simp [Value.ownBlock])).trans H0.out; have b1 := (hg.block (w.heap.size + 1) (by rw [HSz.out]; omega) (by simp [Value.ownBlock])).trans H1.out; have z0 : w2.cell? ⟨w.heap.size, 0, none⟩ = some (.int .i64 x.p) := (by simp [World.cell?, b0]); have z1 : w2.cell? ⟨w.heap.size, 1, none⟩ = some (.string x.m) := (by simp [World.cell?, b0]); have z2 : w2.cell? ⟨w.heap.size, 2, none⟩ = some (.int .i64 x.k) := (by simp [World.cell?, b0]); have z3 : w2.cell? ⟨w.heap.size, 3, none⟩ = some (.slice x.a x.n x.c) := (by simp [World.cell?, b0]); have f3 : w2.frozen? ⟨w.heap.size, 3, none⟩ = false := (by simp [World.frozen?, b0]); have r0 : w2.cell? ⟨w.heap.size + 1, 0, none⟩ = some (.int .i64 0) := (by simp [World.cell?, b1]); have r1 : w2.cell? ⟨w.heap.size + 1, 1, none⟩ = some (.string ⟨#[]⟩) := (by simp [World.cell?, b1]); have r2 : w2.cell? ⟨w.heap.size + 1, 2, none⟩ = some (.int .i64 0) := (by simp [World.cell?, b1]); have r3 : w2.cell? ⟨w.heap.size + 1, 3, none⟩ = some (.slice none 0 0) := (by simp [World.cell?, b1]); have rf0 : w2.frozen? ⟨w.heap.size + 1, 0, none⟩ = false := (by simp [World.frozen?, b1]); have rf1 : w2.frozen? ⟨w.heap.size + 1, 1, none⟩ = false := (by simp [World.frozen?, b1]); have rf2 : w2.frozen? ⟨w.heap.size + 1, 2, none⟩ = false := (by simp [World.frozen?, b1]); have rf3 : w2.frozen? ⟨w.heap.size + 1, 3, none⟩ = false := (by simp [World.frozen?, b1]); clear h2 hg b0 b1)
  refine bodyPost_ret (res_copy _ (w.heap.size + 1) _ x.p x.k x.m ad2 nn cap2 rfl ?_ ?_ ?_ ?_) rfl ?_
  · simp [go_sem, r0]
  · simp [go_sem, r1]
  · simp [go_sem, r2]
  · simp [go_sem, r3]
  have hb2 : Below w.heap.size w w2 := HG.out.grown HG2.out (by rw [HSz.out]; omega) (fun k hk => by have e := Option.some.inj (show some (w.heap.size + 2) = some k from hk); omega)
  have hset : ∀ (W : World) (g o : Nat) (c : Value), w.heap.size ≤ g → Below w.heap.size w W → Below w.heap.size w (W.setCell ⟨g, o, none⟩ c) := fun W g o c hg hb => hb.setCell hg c
  have hrow := ownsRow_rds HO.out
  rw [List.nil_append] at hrow
  have hblk : ∀ a' n' c', Value.slice ad2 nn cap2 = .slice (some a') n' c' → w.heap.size + 2 ≤ a'.block := fun a' n' c' hv => by
    injection hv with e1 _ _
    exact (HO.out.lt a'.block (by rw [e1]; rfl)).1
  have hro : RdsO (fun b => w.heap.size + 2 ≤ b) w2 (.slice ad2 nn cap2) r.ps := ⟨hrow, fun a' n' c' hv _ => hblk a' n' c' hv⟩
  have hbut : ∀ (W : World) (g o : Nat) (c : Value), g < w.heap.size + 2 → But (fun b => b < w.heap.size + 2) W (W.setCell ⟨g, o, none⟩ c) := fun W g o c hg => But.set (S := fun b => b < w.heap.size + 2) (a := ⟨g, o, none⟩) hg c
  refine ⟨⟨x.p, x.m, x.k, ad2, nn, cap2⟩, rfl, ⟨HX.out.p, HX.out.m, HX.out.k, ?_, HX.out.z⟩, ?_, ?_⟩
  · refine (RdsO.but hro (S := fun b => b < w.heap.size + 2) ?_ (fun b hb h => by omega)).mono fun b hb => by omega
    exact ((((hbut _ _ _ _ (by omega)).trans (hbut _ _ _ _ (by omega))).trans (hbut _ _ _ _ (by omega))).trans (hbut _ _ _ _ (by omega))).trans (hbut _ _ _ _ (by omega))
  · have hp2 : Pf w2 ⟨x.p, x.m, x.k, ad2, nn, cap2⟩ := ownsRow_pf HO.out
    have hrc : RdC (fun b => w.heap.size + 2 ≤ b) w2 ⟨x.p, x.m, x.k, ad2, nn, cap2⟩ r := ⟨HX.out.p, HX.out.m, HX.out.k, hro, HX.out.z⟩
    refine hp2.but hrc (S := fun b => b < w.heap.size + 2) ?_ (fun b hb h => by omega)
    exact ((((hbut _ _ _ _ (by omega)).trans (hbut _ _ _ _ (by omega))).trans (hbut _ _ _ _ (by omega))).trans (hbut _ _ _ _ (by omega))).trans (hbut _ _ _ _ (by omega))
  · exact hset _ _ _ _ (by omega) (hset _ _ _ _ (by omega) (hset _ _ _ _ (by omega) (hset _ _ _ _ (by omega) (hset _ _ _ _ (by omega) hb2))))
end Go.Proofs.Ytlamhpiiikcpiaa
/-
  Walks: SameChanges of a row with itself; a row of changes of the call's own; ports that may be written.
-/
namespace Go.Proofs.Ytlamhpiiikcpiaa
open Go.RowKit Go.Shelf Go.Lib Go.Sort
set_option linter.unusedVariables false
set_option linter.unusedSectionVars false
set_option linter.unusedSimpArgs false

set_option maxHeartbeats 800000 in
set_option maxRecDepth 20000 in
theorem rules_own {ok : Nat → Prop} {w : World} {tb : Nat} {v : Value} {L : List Rl} {W : Int} (h : Tab 0 1 ok w tb v L W) (hL : L.length ≤ 4096) :
    Calls Try.prog 18 #[.pointer (some ⟨tb, 0, none⟩)] w fun e w' => ∃ ad c xs, e = .returned (.slice ad L.length c) ∧ OwnR (okF w.heap.size (.slice ad L.length c)) w' w.heap.size (.slice ad L.length c) xs L ∧ (∀ j (h : j < xs.length), Pf w' xs[j]) ∧ Below w.heap.size w w' := by
  have HI := Lib.hid (is_tab h)
  have HC := Lib.hid (copied_own ok v L w h.rd (by omega))
  have c0 := h.c0
  clear h
  go_enter Try.func18, Try.ntmps18
  go_wp2_with fail
  refine HI.out.mono ?_
  rintro e w1 ⟨rfl, rfl⟩
  go_wp2_with fail
  refine HC.out.mono ?_
  rintro e w2 ⟨ad, c, xs, rfl, hr, hp, hb⟩
  have HR := Lib.hid hr
  have HP := Lib.hid hp
  have HB := Lib.hid hb
  clear hr hp hb
  go_wp2_with fail
  go_ret
  exact ⟨ad, c, xs, rfl, HR.out, HP.out, HB.out⟩

set_option maxHeartbeats 1600000 in
set_option maxRecDepth 20000 in
theorem sameChanges_same (ok ok2 : Nat → Prop) (v1 v2 : Value) (L : List (Int × Rl)) (w : World) (h1 : RdsC ok w v1 L) (h2 : RdsC ok2 w v2 L) :
    Calls Try.prog 20 #[v1, v2] w fun e w' => e = .returned (.bool true) ∧ Below w.heap.size w w' := by
  have H1 := Lib.hid h1
  have H2 := Lib.hid h2
  obtain ⟨ad1, c1, rfl, hc1, hm1⟩ := h1.form
  obtain ⟨ad2, c2, rfl, hc2, hm2⟩ := h2.form
  obtain ⟨n, hn⟩ : ∃ n, n = L.length := ⟨_, rfl⟩
  rw [← hn] at H1 H2 hc1 hc2 ⊢
  have HN := Lib.hid hn
  unfold maxLen at hm1 hm2
  clear h1 h2 hn
  go_enter Try.func20, Try.ntmps20
  go_wp2_with fail
  go_loopw [5] (fun s5 wr => ∃ i : Nat, i ≤ n ∧ s5 = .int .i64 i ∧ Hid (Below w.heap.size w wr)) (fun s5 _ => n - (intOf s5).toNat)
  case atStart => exact ⟨0, Nat.zero_le _, rfl, Below.refl _ _⟩
  case round =>
    obtain ⟨wo, rfl⟩ : ∃ wo : World, wo = wr := ⟨wr, rfl⟩
    obtain ⟨i, hin, rfl, HB⟩ := hrel
    by_cases hlt : i < n
    · have hiL : i < L.length := by rw [← HN.out]; exact hlt
      obtain ⟨b, off, k, x, rfl, hb, _, hk, x0, x1, x2, x3, x4, hx⟩ := H1.out.get i hiL
      obtain ⟨b2, off2, k2, y, rfl, hb2, _, hk2, y0, y1, y2, y3, y4, hy⟩ := H2.out.get i hiL
      have hkk : k2 = k := by rw [hk, hk2]
      subst hkk
      have e1 : (k2 != k2) = false := by simp
      have HK : Hid (∀ Wx, Below wo.heap.size wo Wx → Wx.cell? ⟨b, off + i * 5, none⟩ = some (.int .i64 k2) ∧ Wx.cell? ⟨b, off + i * 5 + 1, none⟩ = some (.int .i64 x.p) ∧ Wx.cell? ⟨b, off + i * 5 + 1 + 1, none⟩ = some (.string x.m) ∧ Wx.cell? ⟨b, off + i * 5 + 1 + 2, none⟩ = some (.int .i64 x.k) ∧ Wx.cell? ⟨b, off + i * 5 + 1 + 3, none⟩ = some (.slice x.a x.n x.c) ∧
          Wx.cell? ⟨b2, off2 + i * 5, none⟩ = some (.int .i64 k2) ∧ Wx.cell? ⟨b2, off2 + i * 5 + 1, none⟩ = some (.int .i64 y.p) ∧ Wx.cell? ⟨b2, off2 + i * 5 + 1 + 1, none⟩ = some (.string y.m) ∧ Wx.cell? ⟨b2, off2 + i * 5 + 1 + 2, none⟩ = some (.int .i64 y.k) ∧ Wx.cell? ⟨b2, off2 + i * 5 + 1 + 3, none⟩ = some (.slice y.a y.n y.c)) := fun Wx hWx => by
        have hb9 := HB.out.trans (hWx.mono HB.out.size)
        exact ⟨(hb9.cell (p := ⟨b, off + i * 5, none⟩) hb).trans x0, (hb9.cell (p := ⟨b, off + i * 5 + 1, none⟩) hb).trans x1, (hb9.cell (p := ⟨b, off + i * 5 + 2, none⟩) hb).trans x2, (hb9.cell (p := ⟨b, off + i * 5 + 3, none⟩) hb).trans x3, (hb9.cell (p := ⟨b, off + i * 5 + 4, none⟩) hb).trans x4,
          (hb9.cell (p := ⟨b2, off2 + i * 5, none⟩) hb2).trans y0, (hb9.cell (p := ⟨b2, off2 + i * 5 + 1, none⟩) hb2).trans y1, (hb9.cell (p := ⟨b2, off2 + i * 5 + 2, none⟩) hb2).trans y2, (hb9.cell (p := ⟨b2, off2 + i * 5 + 3, none⟩) hb2).trans y3, (hb9.cell (p := ⟨b2, off2 + i * 5 + 4, none⟩) hb2).trans y4⟩
      have HSr : Hid (∀ Wx, Below wo.heap.size wo Wx → Calls Try.prog 14 #[.agg #[.int .i64 x.p, .string x.m, .int .i64 x.k, .slice x.a x.n x.c], .agg #[.int .i64 y.p, .string y.m, .int .i64 y.k, .slice y.a y.n y.c]] Wx fun e w' => e = .returned (.bool true) ∧ Below wo.heap.size wo w') := fun Wx hWx => by
        have hb9 := HB.out.trans (hWx.mono HB.out.size)
        refine (sameRule_same _ _ x y L[i].2 Wx (hx.below hb9) (hy.below hb9)).mono ?_
        rintro e w' ⟨rfl, hb⟩
        exact ⟨rfl, hWx.trans (hb.mono hWx.size)⟩
      have hkeep := HK.out wo (Below.refl _ _)
      clear x0 x1 x2 x3 x4 y0 y1 y2 y3 y4 hx hy hk hk2
      go_upto_region 6 with fail
      go_region_held3 (fun Wx => Wx.cell? ⟨b, off + i * 5, none⟩ = some (.int .i64 k2) ∧ Wx.cell? ⟨b, off + i * 5 + 1, none⟩ = some (.int .i64 x.p) ∧ Wx.cell? ⟨b, off + i * 5 + 1 + 1, none⟩ = some (.string x.m) ∧ Wx.cell? ⟨b, off + i * 5 + 1 + 2, none⟩ = some (.int .i64 x.k) ∧ Wx.cell? ⟨b, off + i * 5 + 1 + 3, none⟩ = some (.slice x.a x.n x.c) ∧
          Wx.cell? ⟨b2, off2 + i * 5, none⟩ = some (.int .i64 k2) ∧ Wx.cell? ⟨b2, off2 + i * 5 + 1, none⟩ = some (.int .i64 y.p) ∧ Wx.cell? ⟨b2, off2 + i * 5 + 1 + 1, none⟩ = some (.string y.m) ∧ Wx.cell? ⟨b2, off2 + i * 5 + 1 + 2, none⟩ = some (.int .i64 y.k) ∧ Wx.cell? ⟨b2, off2 + i * 5 + 1 + 3, none⟩ = some (.slice y.a y.n y.c)) (first | exact hkeep | exact HK.out _ HB9.out | go_keep) (first | (go_at_call 14; refine (HSr.out _ (by repeat (first | (with_reducible exact Below.refl _ _) | (with_reducible refine Below.drew ?_)))).mono ?_; rintro _ w9 ⟨rfl, hb9⟩; have HB9 := Lib.hid hb9; clear hb9))
      all_goals
        clear hkeep
        go_wp2_with fail
        go_roundw
        case rel => exact ⟨i + 1, by omega, by first | rfl | go_num, HB.out.trans (HB9.out.mono HB.out.size)⟩
        case measure => simp [intOf]; omega
    · go_wp2_with fail
      go_ret
      exact ⟨rfl, HB.out⟩

/-- A row of changes of the call's own. -/
structure OwnCh (P : Nat → Prop) (w : World) (base : Nat) (v : Value) (xs : List (Int × RC)) (L : List (Int × Rl)) : Prop where
  row : w.ownsRow base 51 5 v L.length (cellsC xs)
  len : xs.length = L.length
  rd : ∀ i (h : i < xs.length) (h' : i < L.length), xs[i].1 = L[i].1 ∧ RdC (okP P v) w xs[i].2 L[i].2

theorem cellsC_length : ∀ (l : List (Int × RC)), (cellsC l).length = l.length * 5
  | [] => rfl
  | x :: l => by
    show (encC x ++ cellsC l).length = _
    rw [List.length_append, cellsC_length l, List.length_cons]
    show 5 + _ = _
    omega
theorem cellsC_get : ∀ (l : List (Int × RC)) (i : Nat) (h : i < l.length), (cellsC l)[i * 5]? = some (.int .i64 l[i].1) ∧ (cellsC l)[i * 5 + 1]? = some (.int .i64 l[i].2.p) ∧ (cellsC l)[i * 5 + 2]? = some (.string l[i].2.m) ∧ (cellsC l)[i * 5 + 3]? = some (.int .i64 l[i].2.k) ∧ (cellsC l)[i * 5 + 4]? = some (.slice l[i].2.a l[i].2.n l[i].2.c)
  | [], i, h => absurd h (Nat.not_lt_zero i)
  | x :: l, 0, _ => by simp [cellsC, encC]
  | x :: l, i + 1, h => by
    have := cellsC_get l i (by simpa using h)
    rw [show cellsC (x :: l) = encC x ++ cellsC l from rfl, show (i + 1) * 5 = i * 5 + 5 by omega]
    simpa [encC] using this
theorem cellsC_append (a b : List (Int × RC)) : cellsC (a ++ b) = cellsC a ++ cellsC b := by simp [cellsC]

theorem one_cellsC {W : World} {g : Nat} {k : Int} {x : RC} {e : TypeId} (h : W.heap[g]? = some (.cells #[.int .i64 k, .int .i64 x.p, .string x.m, .int .i64 x.k, .slice x.a x.n x.c] e (0, 0))) : ∀ j u, (cellsC [(k, x)])[j]? = some u → W.cell? ((⟨g, 0, none⟩ : Addr).add j) = some u := by
  intro j u hj
  have hc : W.cell? ⟨g, j, none⟩ = (#[Value.int .i64 k, .int .i64 x.p, .string x.m, .int .i64 x.k, .slice x.a x.n x.c] : Array Value)[j]? := by simp [World.cell?, h]
  rw [Addr.add_lit, Nat.zero_add, hc]
  simpa [cellsC, encC] using hj

/-- append of one change, told by its cells, at a step of a region that draws its order. -/
theorem step_app_ch {w : World} {ops : Array Oper} {o : Oper} {a : Act} {K : Act → World → Prop} {Q : Exit → Act → World → Prop} {E : Prop} (hgd : o.guard = none) (P : Nat → Prop) (s x : Operand)
    (ho : o.op = .call { callee := .builtin .append, args := #[s, x], argTypes := #[22, 22] })
    (base : Nat) (v : Value) (xs : List (Int × RC)) (L : List (Int × Rl)) (hs : a.eval s = v) (h1 : OwnCh P w base v xs L)
    (g0 c : Nat) (k : Int) (y : RC) (r : Rl) (hx : a.eval x = .slice (some ⟨g0, 0, none⟩) 1 c) (hyc : w.heap[g0]? = some (.cells #[.int .i64 k, .int .i64 y.p, .string y.m, .int .i64 y.k, .slice y.a y.n y.c] 51 (0, 0)))
    (hyr : RdC (okP P v) w y r) (tot : Nat) (htot : L.length + 1 = tot) (hbytes : tot * 64 ≤ 140737488355328) (hbase : base ≤ w.heap.size)
    (h : ∀ ad cap w', OwnCh P w' base (.slice ad tot cap) (xs ++ [(k, y)]) (L ++ [(k, r)]) → w.grownBy w' v.ownBlock → K (a.put o.dst (.slice ad tot cap)) w') :
    if Region.wanted o (yielded ops a.tmps) = true then Oper.wp Try.prog o a w K Q else E := by
  have hw : Region.wanted o (yielded ops a.tmps) = true := by simp [Region.wanted, hgd]
  rw [if_pos hw]
  subst htot
  obtain ⟨i0, hi, hz0, hz1, hz2⟩ := info_parts infoC
  refine wp_append_lies w s x 22 ho base 51 i0 _ 5 64 Try.underlying22 hi hz0 hz1 hz2 rfl (by decide) v L.length (cellsC xs) hs h1.row ⟨g0, 0, none⟩ 1 c (cellsC [(k, y)]) hx rfl (one_cellsC hyc) (fun u hu => by simpa [cellsC, encC] using cells5_one k y u (by simpa [cellsC, encC] using hu))
    (by omega) (by unfold maxLen; omega) hbytes hbase w.heap.size rfl fun g cap w' hown hg hgg hlt => h _ cap w' ?_ hg
  have hbut : But (fun b => v.ownBlock = some b) w w' := ⟨hg.os, hg.tape, hg.output, hg.size, fun k hk hn => hg.block k hk (fun e => hn e.symm)⟩
  have key : ∀ {y' : RC} {r' : Rl}, RdC (okP P v) w y' r' → RdC (okP P (.slice (some ⟨g, 0, none⟩) (L.length + 1) cap)) w' y' r' := fun hy => by
    refine (hy.lt.but hbut (fun b hb e => hb.1.2 e)).mono (fun b hb => ⟨hb.1.1, fun e => ?_⟩)
    have e2 : g = b := Option.some.inj e
    rcases hgg with h3 | h3
    · exact hb.1.2 (by rw [h3, e2])
    · have := hb.2; omega
  refine ⟨?_, ?_, ?_⟩
  · rw [cellsC_append, List.length_append]; exact hown
  · rw [List.length_append, List.length_append, h1.len]; rfl
  · intro i h3 h4
    by_cases hlt2 : i < xs.length
    · rw [List.getElem_append_left hlt2, List.getElem_append_left (by rw [← h1.len]; exact hlt2)]
      obtain ⟨g1, g2⟩ := h1.rd i hlt2 (by rw [← h1.len]; exact hlt2)
      exact ⟨g1, key g2⟩
    · have e1 : i = xs.length := by simp at h3; omega
      subst e1
      have e2 : (xs ++ [(k, y)])[xs.length]'h3 = (k, y) := by simp
      have e3 : (L ++ [(k, r)])[xs.length]'h4 = (k, r) := by simp only [h1.len]; simp
      rw [e2, e3]
      exact ⟨rfl, key hyr⟩

/-- Ports that are there and may be written. -/
def SW (w : World) (x : RC) : Prop := ∀ b off, x.a = some ⟨b, off, none⟩ → ∀ k, k < x.n → (∃ s, w.cell? ⟨b, off + k, none⟩ = some (.string s)) ∧ w.frozen? ⟨b, off + k, none⟩ = false

theorem sw_of {ok : Nat → Prop} {w : World} {x : RC} {r : Rl} (hx : RdC ok w x r) (hp : Pf w x) : SW w x := by
  intro b off ha k hk
  refine ⟨?_, hp b off ha k hk⟩
  rcases hx.s.1 with ⟨a', c', h1, h2, h3⟩ | ⟨b', off', cap, h1, h2, h3, h4, h5⟩
  · injection h1 with _ e2 _
    omega
  · injection h1 with e1 e2 e3
    rw [ha] at e1
    injection e1 with e1
    injection e1 with e1 e4 _
    subst e1 e4
    have := h5 k (by rw [← e2]; exact hk)
    refine ⟨r.ps[k]'(by rw [List.length_map] at e2; omega), ?_⟩
    rw [this, List.getElem_map]

theorem SW.set {w : World} {x : RC} (h : SW w x) {p : Addr} {s0 : ByteArray} (hp : w.cell? p = some (.string s0)) (s : ByteArray) : SW (w.setCell p (.string s)) x := by
  intro b off ha k hk
  obtain ⟨⟨s1, h1⟩, h2⟩ := h b off ha k hk
  refine ⟨?_, by first | exact h2 | (rw [World.frozen?_setCell]; exact h2)⟩
  by_cases he : p = ⟨b, off + k, none⟩
  · subst he
    exact ⟨s, cell_set_same _ hp⟩
  · exact ⟨s1, (cell_set_other _ he).trans h1⟩
theorem SW.below {ok : Nat → Prop} {w w' : World} {x : RC} {r : Rl} (h : SW w x) (hx : RdC ok w x r) (hb : Below w.heap.size w w') : SW w' x := by
  intro b off ha k hk
  obtain ⟨⟨s, h1⟩, h2⟩ := h b off ha k hk
  have hl := hx.s.lt.2 ⟨b, off, none⟩ x.n x.c (by rw [ha]) (by omega)
  exact ⟨⟨s, (hb.cell (p := ⟨b, off + k, none⟩) hl.2).trans h1⟩, ((But.below hb).frozen (S := fun _ => False) (p := ⟨b, off + k, none⟩) hl.2 (fun h => h)).trans h2⟩
end Go.Proofs.Ytlamhpiiikcpiaa
/-
  Rows whose ports may be written: what the stores into them keep.
-/
namespace Go.Proofs.Ytlamhpiiikcpiaa
open Go.RowKit Go.Shelf Go.Lib Go.Sort
set_option linter.unusedVariables false
set_option linter.unusedSectionVars false
set_option linter.unusedSimpArgs false

theorem Tab.toP {vo wo t : Nat} {ok : Nat → Prop} {w : World} {v : Value} {L : List Rl} {W : Int} (h : Tab vo wo ok w t v L W) (P : Nat → Prop) (hP : ∀ k, ok k → k < w.heap.size → P k) (ht : ∀ k, P k → k ≠ t) : Tab vo wo P w t v L W :=
  ⟨h.c0, h.c1, h.f0, h.rd.lt.mono fun k hk => hP k hk.1 hk.2, ht, h.lo, h.hi⟩

theorem ownCh_nil (P : Nat → Prop) (w : World) (base : Nat) : OwnCh P w base (.slice none 0 0) [] [] := ⟨World.ownsRow_nil _ _ _ _, rfl, fun i h => absurd h (Nat.not_lt_zero _)⟩
theorem OwnCh.below {P : Nat → Prop} {w w' : World} {base : Nat} {v : Value} {xs : List (Int × RC)} {L : List (Int × Rl)} (h : OwnCh P w base v xs L) (hb : Below w.heap.size w w') : OwnCh P w' base v xs L :=
  ⟨ownsRow_below h.row hb, h.len, fun i h1 h2 => ⟨(h.rd i h1 h2).1, (h.rd i h1 h2).2.below hb⟩⟩

theorem OwnCh.cells {P : Nat → Prop} {w : World} {base n c : Nat} {ad : Option Addr} {xs : List (Int × RC)} {L : List (Int × Rl)} (h : OwnCh P w base (.slice ad n c) xs L) (i : Nat) (hi : i < xs.length) :
    ∃ g, ad = some ⟨g, 0, none⟩ ∧ g < w.heap.size ∧ w.cell? ⟨g, 0 + i * 5, none⟩ = some (.int .i64 xs[i].1) ∧ w.cell? ⟨g, 0 + i * 5 + 1, none⟩ = some (.int .i64 xs[i].2.p) ∧ w.cell? ⟨g, 0 + i * 5 + 2, none⟩ = some (.string xs[i].2.m) ∧ w.cell? ⟨g, 0 + i * 5 + 3, none⟩ = some (.int .i64 xs[i].2.k) ∧ w.cell? ⟨g, 0 + i * 5 + 4, none⟩ = some (.slice xs[i].2.a xs[i].2.n xs[i].2.c) := by
  obtain ⟨⟨h1, h2⟩, h3, h4⟩ := h
  rcases h2 with ⟨h2, h5⟩ | ⟨g, cap, cur, hv, hg, hh, hn, hc, hs, ht⟩
  · exact absurd hi (by omega)
  · injection hv with e1 e2 e3
    refine ⟨g, e1, ?_, ?_⟩
    · rcases Nat.lt_or_ge g w.heap.size with h | h
      · exact h
      · simp [Array.getElem?_eq_none h] at hh
    · have key : ∀ j u, j < L.length * 5 → (cellsC xs)[j]? = some u → w.cell? ⟨g, 0 + j, none⟩ = some u := fun j u hj hu => by
        rw [← ht, List.getElem?_take_of_lt (by omega)] at hu
        simp only [World.cell?, hh, Nat.zero_add]
        simpa using hu
      have h6 := cellsC_get xs i hi
      have k0 := key (i * 5) _ (by omega) h6.1
      have k1 := key (i * 5 + 1) _ (by omega) h6.2.1
      have k2 := key (i * 5 + 2) _ (by omega) h6.2.2.1
      have k3 := key (i * 5 + 3) _ (by omega) h6.2.2.2.1
      have k4 := key (i * 5 + 4) _ (by omega) h6.2.2.2.2
      exact ⟨k0, k1, k2, k3, k4⟩

theorem OwnCh.toRds {P : Nat → Prop} {w : World} {base : Nat} {v : Value} {xs : List (Int × RC)} {L : List (Int × Rl)} (h : OwnCh P w base v xs L) (hk : ∀ b, base ≤ b → P b) : RdsC P w v L := by
  have h0 := h
  obtain ⟨⟨h1, h2⟩, h3, h4⟩ := h
  rcases h2 with ⟨h2, h5⟩ | ⟨g, cap, cur, hv, hg, hh, hn, hc, hs, ht⟩
  · subst h2
    have e1 : L = [] := List.length_eq_zero_iff.1 h5
    have e2 : xs = [] := List.length_eq_zero_iff.1 (by omega)
    subst e1 e2
    exact ⟨[], none, 0, 0, rfl, rfl, rfl, ⟨Nat.le_refl _, fun _ => rfl⟩, Nat.zero_le _, okV_nil _ _ _, fun i h => absurd h (Nat.not_lt_zero _), fun i h => absurd h (Nat.not_lt_zero _)⟩
  · subst hv
    refine ⟨xs, _, _, cap, rfl, rfl, h3, ⟨hn, fun h => by cases h⟩, hc, okV_some (hk g hg), fun i hi => ?_, fun i h1 h2 => ⟨(h4 i h1 h2).1, (h4 i h1 h2).2.mono fun b hb => hb.1⟩⟩
    obtain ⟨g', e, k⟩ := h0.cells i hi
    exact ⟨g', 0, e, k⟩

theorem OwnR.cells {ok : Nat → Prop} {w : World} {base n c : Nat} {ad : Option Addr} {xs : List RC} {L : List Rl} (h : OwnR ok w base (.slice ad n c) xs L) (i : Nat) (hi : i < xs.length) :
    ∃ g, ad = some ⟨g, 0, none⟩ ∧ g < w.heap.size ∧ w.cell? ⟨g, 0 + i * 4 + 3, none⟩ = some (.slice xs[i].a xs[i].n xs[i].c) := by
  obtain ⟨⟨h1, h2⟩, h3, h4⟩ := h
  rcases h2 with ⟨h2, h5⟩ | ⟨g, cap, cur, hv, hg, hh, hn, hc, hs, ht⟩
  · exact absurd hi (by omega)
  · injection hv with e1 e2 e3
    refine ⟨g, e1, ?_, ?_⟩
    · rcases Nat.lt_or_ge g w.heap.size with h | h
      · exact h
      · simp [Array.getElem?_eq_none h] at hh
    · have key : ∀ j u, j < L.length * 4 → (cellsR xs)[j]? = some u → w.cell? ⟨g, 0 + j, none⟩ = some u := fun j u hj hu => by
        rw [← ht, List.getElem?_take_of_lt (by omega)] at hu
        simp only [World.cell?, hh, Nat.zero_add]
        simpa using hu
      exact key (i * 4 + 3) _ (by omega) (cellsR_get xs i hi).2.2.2

theorem rdC_form {ok : Nat → Prop} {w : World} {x : RC} {r : Rl} (hx : RdC ok w x r) : x.n ≤ 8796093021952 ∧ (0 < x.n → ∃ b off, x.a = some ⟨b, off, none⟩ ∧ ok b ∧ b < w.heap.size) := by
  have hz := hx.z.n
  have hl := hx.s.lt
  rcases hx.s.1 with ⟨a', c', h1, h2, h3⟩ | ⟨b', off', cap, h1, h2, h3, h4, h5⟩
  · injection h1 with _ e2 _
    exact ⟨by omega, fun h => by omega⟩
  · injection h1 with e1 e2 e3
    rw [List.length_map] at e2
    refine ⟨by omega, fun hn => ⟨b', off', e1, ?_⟩⟩
    exact hl.2 ⟨b', off', none⟩ x.n x.c (by rw [e1]) (by omega)

theorem SW.below' {w w' : World} {x : RC} (h : SW w x) (hb : Below w.heap.size w w') : SW w' x := by
  intro b off ha k hk
  obtain ⟨⟨s, h1⟩, h2⟩ := h b off ha k hk
  have hl : b < w.heap.size := by
    rcases Nat.lt_or_ge b w.heap.size with h3 | h3
    · exact h3
    · rw [World.cell?, Array.getElem?_eq_none h3] at h1; cases h1
  exact ⟨⟨s, (hb.cell (p := ⟨b, off + k, none⟩) hl).trans h1⟩, ((But.below hb).frozen (S := fun _ => False) (p := ⟨b, off + k, none⟩) hl (fun h => h)).trans h2⟩

/-- A row of elements of k cells, the ports' header at cell d: the ports may be written, they lie beside the row in blocks from lo up to hi. -/
structure PW (k d lo hi : Nat) (w : World) (ad : Option Addr) (n : Nat) (ys : List RC) : Prop where
  len : ys.length = n
  get : ∀ i (h : i < ys.length), ∃ g off, ad = some ⟨g, off, none⟩ ∧ g < w.heap.size ∧ w.cell? ⟨g, off + i * k + d, none⟩ = some (.slice ys[i].a ys[i].n ys[i].c)
  form : ∀ i (h : i < ys.length), ys[i].n ≤ 8796093021952 ∧ (0 < ys[i].n → ∃ b off, ys[i].a = some ⟨b, off, none⟩ ∧ lo ≤ b ∧ b < hi ∧ ∀ a, ad = some a → a.block ≠ b)
  sw : ∀ i (h : i < ys.length), SW w ys[i]

theorem PW.below {k d lo hi n : Nat} {w w' : World} {ad : Option Addr} {ys : List RC} (h : PW k d lo hi w ad n ys) (hb : Below w.heap.size w w') : PW k d lo hi w' ad n ys := by
  refine ⟨h.len, fun i hi => ?_, h.form, fun i hi => (h.sw i hi).below' hb⟩
  obtain ⟨g, off, e, hl, hc⟩ := h.get i hi
  exact ⟨g, off, e, Nat.lt_of_lt_of_le hl hb.size, (hb.cell (p := ⟨g, off + i * k + d, none⟩) hl).trans hc⟩

theorem PW.at {k d lo hi n : Nat} {w : World} {ad : Option Addr} {ys : List RC} (h : PW k d lo hi w ad n ys) (i : Nat) (hi' : i < n) : ∃ x, ∃ hi2 : i < ys.length, ys[i] = x ∧ x.n ≤ 8796093021952 ∧ ∃ g off, ad = some ⟨g, off, none⟩ ∧ w.cell? ⟨g, off + i * k + d, none⟩ = some (.slice x.a x.n x.c) := by
  have hi2 : i < ys.length := by rw [h.len]; exact hi'
  obtain ⟨g, off, e, hl, hc⟩ := h.get i hi2
  exact ⟨_, hi2, rfl, (h.form i hi2).1, g, off, e, hc⟩

/-- What a store into the ports meets, and what it leaves. -/
theorem PW.store {k d lo hi n : Nat} {w : World} {ad : Option Addr} {ys : List RC} (h : PW k d lo hi w ad n ys) {i : Nat} (hi2 : i < ys.length) {x : RC} (hx : ys[i] = x) {j : Nat} (hj : j < x.n) :
    ∃ b off s0, x.a = some ⟨b, off, none⟩ ∧ w.cell? ⟨b, off + j, none⟩ = some (.string s0) ∧ w.frozen? ⟨b, off + j, none⟩ = false ∧
      ∀ s, PW k d lo hi (w.setCell ⟨b, off + j, none⟩ (.string s)) ad n ys ∧ But (fun b => lo ≤ b ∧ b < hi) w (w.setCell ⟨b, off + j, none⟩ (.string s)) := by
  subst hx
  obtain ⟨b, off, ha, h1, h2, h3⟩ := (h.form i hi2).2 (by omega)
  obtain ⟨⟨s0, h4⟩, h5⟩ := h.sw i hi2 b off ha j hj
  refine ⟨b, off, s0, ha, h4, h5, fun s => ⟨⟨h.len, fun i' hi' => ?_, h.form, fun i' hi' => (h.sw i' hi').set h4 s⟩, But.set (a := ⟨b, off + j, none⟩) (S := fun b => lo ≤ b ∧ b < hi) ⟨h1, h2⟩ _⟩⟩
  obtain ⟨g, off', e, hl, hc⟩ := h.get i' hi'
  refine ⟨g, off', e, by simpa [World.setCell] using hl, (cell_set_other _ (fun e2 => ?_)).trans hc⟩
  exact h3 _ e (congrArg Addr.block e2).symm

theorem OwnCh.pw {P : Nat → Prop} {w : World} {base n c : Nat} {ad : Option Addr} {xs : List (Int × RC)} {L : List (Int × Rl)} (h : OwnCh P w base (.slice ad n c) xs L) (hp : ∀ j (h : j < xs.length), Pf w xs[j].2) (hP : ∀ b, P b → base ≤ b) (hn : xs.length = n) : PW 5 4 base w.heap.size w ad n (xs.map (·.2)) := by
  have hL : ∀ {i}, i < (xs.map (·.2)).length → i < xs.length := fun hi => by rw [List.length_map] at hi; exact hi
  have hL2 : ∀ {i}, i < xs.length → i < L.length := fun hi => by rw [← h.len]; exact hi
  refine ⟨by rw [List.length_map]; exact hn, fun i hi => ?_, fun i hi => ?_, fun i hi => ?_⟩
  · obtain ⟨g, e, hl, _, _, _, _, k4⟩ := h.cells i (hL hi)
    refine ⟨g, 0, e, hl, ?_⟩
    rw [List.getElem_map]
    exact k4
  · rw [List.getElem_map]
    obtain ⟨f1, f2⟩ := rdC_form (h.rd i (hL hi) (hL2 (hL hi))).2
    refine ⟨f1, fun h0 => ?_⟩
    obtain ⟨b, off, ha, hk, hl⟩ := f2 h0
    refine ⟨b, off, ha, hP b hk.1, hl, fun a he e => ?_⟩
    exact hk.2 (by rw [he, ← e]; rfl)
  · rw [List.getElem_map]
    exact sw_of (h.rd i (hL hi) (hL2 (hL hi))).2 (hp i (hL hi))

theorem OwnR.pw {w : World} {base n c : Nat} {ad : Option Addr} {xs : List RC} {L : List Rl} (h : OwnR (okF base (.slice ad n c)) w base (.slice ad n c) xs L) (hp : ∀ j (h : j < xs.length), Pf w xs[j]) (hn : xs.length = n) : PW 4 3 base w.heap.size w ad n xs := by
  have hL2 : ∀ {i}, i < xs.length → i < L.length := fun hi => by rw [← h.len]; exact hi
  refine ⟨hn, fun i hi => ?_, fun i hi => ?_, fun i hi => ?_⟩
  · obtain ⟨g, e, hl, k4⟩ := h.cells i hi
    exact ⟨g, 0, e, hl, k4⟩
  · obtain ⟨f1, f2⟩ := rdC_form (h.rd i hi (hL2 hi))
    refine ⟨f1, fun h0 => ?_⟩
    obtain ⟨b, off, ha, hk, hl⟩ := f2 h0
    refine ⟨b, off, ha, hk.1, hl, fun a he e => ?_⟩
    exact hk.2 (by rw [he, ← e]; rfl)
  · exact sw_of (h.rd i hi (hL2 hi)) (hp i hi)

theorem app_pf {P : Nat → Prop} {w9 W w4 : World} {base : Nat} {v : Value} {xs : List (Int × RC)} {L : List (Int × Rl)} {k : Int} {y : RC} {r : Rl} (h : OwnCh P w9 base v xs L) (hp : ∀ j (h : j < xs.length), Pf w9 xs[j].2) (hy : RdC (okP P v) w9 y r) (hpy : Pf w9 y) (hb : Below w9.heap.size w9 W) (hg : W.grownBy w4 v.ownBlock) :
    ∀ j (h : j < (xs ++ [(k, y)]).length), Pf w4 (xs ++ [(k, y)])[j].2 := by
  have hbut : But (fun b => v.ownBlock = some b) W w4 := ⟨hg.os, hg.tape, hg.output, hg.size, fun k hk hn => hg.block k hk (fun e => hn e.symm)⟩
  have key : ∀ {x r}, RdC (okP P v) w9 x r → Pf w9 x → Pf w4 x := fun hx hpx => (hpx.below hx hb).but (hx.below hb) hbut (fun b hb e => hb.2 e)
  intro j hj
  by_cases hlt : j < xs.length
  · rw [List.getElem_append_left hlt]
    exact key (h.rd j hlt (by rw [← h.len]; exact hlt)).2 (hp j hlt)
  · have hje : j = xs.length := by simp at hj; omega
    have e : (xs ++ [(k, y)])[j] = (k, y) := by subst hje; simp
    rw [e]
    exact key hy hpy
end Go.Proofs.Ytlamhpiiikcpiaa
/-
  Walks: FibOwn.
-/
namespace Go.Proofs.Ytlamhpiiikcpiaa
open Go.RowKit Go.Shelf Go.Lib Go.Sort
set_option linter.unusedVariables false
set_option linter.unusedSectionVars false
set_option linter.unusedSimpArgs false

set_option maxHeartbeats 3200000 in
set_option maxRecDepth 20000 in
theorem FibOwn_walk (W : Int) (v1 : Value) (l : List (Int × Rl)) (w : World) (h1 : RdsC (fun _ => True) w v1 l) (z1 : l.length * 64 ≤ 140737488351232) :
    Calls Try.prog 5 #[.int .i64 W, v1] w fun e w' => e = .returned (.bool true) ∧ Below w.heap.size w w' := by
  have HAw : Hid (∀ Wx, Calls Try.prog 9 #[] Wx fun e w' => e = .returned (.bool true) ∧ Below Wx.heap.size Wx w') := fun Wx => awake_any Wx
  have HC := Lib.hid h1.lt
  have HZ := Lib.hid z1
  obtain ⟨n, hn⟩ : ∃ n, n = l.length := ⟨_, rfl⟩
  have HN := Lib.hid hn
  obtain ⟨ad1, cap1, rfl, hc1, hm1⟩ := h1.form
  unfold maxLen at hm1
  have hzn : n * 64 ≤ 140737488351232 := by rw [hn]; exact z1
  rw [← hn] at HC hc1 ⊢
  clear h1 hn z1
  go_enter Try.func5, Try.ntmps5
  go_wp2_with fail
  go_loopw [5, 6] (fun s5 s6 wr => ∃ (i : Nat) (ad : Option Addr) (c : Nat) (xs : List (Int × RC)), s6 = .int .i64 i ∧ s5 = .slice ad i c ∧ i ≤ n ∧ Hid (xs.length = i) ∧ Hid (OwnCh (fun b => w.heap.size ≤ b) wr w.heap.size (.slice ad i c) xs (l.take i)) ∧ Hid (∀ j (h : j < xs.length), Pf wr xs[j].2) ∧ Hid (Below w.heap.size w wr)) (fun _ s6 _ => n - (intOf s6).toNat)
  case atStart => exact ⟨0, none, 0, [], rfl, rfl, Nat.zero_le _, rfl, ownCh_nil _ _ _, (fun j h => absurd h (Nat.not_lt_zero _)), Below.refl _ _⟩
  case round =>
    obtain ⟨wo, rfl⟩ : ∃ wo : World, wo = wr := ⟨wr, rfl⟩
    obtain ⟨i, ad, c, xs, rfl, rfl, hin, HXl, HO, HPf, HB⟩ := hrel
    by_cases hlt : i < n
    · have hiL : i < l.length := by rw [← HN.out]; exact hlt
      obtain ⟨b, off, k, x, rfl, hb, _, hk, x0, x1, x2, x3, x4, hx⟩ := HC.out.get i hiL
      have HK : Hid (∀ Wx, Below w.heap.size w Wx → Wx.cell? ⟨b, off + i * 5, none⟩ = some (.int .i64 k) ∧ Wx.cell? ⟨b, off + i * 5 + 1, none⟩ = some (.int .i64 x.p) ∧ Wx.cell? ⟨b, off + i * 5 + 1 + 1, none⟩ = some (.string x.m) ∧ Wx.cell? ⟨b, off + i * 5 + 1 + 2, none⟩ = some (.int .i64 x.k) ∧ Wx.cell? ⟨b, off + i * 5 + 1 + 3, none⟩ = some (.slice x.a x.n x.c)) := fun Wx hb9 =>
        ⟨(hb9.cell (p := ⟨b, off + i * 5, none⟩) hb).trans x0, (hb9.cell (p := ⟨b, off + i * 5 + 1, none⟩) hb).trans x1, (hb9.cell (p := ⟨b, off + i * 5 + 2, none⟩) hb).trans x2, (hb9.cell (p := ⟨b, off + i * 5 + 3, none⟩) hb).trans x3, (hb9.cell (p := ⟨b, off + i * 5 + 4, none⟩) hb).trans x4⟩
      have HHk : Hid (k = l[i].1) := hk
      have HCp : Hid (∀ Wx, Below wo.heap.size wo Wx → Calls Try.prog 19 #[.agg #[.int .i64 x.p, .string x.m, .int .i64 x.k, .slice x.a x.n x.c]] Wx fun e w' => ∃ y : RC, e = .returned (.agg #[.int .i64 y.p, .string y.m, .int .i64 y.k, .slice y.a y.n y.c]) ∧ RdC (okP (fun b => w.heap.size ≤ b) (.slice ad i c)) w' y l[i].2 ∧ Pf w' y ∧ Below wo.heap.size wo w') := fun Wx hWx => by
        refine (rCopy_own _ x l[i].2 Wx (hx.below (HB.out.trans (hWx.mono HB.out.size)))).mono ?_
        rintro e w' ⟨y, rfl, hy, hp, hb⟩
        have hs := hWx.size
        have hs0 := HB.out.size
        refine ⟨y, rfl, hy.mono fun b hb => ⟨by omega, fun e => ?_⟩, hp, hWx.trans (hb.mono hWx.size)⟩
        have := (HO.out.row.lt b e).2
        omega
      have HF : Hid (l.take i ++ [(k, l[i].2)] = l.take (i + 1)) := by show _ = _; rw [List.take_succ_eq_append_getElem hiL, hk]
      have HTl : Hid ((l.take i).length = i) := by show _ = _; rw [List.length_take]; omega
      have hkeep := HK.out wo HB.out
      have hbsz := HB.out.size
      clear x0 x1 x2 x3 x4 hx hk
      go_upto_region 5 with fail
      go_region_held3 (fun Wx => Wx.cell? ⟨b, off + i * 5, none⟩ = some (.int .i64 k) ∧ Wx.cell? ⟨b, off + i * 5 + 1, none⟩ = some (.int .i64 x.p) ∧ Wx.cell? ⟨b, off + i * 5 + 1 + 1, none⟩ = some (.string x.m) ∧ Wx.cell? ⟨b, off + i * 5 + 1 + 2, none⟩ = some (.int .i64 x.k) ∧ Wx.cell? ⟨b, off + i * 5 + 1 + 3, none⟩ = some (.slice x.a x.n x.c))
        (first | exact hkeep | exact HK.out _ HB4.out | exact HK.out _ HB9.out | exact HK.out _ (by repeat (first | exact HB9.out | (with_reducible refine Below.drew ?_) | (with_reducible refine Below.alloc ?_ (by have := HB9.out.size; simp <;> omega) _))) | go_keep)
        (first
          | (go_at_call 19; refine (HCp.out _ (by repeat (first | (with_reducible exact Below.refl _ _) | (with_reducible refine Below.drew ?_)))).mono ?_; rintro _ w9 ⟨y, rfl, hy9, hp9, hb9⟩; have HY9 := Lib.hid hy9; have HP9 := Lib.hid hp9; have HB9 := Lib.hid (HB.out.trans (hb9.mono HB.out.size)); have HO9 := Lib.hid (HO.out.below hb9); have HQ9 : Hid (∀ j (h : j < xs.length), Pf w9 xs[j].2) := fun j h => (HPf.out j h).below (HO.out.rd j h (by rw [← HO.out.len]; exact h)).2 hb9; clear hy9 hp9 hb9)
          | ((refine step_app_ch rfl (fun b => w.heap.size ≤ b) (.tmp 24) (.tmp 37) (by rfl) w.heap.size (.slice ad i c) xs (l.take i) (by rfl) (HO9.out.below (by repeat (first | (with_reducible exact Below.refl _ _) | (with_reducible refine Below.drew ?_) | (with_reducible refine Below.alloc ?_ (by simp) _)))) w9.heap.size 1 k y l[i].2 (by rfl) (by exact heap_alloc_new _ _) (HY9.out.below (by repeat (first | (with_reducible exact Below.refl _ _) | (with_reducible refine Below.drew ?_) | (with_reducible refine Below.alloc ?_ (by simp) _)))) (i + 1) (by rw [HTl.out]) (by omega) (by have := HB9.out.size; simp <;> omega) ?_); intro ad4 c4 w4 ho4 hg4; have HO4 := Lib.hid ho4; have HP4 := Lib.hid (app_pf (k := k) HO9.out HQ9.out HY9.out HP9.out (by repeat (first | (with_reducible exact Below.refl _ _) | (with_reducible refine Below.drew ?_) | (with_reducible refine Below.alloc ?_ (by simp) _))) hg4); have HB4 := Lib.hid (Below.grown (B := w.heap.size) (a := w) (by repeat (first | exact HB9.out | (with_reducible refine Below.drew ?_) | (with_reducible refine Below.alloc ?_ (by have := HB9.out.size; simp <;> omega) _))) hg4 (by have := HB9.out.size; simp <;> omega) (fun k hk => (HO.out.row.lt k hk).1)); clear ho4 hg4))
      all_goals
        rw [HF.out] at HO4
        have HX4 : Hid ((xs ++ [(k, y)]).length = i + 1) := by show _ = _; rw [List.length_append, HXl.out]; rfl
        clear hkeep
        go_wp2_with fail
        go_roundw
        case rel => exact ⟨i + 1, ad4, c4, _, by first | rfl | go_num, rfl, by omega, HX4.out, HO4.out, HP4.out, HB4.out⟩
        case measure => simp [intOf]; omega
    · have hin' : i = n := by omega
      have HF : Hid (l.take i = l) := by show _ = _; rw [hin']; exact List.take_of_length_le (by have := HN.out; omega)
      subst hin'
      have hpw := HO.out.pw HPf.out (fun b hb => hb) HXl.out
      rw [HF.out] at HO
      have HR1 := Lib.hid (HO.out.toRds fun b hb => hb)
      have HP1 := Lib.hid hpw
      obtain ⟨ys, hys⟩ : ∃ ys, ys = xs.map (·.2) := ⟨_, rfl⟩
      rw [← hys] at HP1
      clear hpw hys HF HO HPf HXl
      by_cases hW : W < 1 ∨ W > 128
      · have HM := Lib.hid (made_bad W (.slice ad i c) wo hW)
        clear hW
        go_wp2_with fail
        refine HM.out.mono ?_
        rintro e w1 ⟨rfl, rfl⟩
        go_wp2_with fail
        refine (HAw.out _).mono ?_
        rintro e w2 ⟨rfl, hb⟩
        have HB2 := Lib.hid hb
        clear hb
        go_wp2_with fail
        go_ret
        exact ⟨rfl, HB.out.trans (HB2.out.mono HB.out.size)⟩
      have hbs := HB.out.size
      have HM := Lib.hid (made_ok W (.slice ad i c) l wo (by omega) (by omega) HR1.out HZ.out)
      have HM2 : Hid (∀ Wx, Below w.heap.size w Wx → Calls Try.prog 8 #[.int .i64 W, .slice ad1 i cap1] Wx (MadePost W l Wx)) := fun Wx hWx => made_ok W (.slice ad1 i cap1) l Wx (by omega) (by omega) (HC.out.below hWx) HZ.out
      obtain ⟨L, hL⟩ : ∃ L, L = Fb.mkL W (l.take 100) := ⟨_, rfl⟩
      have HOk : Hid (Fb.Ok W L) := by rw [hL]; exact Fb.mkL_ok W _
      have HL := Lib.hid hL
      clear hW hL
      go_wp2_with fail
      refine HM.out.mono ?_
      rintro e w1 ⟨hb1, tb, rb, v, vr, ht, hr, hne, rfl, hT, _⟩
      rw [← HL.out] at hT
      have HB1 : Hid (Below w.heap.size w w1) := HB.out.trans (hb1.mono hbs)
      have HR1b := Lib.hid (HR1.out.below hb1)
      have HP1b := Lib.hid (HP1.out.below hb1)
      have HT1 := Lib.hid hT
      have hs1 := hb1.size
      clear hb1 hT
      go_wp2_with fail
      refine (HAw.out _).mono ?_
      rintro e w2 ⟨rfl, hb2⟩
      have HB2 : Hid (Below w.heap.size w w2) := HB1.out.trans (hb2.mono (by omega))
      have HR2 := Lib.hid (HR1b.out.below hb2)
      have HP2 := Lib.hid (HP1b.out.below hb2)
      have HT2 := Lib.hid (HT1.out.below hb2)
      have HSm := Lib.hid (sameChanges_same _ _ _ _ l w2 HR2.out (HC.out.below HB2.out))
      have hs2 := hb2.size
      clear hb2
      go_wp2_with fail
      refine HSm.out.mono ?_
      rintro e w3 ⟨rfl, hb3⟩
      have HB3 : Hid (Below w.heap.size w w3) := HB2.out.trans (hb3.mono (by omega))
      have HP3 := Lib.hid (HP2.out.below hb3)
      have HT3 := Lib.hid (HT2.out.below hb3)
      have hs3 := hb3.size
      clear hb3
      go_wp2_with fail
      refine (HM2.out _ HB3.out).mono ?_
      rintro e w4 ⟨hb4, qb, rq, vb, vq, hqb, hrq, hne2, rfl, _, hQ⟩
      rw [← HL.out] at hQ
      have HB4 : Hid (Below w.heap.size w w4) := HB3.out.trans (hb4.mono (by omega))
      have HP4 := Lib.hid (HP3.out.below hb4)
      have HT4 := Lib.hid (HT3.out.below hb4)
      have HQ4 := Lib.hid hQ
      have hs4 := hb4.size
      clear hb4 hQ
      have htl : tb < w4.heap.size := HT4.out.lt
      have hql : rq < w4.heap.size := HQ4.out.lt
      go_wp2_with fail
      go_loopw [67] (fun s67 wr => ∃ a : Nat, s67 = .int .i64 a ∧ a ≤ i ∧ Hid (PW 5 4 w.heap.size wo.heap.size wr ad i ys) ∧ Hid (But (fun b => w.heap.size ≤ b ∧ b < wo.heap.size) w4 wr)) (fun s67 _ => i - (intOf s67).toNat)
      case atStart => exact ⟨0, rfl, Nat.zero_le _, HP4.out, But.refl _ _⟩
      case round =>
        obtain ⟨wa, rfl⟩ : ∃ wa : World, wa = wr := ⟨wr, rfl⟩
        obtain ⟨a, rfl, hai, HPa, HBa⟩ := hrel
        by_cases hal : a < i
        · obtain ⟨x, hi2, hx, hxn, g, off, rfl, hcc⟩ := HPa.out.at a hal
          have HX := Lib.hid hx
          have hcc1 : wa.cell? ⟨g, off + a * 5 + 1 + 2 + 1, none⟩ = some (.slice x.a x.n x.c) := hcc
          clear hx hcc
          go_wp2_with fail
          go_loopw [78] (fun s78 wr => ∃ j : Nat, s78 = .int .i64 j ∧ j ≤ x.n ∧ Hid (PW 5 4 w.heap.size wo.heap.size wr (some ⟨g, off, none⟩) i ys) ∧ Hid (But (fun b => w.heap.size ≤ b ∧ b < wo.heap.size) w4 wr)) (fun s78 _ => x.n - (intOf s78).toNat)
          case atStart => exact ⟨0, rfl, Nat.zero_le _, HPa.out, HBa.out⟩
          case round =>
            obtain ⟨wb, rfl⟩ : ∃ wb : World, wb = wr := ⟨wr, rfl⟩
            obtain ⟨j, rfl, hjx, HPb, HBb⟩ := hrel
            by_cases hjl : j < x.n
            · obtain ⟨pb, poff, s0, ha, hs, hf, hst⟩ := HPb.out.store hi2 HX.out hjl
              obtain ⟨g', off', e', _, hcb⟩ := HPb.out.get a hi2
              injection e' with e'
              injection e' with e1 e2 _
              subst e1 e2
              rw [HX.out, ha] at hcb
              have hcb1 : wb.cell? ⟨g, off + a * 5 + 1 + 2 + 1, none⟩ = some (.slice (some ⟨pb, poff, none⟩) x.n x.c) := hcb
              have HSt := Lib.hid hst
              clear hst hcb ha hcc1
              go_wp2_with fail
              go_roundw
              case rel => exact ⟨j + 1, by first | rfl | go_num, by omega, (HSt.out _).1, HBb.out.trans (HSt.out _).2⟩
              case measure => simp [intOf]; omega
            · go_wp2_with fail
              go_roundw
              case rel => exact ⟨a + 1, by first | rfl | go_num, by omega, HPb.out, HBb.out⟩
              case measure => simp [intOf]; omega
        · have HBa' := HBa.out
          have HB5 : Hid (Below w.heap.size w wa) := HB4.out.trans (HBa.out.toBelow (by omega) (fun k hk => hk.1))
          have HT5 := Lib.hid (HT4.out.but HBa.out (fun e => by omega) (fun b hb e => by have := hb.1; omega))
          have HQ5 := Lib.hid (HQ4.out.but HBa.out (fun e => by omega) (fun b hb e => by have := hb.1; omega))
          have hs5 := HBa.out.size
          have HRu := Lib.hid (rules_own HT5.out HOk.out.few)
          obtain ⟨m, hm⟩ : ∃ m, m = L.length := ⟨_, rfl⟩
          have hm4 : m ≤ 4096 := by rw [hm]; exact HOk.out.few
          rw [← hm] at HRu
          have HMm := Lib.hid hm
          clear HBa' hm
          go_wp2_with fail
          refine HRu.out.mono ?_
          rintro e w6 ⟨ad6, c6, xs6, rfl, ho6, hp6, hb6⟩
          have HP6 := Lib.hid (ho6.pw hp6 (by rw [ho6.len, HMm.out]))
          have HB6 : Hid (Below w.heap.size w w6) := HB5.out.trans (hb6.mono (by omega))
          have HT6 := Lib.hid (HT5.out.below hb6)
          have HQ6 := Lib.hid (HQ5.out.below hb6)
          have HT6x : Hid (Tab 0 1 (fun b => b < wa.heap.size ∧ b ≠ tb) w6 tb v L W) := (HT5.out.toP (fun b => b < wa.heap.size ∧ b ≠ tb) (fun k hk hk2 => ⟨hk2, hk.2.1⟩) (fun k hk => hk.2)).below hb6
          have HQ6x : Hid (Tab 1 0 (fun b => b < wa.heap.size ∧ b ≠ rq) w6 rq vq L W) := (HQ5.out.toP (fun b => b < wa.heap.size ∧ b ≠ rq) (fun k hk hk2 => ⟨hk2, hk.2.2⟩) (fun k hk => hk.2)).below hb6
          have hs6 := hb6.size
          clear ho6 hp6 hb6
          go_wp2_with fail
          go_loopw [96] (fun s96 wr => ∃ a2 : Nat, s96 = .int .i64 a2 ∧ a2 ≤ m ∧ Hid (PW 4 3 wa.heap.size w6.heap.size wr ad6 m xs6) ∧ Hid (But (fun b => wa.heap.size ≤ b ∧ b < w6.heap.size) w6 wr)) (fun s96 _ => m - (intOf s96).toNat)
          case atStart => exact ⟨0, rfl, Nat.zero_le _, HP6.out, But.refl _ _⟩
          case round =>
            obtain ⟨wc, rfl⟩ : ∃ wc : World, wc = wr := ⟨wr, rfl⟩
            obtain ⟨a2, rfl, ham, HPc, HBc⟩ := hrel
            by_cases hcl : a2 < m
            · obtain ⟨x, hi2, hx, hxn, g, off, rfl, hcc⟩ := HPc.out.at a2 hcl
              have HX := Lib.hid hx
              have hcc1 : wc.cell? ⟨g, off + a2 * 4 + 2 + 1, none⟩ = some (.slice x.a x.n x.c) := hcc
              clear hx hcc
              go_wp2_with fail
              go_loopw [106] (fun s106 wr => ∃ j : Nat, s106 = .int .i64 j ∧ j ≤ x.n ∧ Hid (PW 4 3 wa.heap.size w6.heap.size wr (some ⟨g, off, none⟩) m xs6) ∧ Hid (But (fun b => wa.heap.size ≤ b ∧ b < w6.heap.size) w6 wr)) (fun s106 _ => x.n - (intOf s106).toNat)
              case atStart => exact ⟨0, rfl, Nat.zero_le _, HPc.out, HBc.out⟩
              case round =>
                obtain ⟨wb, rfl⟩ : ∃ wb : World, wb = wr := ⟨wr, rfl⟩
                obtain ⟨j, rfl, hjx, HPb, HBb⟩ := hrel
                by_cases hjl : j < x.n
                · obtain ⟨pb, poff, s0, ha, hs, hf, hst⟩ := HPb.out.store hi2 HX.out hjl
                  obtain ⟨g', off', e', _, hcb⟩ := HPb.out.get a2 hi2
                  injection e' with e'
                  injection e' with e1 e2 _
                  subst e1 e2
                  rw [HX.out, ha] at hcb
                  have hcb1 : wb.cell? ⟨g, off + a2 * 4 + 2 + 1, none⟩ = some (.slice (some ⟨pb, poff, none⟩) x.n x.c) := hcb
                  have HSt := Lib.hid hst
                  clear hst hcb ha hcc1
                  go_wp2_with fail
                  go_roundw
                  case rel => exact ⟨j + 1, by first | rfl | go_num, by omega, (HSt.out _).1, HBb.out.trans (HSt.out _).2⟩
                  case measure => simp [intOf]; omega
                · go_wp2_with fail
                  go_roundw
                  case rel => exact ⟨a2 + 1, by first | rfl | go_num, by omega, HPb.out, HBb.out⟩
                  case measure => simp [intOf]; omega
            · have HB7 : Hid (Below w.heap.size w wc) := HB6.out.trans (HBc.out.toBelow (by omega) (fun k hk => by omega))
              have HT7 := Lib.hid (HT6x.out.but HBc.out (fun e => by omega) (fun b hb e => by have := hb.1; omega))
              have HQ7 := Lib.hid (HQ6x.out.but HBc.out (fun e => by omega) (fun b hb e => by have := hb.1; omega))
              have HRu7 := Lib.hid (rules_loose HT7.out HOk.out.few)
              have HSa7 := Lib.hid (same_loose (L := L) (w := wc))
              obtain ⟨adq, cpq, rfl, _, _⟩ := HQ7.out.rd.form
              rw [← HMm.out] at HQ7
              have c7 := HQ7.out.c0
              have hs7 := HB7.out.size
              clear HT6 HQ6 HT6x HQ6x
              go_upto_region 33 with fail
              go_region_held3 (fun w' => w'.cell? ⟨rq, 1, none⟩ = some (.slice adq m cpq)) (first | assumption | go_keep) (first
                | (go_at_call 18; refine (HRu7.out _ (by repeat (first | (with_reducible exact Below.refl _ _) | (with_reducible refine Below.drew ?_)))).mono ?_; rintro _ w8 ⟨ad8, n8, c8, rfl, hr8, hb8⟩; have c8' := ((HQ7.out.below hb8).c0); have HR8 := Lib.hid hr8; have HB8 := Lib.hid hb8; clear hr8 hb8)
                | (go_at_call 17; refine (HSa7.out _ _ _ _ _ HR8.out (HQ7.out.below HB8.out).rd HB8.out).mono ?_; rintro _ w9 ⟨rfl, hb9⟩; have HB9 := Lib.hid hb9; have c9 := ((HQ7.out.below hb9).c0); clear hb9))
              all_goals
                go_wp2_with fail
                go_ret
                exact ⟨rfl, HB7.out.trans (HB9.out.mono HB7.out.size)⟩
end Go.Proofs.Ytlamhpiiikcpiaa
