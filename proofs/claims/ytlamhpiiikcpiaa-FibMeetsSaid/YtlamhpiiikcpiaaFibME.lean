/-
  Walks: SameRule of a rule with itself; FibMeets.
-/
import Derived.Test.YtlamhpiiikcpiaaFibMD
import Derived.SizedLaws
import Derived.SliceStrings
import Derived.ProofKit
import Derived.Test.YtlamhpiiikcpiaaRds
namespace Go.Proofs.Ytlamhpiiikcpiaa
open Go.RowKit Go.Shelf Go.Lib Go.Sort
set_option linter.unusedVariables false
set_option linter.unusedSectionVars false
set_option linter.unusedSimpArgs false

set_option maxHeartbeats 1600000 in
set_option maxRecDepth 20000 in
theorem sameRule_same (ok ok2 : Nat → Prop) (x y : RC) (r : Rl) (w : World) (hx : RdC ok w x r) (hy : RdC ok2 w y r) :
    Calls Try.prog 14 #[.agg #[.int .i64 x.p, .string x.m, .int .i64 x.k, .slice x.a x.n x.c], .agg #[.int .i64 y.p, .string y.m, .int .i64 y.k, .slice y.a y.n y.c]] w fun e w' => e = .returned (.bool true) ∧ Below w.heap.size w w' := by
  obtain ⟨W2, hW2⟩ : ∃ W2, W2 = (w.alloc (.cells #[.int .i64 x.p, .string x.m, .int .i64 x.k, .slice x.a x.n x.c] 33)).alloc (.cells #[.int .i64 y.p, .string y.m, .int .i64 y.k, .slice y.a y.n y.c] 33) := ⟨_, rfl⟩
  have hg : Grn w W2 := by rw [hW2]; exact ((Grn.refl w).alloc _).alloc _
  have h0 : W2.heap[w.heap.size]? = some (.cells #[.int .i64 x.p, .string x.m, .int .i64 x.k, .slice x.a x.n x.c] 33 (0, 0)) := by
    rw [hW2]; simp only [al_heap, Array.getElem?_push, Array.size_push]; simp <;> omega
  have h1 : W2.heap[w.heap.size + 1]? = some (.cells #[.int .i64 y.p, .string y.m, .int .i64 y.k, .slice y.a y.n y.c] 33 (0, 0)) := by
    rw [hW2]; simp only [al_heap, Array.getElem?_push, Array.size_push]; simp
  have a0 : W2.cell? ⟨w.heap.size, 0, none⟩ = some (.int .i64 r.p) := by simp [World.cell?, h0, hx.p]
  have a1 : W2.cell? ⟨w.heap.size, 1, none⟩ = some (.string r.m) := by simp [World.cell?, h0, hx.m]
  have a2 : W2.cell? ⟨w.heap.size, 2, none⟩ = some (.int .i64 r.k) := by simp [World.cell?, h0, hx.k]
  have a3 : W2.cell? ⟨w.heap.size, 3, none⟩ = some (.slice x.a x.n x.c) := by simp [World.cell?, h0]
  have b0 : W2.cell? ⟨w.heap.size + 1, 0, none⟩ = some (.int .i64 r.p) := by simp [World.cell?, h1, hy.p]
  have b1 : W2.cell? ⟨w.heap.size + 1, 1, none⟩ = some (.string r.m) := by simp [World.cell?, h1, hy.m]
  have b2 : W2.cell? ⟨w.heap.size + 1, 2, none⟩ = some (.int .i64 r.k) := by simp [World.cell?, h1, hy.k]
  have b3 : W2.cell? ⟨w.heap.size + 1, 3, none⟩ = some (.slice y.a y.n y.c) := by simp [World.cell?, h1]
  have HSm := Lib.hid (same_same r.k x.a y.a x.n y.n x.c y.c r.ps W2 (hx.s.1.below hg.below) (hy.s.1.below hg.below))
  have HG := Lib.hid hg.below
  have HW2 := Lib.hid hW2
  have e1 : (r.m.toList == r.m.toList) = true := by simp
  have e2 : (r.p == r.p) = true := by simp
  clear hx hy hg h0 h1 hW2
  go_enter Try.func14, Try.ntmps14
  go_upto_region 1 with fail
  rw [← HW2.out]
  clear HW2
  go_wp2_with fail
  refine HSm.out.mono ?_
  rintro e w3 ⟨rfl, hg3⟩
  have HB3 := Lib.hid (HG.out.trans (hg3.below.mono HG.out.size))
  clear hg3 a0 a1 a2 a3 b0 b1 b2 b3
  go_wp2_with fail
  go_ret
  exact ⟨rfl, HB3.out⟩

set_option maxHeartbeats 3200000 in
set_option maxRecDepth 20000 in
theorem FibMeets_walk (W : Int) (v1 : Value) (l : List (Int × Rl)) (v2 : Value) (hs : List ByteArray) (w : World) (h1 : RdsC (fun _ => True) w v1 l) (z1 : l.length * 64 ≤ 140737488351232) (h2 : RdsS w v2 hs) (zs : ∀ s ∈ hs, s.size ≤ maxLen) (z2 : hs.length * 16 ≤ 140737488351232) :
    Calls Try.prog 3 #[.int .i64 W, v1, v2] w fun e w' => e = .returned (.bool true) ∧ Below w.heap.size w w' := by
  have HAw : Hid (∀ Wx, Calls Try.prog 9 #[] Wx fun e w' => e = .returned (.bool true) ∧ Below Wx.heap.size Wx w') := fun Wx => awake_any Wx
  by_cases hW : W < 1 ∨ W > 128
  · have HM := Lib.hid (made_bad W v1 w hW)
    clear h1 h2 hW
    go_enter Try.func3, Try.ntmps3
    go_wp2_with fail
    refine HM.out.mono ?_
    rintro e w1 ⟨rfl, rfl⟩
    go_wp2_with fail
    refine (HAw.out _).mono ?_
    rintro e w2 ⟨rfl, hb⟩
    have HB := Lib.hid hb
    clear hb
    go_wp2_with fail
    go_ret
    exact ⟨rfl, HB.out⟩
  have HM := Lib.hid (made_ok W v1 l w (by omega) (by omega) h1 z1)
  obtain ⟨L, hL⟩ : ∃ L, L = Fb.mkL W (l.take 100) := ⟨_, rfl⟩
  have HL := Lib.hid hL
  obtain ⟨adh, lenh, caph, rfl, hlh, hmh, helh⟩ := rdsS_form h2
  have HEl := Lib.hid helh
  have HLh := Lib.hid hlh
  have HZs := Lib.hid zs
  unfold maxLen at hmh
  clear h1 h2 hW hL helh hlh zs
  go_enter Try.func3, Try.ntmps3
  go_wp2_with fail
  refine HM.out.mono ?_
  rintro e w1 ⟨hb1, tb, rb, v, vr, ht, hr, hne, rfl, hT, hR⟩
  rw [← HL.out] at hT hR
  have HB1 := Lib.hid hb1
  have HT1 := Lib.hid hT
  have HR1 := Lib.hid hR
  clear hb1 hT hR
  go_wp2_with fail
  refine (HAw.out _).mono ?_
  rintro e w2 ⟨rfl, hb2⟩
  have HB2 := Lib.hid (HB1.out.trans (hb2.mono HB1.out.size))
  have HT2 := Lib.hid (HT1.out.below hb2)
  have HR2 := Lib.hid (HR1.out.below hb2)
  clear hb2
  go_wp2_with fail
  go_loopw [10] (fun s10 wr => ∃ i : Nat, s10 = .int .i64 i ∧ i ≤ lenh ∧ Hid (Below w2.heap.size w2 wr)) (fun s10 _ => lenh - (intOf s10).toNat)
  case atStart => exact ⟨0, rfl, Nat.zero_le _, Below.refl _ _⟩
  case round =>
    obtain ⟨wo, rfl⟩ : ∃ wo : World, wo = wr := ⟨wr, rfl⟩
    obtain ⟨i, rfl, hin, HB⟩ := hrel
    by_cases hlt : i < lenh
    · have hih : i < hs.length := by have := HLh.out; omega
      obtain ⟨b, off, rfl, hb, x0⟩ := HEl.out i hih
      obtain ⟨s, hss⟩ : ∃ s, hs[i] = s := ⟨_, rfl⟩
      rw [hss] at x0
      have hsz : s.size ≤ maxLen := by rw [← hss]; exact HZs.out _ (List.getElem_mem hih)
      have X0 : ∀ Wx, Below wo.heap.size wo Wx → Wx.cell? ⟨b, off + i, none⟩ = some (.string s) := fun Wx hWx => ((HB2.out.trans ((HB.out.trans (hWx.mono HB.out.size)).mono HB2.out.size)).cell (p := ⟨b, off + i, none⟩) hb).trans x0
      have HX := Lib.hid X0
      have x1 := X0 wo (Below.refl _ _)
      obtain ⟨S, hS⟩ : ∃ S, S = Fb.meetS L W s := ⟨_, rfl⟩
      have hm := meets_any (HT2.out.below HB.out) s hsz
      rw [← hS] at hm
      have HMe := Lib.hid hm
      have HS := Lib.hid hS
      have HSz := Lib.hid hsz
      clear x0 X0 hm hS hss hsz
      go_wp2_with fail
      refine HMe.out.mono ?_
      rintro e w4 ⟨hb4, x, hx, rfl⟩
      obtain ⟨W4, hW4⟩ : ∃ W4, W4 = w4.alloc (.cells #[.int .i64 x.p, .string x.m, .int .i64 x.k, .slice x.a x.n x.c] 33) := ⟨_, rfl⟩
      have hb4a : Below w4.heap.size w4 W4 := by rw [hW4]; exact (Below.refl _ _).alloc (Nat.le_refl _) _
      have hB4 : Below wo.heap.size wo W4 := hb4.trans (hb4a.mono hb4.size)
      have HK4 : Hid (W4.heap[w4.heap.size]? = some (.cells #[.int .i64 x.p, .string x.m, .int .i64 x.k, .slice x.a x.n x.c] 33 (0, 0))) := by rw [hW4]; exact heap_alloc_new _ _
      have HL4 : Hid (w4.heap.size < W4.heap.size) := by show _ < _; rw [hW4]; simp
      have HX4 := Lib.hid ((Rl.okTrue hx).below hb4a)
      have HB4 := Lib.hid hB4
      have hm := rmeets_any ((HR2.out.below HB.out).below hB4) s HSz.out
      rw [← HS.out] at hm
      have HMe2 := Lib.hid hm
      have x4 := HX.out W4 hB4
      have HW4 := Lib.hid hW4
      clear hb4 hx hb4a hB4 hm hW4 x1
      go_upto_region 10 with fail
      rw [← HW4.out]
      clear HW4
      go_wp2_with fail
      refine HMe2.out.mono ?_
      rintro e w5 ⟨hb5, y, hy, rfl⟩
      obtain ⟨W5, hW5⟩ : ∃ W5, W5 = w5.alloc (.cells #[.int .i64 y.p, .string y.m, .int .i64 y.k, .slice y.a y.n y.c] 33) := ⟨_, rfl⟩
      have hb5a : Below w5.heap.size w5 W5 := by rw [hW5]; exact (Below.refl _ _).alloc (Nat.le_refl _) _
      have h45 : Below W4.heap.size W4 W5 := hb5.trans (hb5a.mono hb5.size)
      have hB5 : Below wo.heap.size wo W5 := HB4.out.trans (h45.mono HB4.out.size)
      have HK5 : Hid (W5.heap[w5.heap.size]? = some (.cells #[.int .i64 y.p, .string y.m, .int .i64 y.k, .slice y.a y.n y.c] 33 (0, 0))) := by rw [hW5]; exact heap_alloc_new _ _
      have HL5 : Hid (w5.heap.size < W5.heap.size) := by show _ < _; rw [hW5]; simp
      have HY5 := Lib.hid ((Rl.okTrue hy).below hb5a)
      have H45 := Lib.hid h45
      have HB5 := Lib.hid hB5
      obtain ⟨SL, hSL⟩ : ∃ SL, SL = Fb.lookS L W s := ⟨_, rfl⟩
      have HSL := Lib.hid hSL
      have hm := lookup_any ((HT2.out.below HB.out).below hB5) s HSz.out
      rw [← hSL] at hm
      have HLk := Lib.hid hm
      have x5 := HX.out W5 hB5
      have HW5 := Lib.hid hW5
      clear hb5 hy hb5a h45 hB5 hm hW5 x4 hSL
      go_upto_region 11 with fail
      rw [← HW5.out]
      clear HW5
      go_wp2_with fail
      refine HLk.out.mono ?_
      rintro e w6 ⟨hb6, a6, n6, c6, hr6, rfl⟩
      obtain ⟨W6, hW6⟩ : ∃ W6, W6 = w6.alloc (.cells #[.int .i64 SL.1, .slice a6 n6 c6] 31) := ⟨_, rfl⟩
      have hb6a : Below w6.heap.size w6 W6 := by rw [hW6]; exact (Below.refl _ _).alloc (Nat.le_refl _) _
      have h56 : Below W5.heap.size W5 W6 := hb6.trans (hb6a.mono hb6.size)
      have hB6 : Below wo.heap.size wo W6 := HB5.out.trans (h56.mono HB5.out.size)
      have HK6 : Hid (W6.heap[w6.heap.size]? = some (.cells #[.int .i64 SL.1, .slice a6 n6 c6] 31 (0, 0))) := by rw [hW6]; exact heap_alloc_new _ _
      have HL6 : Hid (w6.heap.size < W6.heap.size) := by show _ < _; rw [hW6]; simp
      have HR6 := Lib.hid (hr6.1.below hb6a)
      have H56 := Lib.hid h56
      have HB6 := Lib.hid hB6
      have hm := rlookup_any ((HR2.out.below HB.out).below hB6) s HSz.out
      rw [← HSL.out] at hm
      have HLk2 := Lib.hid hm
      have x6 := HX.out W6 hB6
      have HW6 := Lib.hid hW6
      clear hb6 hr6 hb6a h56 hB6 hm hW6 x5
      go_upto_region 12 with fail
      rw [← HW6.out]
      clear HW6
      go_wp2_with fail
      refine HLk2.out.mono ?_
      rintro e w7 ⟨hb7, a7, n7, c7, hr7, rfl⟩
      obtain ⟨W7, hW7⟩ : ∃ W7, W7 = w7.alloc (.cells #[.int .i64 SL.1, .slice a7 n7 c7] 31) := ⟨_, rfl⟩
      have hb7a : Below w7.heap.size w7 W7 := by rw [hW7]; exact (Below.refl _ _).alloc (Nat.le_refl _) _
      have h67 : Below W6.heap.size W6 W7 := hb7.trans (hb7a.mono hb7.size)
      have hB7 : Below wo.heap.size wo W7 := HB6.out.trans (h67.mono HB6.out.size)
      have k7 : W7.heap[w7.heap.size]? = some (.cells #[.int .i64 SL.1, .slice a7 n7 c7] 31 (0, 0)) := by rw [hW7]; exact heap_alloc_new _ _
      have k6 := (h67.block _ HL6.out).trans HK6.out
      have h57 : Below W5.heap.size W5 W7 := H56.out.trans (h67.mono H56.out.size)
      have k5 := (h57.block _ HL5.out).trans HK5.out
      have h47 : Below W4.heap.size W4 W7 := H45.out.trans (h57.mono H45.out.size)
      have k4 := (h47.block _ HL4.out).trans HK4.out
      have p0 : W7.cell? ⟨w4.heap.size, 0, none⟩ = some (.int .i64 x.p) := by simp [World.cell?, k4]
      have p1 : W7.cell? ⟨w4.heap.size, 1, none⟩ = some (.string x.m) := by simp [World.cell?, k4]
      have p2 : W7.cell? ⟨w4.heap.size, 2, none⟩ = some (.int .i64 x.k) := by simp [World.cell?, k4]
      have p3 : W7.cell? ⟨w4.heap.size, 3, none⟩ = some (.slice x.a x.n x.c) := by simp [World.cell?, k4]
      have q0 : W7.cell? ⟨w5.heap.size, 0, none⟩ = some (.int .i64 y.p) := by simp [World.cell?, k5]
      have q1 : W7.cell? ⟨w5.heap.size, 1, none⟩ = some (.string y.m) := by simp [World.cell?, k5]
      have q2 : W7.cell? ⟨w5.heap.size, 2, none⟩ = some (.int .i64 y.k) := by simp [World.cell?, k5]
      have q3 : W7.cell? ⟨w5.heap.size, 3, none⟩ = some (.slice y.a y.n y.c) := by simp [World.cell?, k5]
      have HSr := Lib.hid (sameRule_same (fun _ => True) (fun _ => True) x y S.1 W7 (HX4.out.below h47) (HY5.out.below h57))
      have HKK : Hid (∀ Wx, Below W7.heap.size W7 Wx → Wx.cell? ⟨w6.heap.size, 0, none⟩ = some (.int .i64 SL.1) ∧ Wx.cell? ⟨w6.heap.size, 1, none⟩ = some (.slice a6 n6 c6) ∧ Wx.cell? ⟨w7.heap.size, 0, none⟩ = some (.int .i64 SL.1) ∧ Wx.cell? ⟨w7.heap.size, 1, none⟩ = some (.slice a7 n7 c7)) := fun Wx hWx => by
        have l6 : w6.heap.size < W7.heap.size := Nat.lt_of_lt_of_le HL6.out h67.size
        have l7 : w7.heap.size < W7.heap.size := by rw [hW7]; simp
        refine ⟨(hWx.cell (p := ⟨w6.heap.size, 0, none⟩) l6).trans ?_, (hWx.cell (p := ⟨w6.heap.size, 1, none⟩) l6).trans ?_, (hWx.cell (p := ⟨w7.heap.size, 0, none⟩) l7).trans ?_, (hWx.cell (p := ⟨w7.heap.size, 1, none⟩) l7).trans ?_⟩
        · simp [World.cell?, k6]
        · simp [World.cell?, k6]
        · simp [World.cell?, k7]
        · simp [World.cell?, k7]
      have HSa : Hid (∀ Wx, Below W7.heap.size W7 Wx → Calls Try.prog 15 #[.agg #[.int .i64 SL.1, .slice a6 n6 c6], .agg #[.int .i64 SL.1, .slice a7 n7 c7]] Wx fun e w' => e = .returned (.bool true) ∧ Grn Wx w') := fun Wx hWx => same_same SL.1 a6 a7 n6 n7 c6 c7 SL.2.1 Wx ((HR6.out.below h67).below hWx) ((hr7.1.below hb7a).below hWx)
      have HB7 := Lib.hid hB7
      have HW7 := Lib.hid hW7
      have f1 : (S.2.1 != S.2.1) = false := by simp
      have f2 : (S.2.2 != S.2.2) = false := by simp
      have f3 : (SL.2.2 != SL.2.2) = false := by simp
      clear hb7 hr7 hb7a h67 hB7 hW7 x6 k7 k6 k5 k4 h57 h47
      go_upto_region 13 with fail
      rw [← HW7.out]
      clear HW7
      go_wp2_with fail
      refine HSr.out.mono ?_
      rintro e w8 ⟨rfl, hb8⟩
      obtain ⟨r0, r1, r2, r3⟩ := HKK.out w8 hb8
      have HB8 := Lib.hid hb8
      clear hb8 p0 p1 p2 p3 q0 q1 q2 q3
      go_wp2_with fail
      refine (HSa.out _ HB8.out).mono ?_
      rintro e w9 ⟨rfl, hg9⟩
      have HG9 := Lib.hid hg9.below
      clear hg9 r0 r1 r2 r3
      go_wp2_with fail
      go_roundw
      case rel => exact ⟨i + 1, by first | rfl | go_num, by omega, HB.out.trans ((HB7.out.trans ((HB8.out.trans (HG9.out.mono HB8.out.size)).mono HB7.out.size)).mono HB.out.size)⟩
      case measure => simp [intOf]; omega
    · go_wp2_with fail
      go_ret
      exact ⟨rfl, HB2.out.trans (HB.out.mono HB2.out.size)⟩
end Go.Proofs.Ytlamhpiiikcpiaa
/-
  A slice of strings that came in reads as strings, and is no longer than its weight allows.
-/
namespace Go.Proofs.Ytlamhpiiikcpiaa
open Go.ChangeShapes Go.WideShapes Go.RowKit

theorem addr_add (b off i : Nat) : (⟨b, off, none⟩ : Addr).add i = ⟨b, off + i, none⟩ := by unfold Addr.add; split <;> simp_all

theorem strs_of {H : Type} {enc : TypeId × Value → H} {P : Program} {W : World} {base : Nat} {spare : Nat → Bool} {held : Bool} {t e : TypeId} {a : Option Addr} {len cap : Nat} {d : DataW H} {ps : List MemPlace} {ts : List TypeId} {ds : List (DataW H)} {j : Nat}
    (hsz : (DataW.weightsEach P ts ds).all (· ≤ reachBytes) = true) (ht : ts[j]? = some t) (hd : ds[j]? = some d) (hu : P.underlying t = some (.slice e)) (he : P.underlying e = some .string) (hc : P.cellsOf e = 1) (hB : P.bytesOf e = 16)
    (h : DataW.Trod enc P W base spare held t (.slice a len cap) d ps) : ∃ ss : List ByteArray, RdsS W (.slice a len cap) ss ∧ (∀ s ∈ ss, s.size ≤ maxLen) ∧ ss.length * 16 ≤ 140737488351232 := by
  obtain ⟨fuel, hf⟩ := h
  rcases open_strings hu he hc hf with ⟨hcs, _⟩ | ⟨x, l, c, ss, hcs, _, hl, hm, hz, hx, hcell, hws⟩
  · simp [Value.cells] at hcs
    obtain ⟨rfl, rfl, rfl⟩ := hcs
    exact ⟨[], rdsS_nil W, by simp, by simp⟩
  · simp [Value.cells] at hcs
    obtain ⟨rfl, rfl, rfl⟩ := hcs
    obtain ⟨hx, _⟩ := Prod.mk.inj hx
    subst hx
    have z := sized_slice hsz ht hd hu
    rw [hB] at z
    have hl2 : len ≤ ss.length := by
      rw [hz]
      split
      · exact hl
      · exact Nat.le_refl _
    have h1 : (strs (H := H) (ss.take len)).length + (strs (H := H) (ss.drop len)).length = ss.length := by
      simp [strs]
      omega
    rw [h1] at z
    have hr : reachBytes = 140737488351232 := by decide
    rw [hr] at z
    have htl : (ss.take len).length = len := by simp; omega
    refine ⟨ss.take len, ?_, fun s hs => hws s (List.mem_of_mem_take hs), by rw [htl]; omega⟩
    rcases Nat.eq_zero_or_pos len with h0 | h0
    · subst h0
      simp only [List.take_zero]
      exact rdsS_empty W x cap
    · have hc0 := hcell 0 (by omega)
      have hx0 : x.add 0 = x := by unfold Addr.add; rw [if_pos rfl]
      rw [hx0] at hc0
      have hsp : x.spot = none := by
        cases hs : x.spot with
        | none => rfl
        | some n =>
          unfold World.cell? at hc0
          split at hc0
          · rw [hs] at hc0; simp at hc0
          · cases hc0
      obtain ⟨b, off, sp⟩ := x
      simp only at hsp
      subst hsp
      have hlt := World.block_lt_of_cell? W _ hc0
      have := rdsS_mk (w := W) (ss := ss.take len) (b := b) (off := off) (cap := cap) (by omega) hm hlt (fun i hi => by
        have hi' : i < len := by omega
        have := hcell i (by omega)
        rw [addr_add] at this
        rw [this, List.getD_eq_getElem?_getD, List.getElem?_eq_getElem (show i < ss.length by omega)]
        simp)
      rw [htl] at this
      exact this
end Go.Proofs.Ytlamhpiiikcpiaa
