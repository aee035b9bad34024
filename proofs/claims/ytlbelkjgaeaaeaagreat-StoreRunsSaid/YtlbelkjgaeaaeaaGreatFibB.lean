/-
  Walks: may a change be? The code's may gives up with a number, the reference's May tells it.
-/
import Derived.Test.YtlbelkjgaeaaeaaGreatFibA
namespace Go.Proofs.YtlbelkjgaeaaeaaGreat
open Go.RowKit Go.Shelf Go.Lib Go.Sort
set_option linter.unusedVariables false
set_option linter.unusedSectionVars false
set_option linter.unusedSimpArgs false

namespace Fb
/-- The rule that a change speaks of: of a delete the key alone. -/
def ruleOf (kind : Int) (r : Rl) : Rl := if kind = 2 then { r with k := 1, ps := [] } else r
/-- Why a change may not be; 0: it may. -/
def mayI (L : List Rl) (width kind : Int) (r : Rl) : Int :=
  if kind < 1 ∨ kind > 3 then 61
  else if ¬ Rp.checkR (ruleOf kind r) width = 0 then Rp.checkR (ruleOf kind r) width
  else if kind = 1 then (if 0 ≤ keyI L r.p r.m then 52 else if 4096 ≤ L.length then 3 else 0)
  else if 0 ≤ keyI L r.p r.m then 0 else 60
end Fb

/-- A panic with a number of package api. -/
abbrev errFault (code : Int) : Ending := .panicked [{ v := .iface 24 (.int .i64 code), recovered := false }]
/-- What may comes to. -/
def mayEnd (q : Int) : Ending := if q = 0 then .returned (.tuple #[]) else errFault q

def RC.of (kind : Int) (x : RC) : RC := if kind = 2 then { x with k := 1, a := none, n := 0, c := 0 } else x
theorem RdC.of {ok : Nat → Prop} {w : World} {x : RC} {r : Rl} (h : RdC ok w x r) (kind : Int) : RdC ok w (x.of kind) (Fb.ruleOf kind r) := by
  unfold RC.of Fb.ruleOf
  by_cases hk : kind = 2
  · rw [if_pos hk, if_pos hk]
    exact ⟨h.p, h.m, rfl, ⟨rdsS_nil _, okV_nil _ _ _⟩, ⟨h.z.m, Nat.zero_le _, fun s hs => by cases hs⟩⟩
  · rw [if_neg hk, if_neg hk]; exact h

theorem may_kind {L : List Rl} {width kind : Int} {r : Rl} (h1 : 1 ≤ kind) (h2 : kind ≤ 3) (q : Int) (h : Fb.mayI L width kind r = q) :
    (¬ Rp.checkR (Fb.ruleOf kind r) width = 0 ∧ q = Rp.checkR (Fb.ruleOf kind r) width) ∨
    (Rp.checkR (Fb.ruleOf kind r) width = 0 ∧ q = (if kind = 1 then (if 0 ≤ Fb.keyI L r.p r.m then 52 else if 4096 ≤ L.length then 3 else 0) else if 0 ≤ Fb.keyI L r.p r.m then 0 else 60)) := by
  unfold Fb.mayI at h
  rw [if_neg (by omega)] at h
  by_cases hc : Rp.checkR (Fb.ruleOf kind r) width = 0
  · rw [if_neg (by simpa using hc)] at h; exact .inr ⟨hc, h.symm⟩
  · rw [if_pos hc] at h; exact .inl ⟨hc, h.symm⟩

set_option maxHeartbeats 1600000 in
set_option maxRecDepth 20000 in
theorem may1_any (ok : Nat → Prop) (tb : Nat) (v : Value) (L : List Rl) (width : Int) (x : RC) (r : Rl) (w : World) (hr : RdsR ok w v L) (ht : w.cell? ⟨tb, 0, none⟩ = some v) (hx : RdC ok w x r) (q : Int) (hq : Fb.mayI L width 1 r = q) :
    Calls Tryz.prog 50 #[.pointer (some ⟨tb, 0, none⟩), .agg #[.int .i64 1, .int .i64 x.p, .string x.m, .int .i64 x.k, .slice x.a x.n x.c], .int .i64 width] w fun e w' => e = mayEnd q ∧ Below w.heap.size w w' := by
  have htb : tb < w.heap.size := cell_lt ht
  obtain ⟨W2, hW2⟩ : ∃ W2, W2 = (w.alloc (.cells #[.int .i64 1, .int .i64 x.p, .string x.m, .int .i64 x.k, .slice x.a x.n x.c] 64)).alloc (.cells #[.int .i64 x.p, .string x.m, .int .i64 x.k, .slice x.a x.n x.c] 62) := ⟨_, rfl⟩
  have hg : Grn w W2 := by rw [hW2]; exact ((Grn.refl w).alloc _).alloc _
  have HB := Lib.hid hg.below
  have HX := Lib.hid ((hx.of 1).below hg.below)
  have HR := Lib.hid (hr.below hg.below)
  have HT := Lib.hid ((hg.below.cell (p := ⟨tb, 0, none⟩) htb).trans ht)
  have hsz : w.heap.size + 1 < W2.heap.size := by rw [hW2]; simp
  have hsz0 : w.heap.size < W2.heap.size := by omega
  have HC : Hid (W2.cell? ⟨w.heap.size, 0, none⟩ = some (.int .i64 1) ∧ W2.cell? ⟨w.heap.size + 1, 0, none⟩ = some (.int .i64 x.p) ∧ W2.cell? ⟨w.heap.size + 1, 1, none⟩ = some (.string x.m) ∧ W2.cell? ⟨w.heap.size + 1, 2, none⟩ = some (.int .i64 x.k) ∧ W2.cell? ⟨w.heap.size + 1, 3, none⟩ = some (.slice x.a x.n x.c)) := by
    rw [hW2]; exact ⟨by simp [go_sem], by simp [go_sem], by simp [go_sem], by simp [go_sem], by simp [go_sem]⟩
  have HQ := Lib.hid (may_kind (by omega) (by omega) q hq)
  have HK := Lib.hid (Fb.keyI_is L r.p r.m)
  have HP := Lib.hid hx.p
  have HM := Lib.hid hx.m
  obtain ⟨e, he⟩ : ∃ e, Rp.checkR (Fb.ruleOf 1 r) width = e := ⟨_, rfl⟩
  rw [he] at HQ
  have HCh := Lib.hid (fun W (h : RdC ok W (x.of 1) (Fb.ruleOf 1 r)) => check_any ok (x.of 1) (Fb.ruleOf 1 r) width W h e he)
  unfold RC.v RC.of at HCh
  unfold RC.of at HX
  rw [if_neg (by decide)] at HX
  simp only [show ¬ ((1 : Int) = 2) by decide, if_false, if_true] at HCh
  obtain ⟨b2, hb2⟩ : ∃ b2, b2 = w.heap.size + 1 := ⟨_, rfl⟩
  rw [← hb2] at HC hsz
  have HW2 := Lib.hid hW2
  clear he hq hx hr ht hg hW2
  go_enter Tryz.func50, Tryz.ntmps50
  go_upto_region 8 with fail
  rw [← HW2.out]
  rw [← hb2]
  clear HW2 hb2
  obtain ⟨c0, c1, c2, c3, c4⟩ := HC.out
  go_wp2_with fail
  refine (HCh.out _ HX.out).mono ?_
  rintro ee w3 ⟨rfl, hb3⟩
  have HB3 : Hid (Below w.heap.size w w3) := HB.out.trans (hb3.mono HB.out.size)
  have d0 := (hb3.cell (p := ⟨w.heap.size, 0, none⟩) hsz0).trans c0
  have d1 := (hb3.cell (p := ⟨b2, 0, none⟩) hsz).trans c1
  have d2 := (hb3.cell (p := ⟨b2, 1, none⟩) hsz).trans c2
  have d3 := (hb3.cell (p := ⟨b2, 2, none⟩) hsz).trans c3
  have d4 := (hb3.cell (p := ⟨b2, 3, none⟩) hsz).trans c4
  have HR3 := Lib.hid (HR.out.below hb3)
  have HT3 := (hb3.cell (p := ⟨tb, 0, none⟩) (Nat.lt_of_lt_of_le htb HB.out.size)).trans HT.out
  clear hb3 c0 c1 c2 c3 c4
  by_cases he0 : e = 0
  · subst he0
    have HQ2 : Hid (q = (if 0 ≤ Fb.keyI L r.p r.m then 52 else if 4096 ≤ L.length then 3 else 0)) := by
      rcases HQ.out with ⟨h, _⟩ | ⟨_, h⟩
      · exact absurd rfl h
      · show _ = _
        simpa using h
    clear HQ
    obtain ⟨z, hz⟩ : ∃ z, Fb.keyI L r.p r.m = z := ⟨_, rfl⟩
    rw [hz] at HK HQ2
    have HF := Lib.hid (find_any ok tb v L x w3 HR3.out HT3 z (by skip; rw [HP.out, HM.out]; exact HK.out))
    obtain ⟨ad1, cc, hvf, hvc, _⟩ := HR3.out.form
    obtain ⟨n, hn⟩ : ∃ n, n = L.length := ⟨_, rfl⟩
    rw [← hn] at HQ2 hvf
    rw [hvf] at HT3
    clear hz hn hvc hvf
    go_wp2_with fail
    refine HF.out.mono ?_
    rintro ee w4 ⟨rfl, hg4⟩
    have HB4 : Hid (Below w.heap.size w w4) := HB3.out.trans (hg4.below.mono HB3.out.size)
    have hs3 := HB3.out.size
    have f0 := (hg4.below.cell (p := ⟨w.heap.size, 0, none⟩) (cell_lt d0)).trans d0
    have f1 := (hg4.below.cell (p := ⟨tb, 0, none⟩) (cell_lt HT3)).trans HT3
    clear hg4 d0 d1 d2 d3 d4 HT3 hs3
    by_cases hz0 : 0 ≤ z
    · have HQ3 : Hid (q = 52) := by show _ = _; rw [HQ2.out]; rw [if_pos hz0]
      go_wp2_with fail
      exact ⟨rfl, by rw [HQ3.out]; rfl, HB4.out⟩
    · have hz1 : decide (0 ≤ z) = false := decide_eq_false hz0
      by_cases hn : 4096 ≤ n
      · have hn1 : (4096 : Int) ≤ (n : Int) := by omega
        have HQ3 : Hid (q = 3) := by show _ = _; rw [HQ2.out, if_neg hz0, if_pos hn]
        go_wp2_with fail
        exact ⟨rfl, by rw [HQ3.out]; rfl, HB4.out⟩
      · have hn1 : ¬ (4096 : Int) ≤ (n : Int) := by omega
        have HQ3 : Hid (q = 0) := by show _ = _; rw [HQ2.out, if_neg hz0, if_neg hn]
        go_wp2_with fail
        go_end0
        exact ⟨by rw [HQ3.out]; rfl, HB4.out⟩
  · have HQ2 : Hid (q = e) := by
      rcases HQ.out with ⟨_, h⟩ | ⟨h, _⟩
      · exact h
      · exact absurd h he0
    have HE := Lib.hid he0
    have he1 : (e != 0) = true := by simpa using he0
    clear he0 HQ
    go_wp2_with fail
    exact ⟨rfl, by rw [HQ2.out]; unfold mayEnd; rw [if_neg HE.out], HB3.out⟩

set_option maxHeartbeats 1600000 in
set_option maxRecDepth 20000 in
theorem may2_any (ok : Nat → Prop) (tb : Nat) (v : Value) (L : List Rl) (width : Int) (x : RC) (r : Rl) (w : World) (hr : RdsR ok w v L) (ht : w.cell? ⟨tb, 0, none⟩ = some v) (hx : RdC ok w x r) (q : Int) (hq : Fb.mayI L width 2 r = q) :
    Calls Tryz.prog 50 #[.pointer (some ⟨tb, 0, none⟩), .agg #[.int .i64 2, .int .i64 x.p, .string x.m, .int .i64 x.k, .slice x.a x.n x.c], .int .i64 width] w fun e w' => e = mayEnd q ∧ Below w.heap.size w w' := by
  have htb : tb < w.heap.size := cell_lt ht
  obtain ⟨W2, hW2⟩ : ∃ W2, W2 = (w.alloc (.cells #[.int .i64 2, .int .i64 x.p, .string x.m, .int .i64 x.k, .slice x.a x.n x.c] 64)).alloc (.cells #[.int .i64 x.p, .string x.m, .int .i64 1, .slice none 0 0] 62) := ⟨_, rfl⟩
  have hg : Grn w W2 := by rw [hW2]; exact ((Grn.refl w).alloc _).alloc _
  have HB := Lib.hid hg.below
  have HX := Lib.hid ((hx.of 2).below hg.below)
  have HR := Lib.hid (hr.below hg.below)
  have HT := Lib.hid ((hg.below.cell (p := ⟨tb, 0, none⟩) htb).trans ht)
  have hsz : w.heap.size + 1 < W2.heap.size := by rw [hW2]; simp
  have hsz0 : w.heap.size < W2.heap.size := by omega
  have HC : Hid (W2.cell? ⟨w.heap.size, 0, none⟩ = some (.int .i64 2) ∧ W2.cell? ⟨w.heap.size + 1, 0, none⟩ = some (.int .i64 x.p) ∧ W2.cell? ⟨w.heap.size + 1, 1, none⟩ = some (.string x.m) ∧ W2.cell? ⟨w.heap.size + 1, 2, none⟩ = some (.int .i64 1) ∧ W2.cell? ⟨w.heap.size + 1, 3, none⟩ = some (.slice none 0 0)) := by
    rw [hW2]; exact ⟨by simp [go_sem], by simp [go_sem], by simp [go_sem], by simp [go_sem], by simp [go_sem]⟩
  have HQ := Lib.hid (may_kind (by omega) (by omega) q hq)
  have HK := Lib.hid (Fb.keyI_is L r.p r.m)
  have HP := Lib.hid hx.p
  have HM := Lib.hid hx.m
  obtain ⟨e, he⟩ : ∃ e, Rp.checkR (Fb.ruleOf 2 r) width = e := ⟨_, rfl⟩
  rw [he] at HQ
  have HCh := Lib.hid (fun W (h : RdC ok W (x.of 2) (Fb.ruleOf 2 r)) => check_any ok (x.of 2) (Fb.ruleOf 2 r) width W h e he)
  unfold RC.v RC.of at HCh
  unfold RC.of at HX
  rw [if_pos rfl] at HX
  simp only [if_pos rfl, if_true] at HCh
  obtain ⟨b2, hb2⟩ : ∃ b2, b2 = w.heap.size + 1 := ⟨_, rfl⟩
  rw [← hb2] at HC hsz
  have HW2 := Lib.hid hW2
  clear he hq hx hr ht hg hW2
  go_enter Tryz.func50, Tryz.ntmps50
  go_upto_region 8 with fail
  rw [← HW2.out]
  rw [← hb2]
  clear HW2 hb2
  obtain ⟨c0, c1, c2, c3, c4⟩ := HC.out
  go_wp2_with fail
  refine (HCh.out _ HX.out).mono ?_
  rintro ee w3 ⟨rfl, hb3⟩
  have HB3 : Hid (Below w.heap.size w w3) := HB.out.trans (hb3.mono HB.out.size)
  have d0 := (hb3.cell (p := ⟨w.heap.size, 0, none⟩) hsz0).trans c0
  have d1 := (hb3.cell (p := ⟨b2, 0, none⟩) hsz).trans c1
  have d2 := (hb3.cell (p := ⟨b2, 1, none⟩) hsz).trans c2
  have d3 := (hb3.cell (p := ⟨b2, 2, none⟩) hsz).trans c3
  have d4 := (hb3.cell (p := ⟨b2, 3, none⟩) hsz).trans c4
  have HR3 := Lib.hid (HR.out.below hb3)
  have HT3 := (hb3.cell (p := ⟨tb, 0, none⟩) (Nat.lt_of_lt_of_le htb HB.out.size)).trans HT.out
  clear hb3 c0 c1 c2 c3 c4
  by_cases he0 : e = 0
  · subst he0
    have HQ2 : Hid (q = (if 0 ≤ Fb.keyI L r.p r.m then 0 else 60)) := by
      rcases HQ.out with ⟨h, _⟩ | ⟨_, h⟩
      · exact absurd rfl h
      · show _ = _
        simpa using h
    clear HQ
    obtain ⟨z, hz⟩ : ∃ z, Fb.keyI L r.p r.m = z := ⟨_, rfl⟩
    rw [hz] at HK HQ2
    have HF := Lib.hid (find_any ok tb v L { x with k := 1, a := none, n := 0, c := 0 } w3 HR3.out HT3 z (by show Fb.IsAt L x.p x.m z; rw [HP.out, HM.out]; exact HK.out))
    obtain ⟨ad1, cc, hvf, hvc, _⟩ := HR3.out.form
    obtain ⟨n, hn⟩ : ∃ n, n = L.length := ⟨_, rfl⟩
    rw [← hn] at hvf
    rw [hvf] at HT3
    clear hz hn hvc hvf
    go_wp2_with fail
    refine HF.out.mono ?_
    rintro ee w4 ⟨rfl, hg4⟩
    have HB4 : Hid (Below w.heap.size w w4) := HB3.out.trans (hg4.below.mono HB3.out.size)
    have hs3 := HB3.out.size
    have f0 := (hg4.below.cell (p := ⟨w.heap.size, 0, none⟩) (cell_lt d0)).trans d0
    have f1 := (hg4.below.cell (p := ⟨tb, 0, none⟩) (cell_lt HT3)).trans HT3
    clear hg4 d0 d1 d2 d3 d4 HT3 hs3
    by_cases hz0 : 0 ≤ z
    · have HQ3 : Hid (q = 0) := by show _ = _; rw [HQ2.out]; rw [if_pos hz0]
      go_wp2_with fail
      go_end0
      exact ⟨by rw [HQ3.out]; rfl, HB4.out⟩
    · have hz1 : decide (0 ≤ z) = false := decide_eq_false hz0
      have HQ3 : Hid (q = 60) := by show _ = _; rw [HQ2.out, if_neg hz0]
      go_wp2_with fail
      exact ⟨rfl, by rw [HQ3.out]; rfl, HB4.out⟩
  · have HQ2 : Hid (q = e) := by
      rcases HQ.out with ⟨_, h⟩ | ⟨h, _⟩
      · exact h
      · exact absurd h he0
    have HE := Lib.hid he0
    have he1 : (e != 0) = true := by simpa using he0
    clear he0 HQ
    go_wp2_with fail
    exact ⟨rfl, by rw [HQ2.out]; unfold mayEnd; rw [if_neg HE.out], HB3.out⟩

set_option maxHeartbeats 1600000 in
set_option maxRecDepth 20000 in
theorem may3_any (ok : Nat → Prop) (tb : Nat) (v : Value) (L : List Rl) (width : Int) (x : RC) (r : Rl) (w : World) (hr : RdsR ok w v L) (ht : w.cell? ⟨tb, 0, none⟩ = some v) (hx : RdC ok w x r) (q : Int) (hq : Fb.mayI L width 3 r = q) :
    Calls Tryz.prog 50 #[.pointer (some ⟨tb, 0, none⟩), .agg #[.int .i64 3, .int .i64 x.p, .string x.m, .int .i64 x.k, .slice x.a x.n x.c], .int .i64 width] w fun e w' => e = mayEnd q ∧ Below w.heap.size w w' := by
  have htb : tb < w.heap.size := cell_lt ht
  obtain ⟨W2, hW2⟩ : ∃ W2, W2 = (w.alloc (.cells #[.int .i64 3, .int .i64 x.p, .string x.m, .int .i64 x.k, .slice x.a x.n x.c] 64)).alloc (.cells #[.int .i64 x.p, .string x.m, .int .i64 x.k, .slice x.a x.n x.c] 62) := ⟨_, rfl⟩
  have hg : Grn w W2 := by rw [hW2]; exact ((Grn.refl w).alloc _).alloc _
  have HB := Lib.hid hg.below
  have HX := Lib.hid ((hx.of 3).below hg.below)
  have HR := Lib.hid (hr.below hg.below)
  have HT := Lib.hid ((hg.below.cell (p := ⟨tb, 0, none⟩) htb).trans ht)
  have hsz : w.heap.size + 1 < W2.heap.size := by rw [hW2]; simp
  have hsz0 : w.heap.size < W2.heap.size := by omega
  have HC : Hid (W2.cell? ⟨w.heap.size, 0, none⟩ = some (.int .i64 3) ∧ W2.cell? ⟨w.heap.size + 1, 0, none⟩ = some (.int .i64 x.p) ∧ W2.cell? ⟨w.heap.size + 1, 1, none⟩ = some (.string x.m) ∧ W2.cell? ⟨w.heap.size + 1, 2, none⟩ = some (.int .i64 x.k) ∧ W2.cell? ⟨w.heap.size + 1, 3, none⟩ = some (.slice x.a x.n x.c)) := by
    rw [hW2]; exact ⟨by simp [go_sem], by simp [go_sem], by simp [go_sem], by simp [go_sem], by simp [go_sem]⟩
  have HQ := Lib.hid (may_kind (by omega) (by omega) q hq)
  have HK := Lib.hid (Fb.keyI_is L r.p r.m)
  have HP := Lib.hid hx.p
  have HM := Lib.hid hx.m
  obtain ⟨e, he⟩ : ∃ e, Rp.checkR (Fb.ruleOf 3 r) width = e := ⟨_, rfl⟩
  rw [he] at HQ
  have HCh := Lib.hid (fun W (h : RdC ok W (x.of 3) (Fb.ruleOf 3 r)) => check_any ok (x.of 3) (Fb.ruleOf 3 r) width W h e he)
  unfold RC.v RC.of at HCh
  unfold RC.of at HX
  rw [if_neg (by decide)] at HX
  simp only [show ¬ ((3 : Int) = 2) by decide, if_false, if_true] at HCh
  obtain ⟨b2, hb2⟩ : ∃ b2, b2 = w.heap.size + 1 := ⟨_, rfl⟩
  rw [← hb2] at HC hsz
  have HW2 := Lib.hid hW2
  clear he hq hx hr ht hg hW2
  go_enter Tryz.func50, Tryz.ntmps50
  go_upto_region 8 with fail
  rw [← HW2.out]
  rw [← hb2]
  clear HW2 hb2
  obtain ⟨c0, c1, c2, c3, c4⟩ := HC.out
  go_wp2_with fail
  refine (HCh.out _ HX.out).mono ?_
  rintro ee w3 ⟨rfl, hb3⟩
  have HB3 : Hid (Below w.heap.size w w3) := HB.out.trans (hb3.mono HB.out.size)
  have d0 := (hb3.cell (p := ⟨w.heap.size, 0, none⟩) hsz0).trans c0
  have d1 := (hb3.cell (p := ⟨b2, 0, none⟩) hsz).trans c1
  have d2 := (hb3.cell (p := ⟨b2, 1, none⟩) hsz).trans c2
  have d3 := (hb3.cell (p := ⟨b2, 2, none⟩) hsz).trans c3
  have d4 := (hb3.cell (p := ⟨b2, 3, none⟩) hsz).trans c4
  have HR3 := Lib.hid (HR.out.below hb3)
  have HT3 := (hb3.cell (p := ⟨tb, 0, none⟩) (Nat.lt_of_lt_of_le htb HB.out.size)).trans HT.out
  clear hb3 c0 c1 c2 c3 c4
  by_cases he0 : e = 0
  · subst he0
    have HQ2 : Hid (q = (if 0 ≤ Fb.keyI L r.p r.m then 0 else 60)) := by
      rcases HQ.out with ⟨h, _⟩ | ⟨_, h⟩
      · exact absurd rfl h
      · show _ = _
        simpa using h
    clear HQ
    obtain ⟨z, hz⟩ : ∃ z, Fb.keyI L r.p r.m = z := ⟨_, rfl⟩
    rw [hz] at HK HQ2
    have HF := Lib.hid (find_any ok tb v L x w3 HR3.out HT3 z (by skip; rw [HP.out, HM.out]; exact HK.out))
    obtain ⟨ad1, cc, hvf, hvc, _⟩ := HR3.out.form
    obtain ⟨n, hn⟩ : ∃ n, n = L.length := ⟨_, rfl⟩
    rw [← hn] at hvf
    rw [hvf] at HT3
    clear hz hn hvc hvf
    go_wp2_with fail
    refine HF.out.mono ?_
    rintro ee w4 ⟨rfl, hg4⟩
    have HB4 : Hid (Below w.heap.size w w4) := HB3.out.trans (hg4.below.mono HB3.out.size)
    have hs3 := HB3.out.size
    have f0 := (hg4.below.cell (p := ⟨w.heap.size, 0, none⟩) (cell_lt d0)).trans d0
    have f1 := (hg4.below.cell (p := ⟨tb, 0, none⟩) (cell_lt HT3)).trans HT3
    clear hg4 d0 d1 d2 d3 d4 HT3 hs3
    by_cases hz0 : 0 ≤ z
    · have HQ3 : Hid (q = 0) := by show _ = _; rw [HQ2.out]; rw [if_pos hz0]
      go_wp2_with fail
      go_end0
      exact ⟨by rw [HQ3.out]; rfl, HB4.out⟩
    · have hz1 : decide (0 ≤ z) = false := decide_eq_false hz0
      have HQ3 : Hid (q = 60) := by show _ = _; rw [HQ2.out, if_neg hz0]
      go_wp2_with fail
      exact ⟨rfl, by rw [HQ3.out]; rfl, HB4.out⟩
  · have HQ2 : Hid (q = e) := by
      rcases HQ.out with ⟨_, h⟩ | ⟨h, _⟩
      · exact h
      · exact absurd h he0
    have HE := Lib.hid he0
    have he1 : (e != 0) = true := by simpa using he0
    clear he0 HQ
    go_wp2_with fail
    exact ⟨rfl, by rw [HQ2.out]; unfold mayEnd; rw [if_neg HE.out], HB3.out⟩

set_option maxHeartbeats 1600000 in
set_option maxRecDepth 20000 in
theorem mayO_any (kind : Int) (h : kind < 1 ∨ kind > 3) (tb : Addr) (width : Int) (x : RC) (w : World) :
    Calls Tryz.prog 50 #[.pointer (some tb), .agg #[.int .i64 kind, .int .i64 x.p, .string x.m, .int .i64 x.k, .slice x.a x.n x.c], .int .i64 width] w fun e w' => e = mayEnd 61 ∧ Below w.heap.size w w' := by
  have HB : Hid (Below w.heap.size w ((w.alloc (.cells #[.int .i64 kind, .int .i64 x.p, .string x.m, .int .i64 x.k, .slice x.a x.n x.c] 64)).alloc (.cells #[.int .i64 x.p, .string x.m, .int .i64 x.k, .slice x.a x.n x.c] 62))) := (((Grn.refl w).alloc _).alloc _).below
  have h1 : (kind == 1) = false := beq_eq_false_iff_ne.2 (by omega)
  have h2 : (kind == 2) = false := beq_eq_false_iff_ne.2 (by omega)
  have h3 : (kind == 3) = false := beq_eq_false_iff_ne.2 (by omega)
  clear h
  go_enter Tryz.func50, Tryz.ntmps50
  go_wp2_with fail
  exact ⟨rfl, rfl, HB.out⟩

/-- What may comes to, at every change. -/
theorem may_any (ok : Nat → Prop) (tb : Nat) (v : Value) (L : List Rl) (width kind : Int) (x : RC) (r : Rl) (w : World) (hr : RdsR ok w v L) (ht : w.cell? ⟨tb, 0, none⟩ = some v) (hx : RdC ok w x r) (q : Int) (hq : Fb.mayI L width kind r = q) :
    Calls Tryz.prog 50 #[.pointer (some ⟨tb, 0, none⟩), .agg #[.int .i64 kind, .int .i64 x.p, .string x.m, .int .i64 x.k, .slice x.a x.n x.c], .int .i64 width] w fun e w' => e = mayEnd q ∧ Below w.heap.size w w' := by
  by_cases h : kind < 1 ∨ kind > 3
  · have : q = 61 := by rw [← hq]; unfold Fb.mayI; rw [if_pos h]
    subst this
    exact mayO_any kind h _ width x w
  · have : kind = 1 ∨ kind = 2 ∨ kind = 3 := by omega
    rcases this with rfl | rfl | rfl
    · exact may1_any ok tb v L width x r w hr ht hx q hq
    · exact may2_any ok tb v L width x r w hr ht hx q hq
    · exact may3_any ok tb v L width x r w hr ht hx q hq
end Go.Proofs.YtlbelkjgaeaaeaaGreat
