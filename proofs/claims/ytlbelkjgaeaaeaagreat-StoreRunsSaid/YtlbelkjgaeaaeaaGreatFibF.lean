/-
  Walks: do: a change that may be, done on a table's rows.
-/
import Derived.Test.YtlbelkjgaeaaeaaGreatFibE
namespace Go.Proofs.YtlbelkjgaeaaeaaGreat
open Go.RowKit Go.Shelf Go.Lib Go.Sort
set_option linter.unusedVariables false
set_option linter.unusedSectionVars false

namespace Fb
/-- The rules behind a change that may be. -/
def aft (L : List Rl) (kind : Int) (r : Rl) : List Rl :=
  if kind = 1 then St.isort Rp.aheadR (L ++ [r])
  else if kind = 2 then L.take (keyI L r.p r.m).toNat ++ L.drop ((keyI L r.p r.m).toNat + 1)
  else L.set (keyI L r.p r.m).toNat r
end Fb

theorem one_rdsR {ok : Nat → Prop} {W : World} {g : Nat} {x : RC} {r : Rl} {e : TypeId} (h : W.heap[g]? = some (.cells #[.int .i64 x.p, .string x.m, .int .i64 x.k, .slice x.a x.n x.c] e (0, 0))) (hx : RdC ok W x r) (hg : ok g) : RdsR ok W (.slice (some ⟨g, 0, none⟩) 1 1) [r] := by
  have hlt : g < W.heap.size := by
    rcases Nat.lt_or_ge g W.heap.size with h' | h'
    · exact h'
    · rw [Array.getElem?_eq_none h'] at h; cases h
  refine ⟨[x], some ⟨g, 0, none⟩, 1, 1, rfl, rfl, rfl, ⟨Nat.le_refl _, fun e => by cases e⟩, by unfold maxLen; omega, okV_some hg, ?_, ?_⟩
  · intro i hi
    obtain rfl : i = 0 := by simpa using hi
    exact ⟨g, 0, rfl, hlt, by simp [World.cell?, h], by simp [World.cell?, h], by simp [World.cell?, h], by simp [World.cell?, h]⟩
  · intro i h1 h2
    obtain rfl : i = 0 := by simpa using h1
    exact hx

/-- copied of a row of one rule. -/
theorem copied_one (x : RC) (r : Rl) (ok : Nat → Prop) (w W2 : World) (kind : Int) (hx : RdC ok w x r) (hW2 : W2 = ((w.alloc (.cells #[.int .i64 kind, .int .i64 x.p, .string x.m, .int .i64 x.k, .slice x.a x.n x.c] 64)).alloc (.cells #[.int .i64 0, .int .i64 0, .string ⟨#[]⟩, .int .i64 0, .slice none 0 0] 64)).alloc (.cells #[.int .i64 x.p, .string x.m, .int .i64 x.k, .slice x.a x.n x.c] 62)) :
    Calls Tryz.prog 40 #[.slice (some ⟨w.heap.size + 1 + 1, 0, none⟩) 1 1] W2 fun e w' => ∃ b off y c, e = .returned (.slice (some ⟨b, off, none⟩) 1 c) ∧ b < w'.heap.size ∧ w'.cell? ⟨b, off, none⟩ = some (.int .i64 y.p) ∧ w'.cell? ⟨b, off + 1, none⟩ = some (.string y.m) ∧ w'.cell? ⟨b, off + 2, none⟩ = some (.int .i64 y.k) ∧ w'.cell? ⟨b, off + 3, none⟩ = some (.slice y.a y.n y.c) ∧
      RdC (fun b => w.heap.size + 3 ≤ b) w' y r ∧ Below w.heap.size w w' ∧ w'.heap[w.heap.size]? = some (.cells #[.int .i64 kind, .int .i64 x.p, .string x.m, .int .i64 x.k, .slice x.a x.n x.c] 64 (0, 0)) ∧ w'.heap[w.heap.size + 1]? = some (.cells #[.int .i64 0, .int .i64 0, .string ⟨#[]⟩, .int .i64 0, .slice none 0 0] 64 (0, 0)) ∧ w.heap.size + 3 ≤ w'.heap.size := by
  have hg : Grn w W2 := by rw [hW2]; exact (((Grn.refl w).alloc _).alloc _).alloc _
  have hsz : W2.heap.size = w.heap.size + 3 := by rw [hW2]; simp
  have h0 : W2.heap[w.heap.size]? = some (.cells #[.int .i64 kind, .int .i64 x.p, .string x.m, .int .i64 x.k, .slice x.a x.n x.c] 64 (0, 0)) := by
    rw [hW2]; simp only [al_heap, Array.getElem?_push, Array.size_push]; simp <;> omega
  have h1 : W2.heap[w.heap.size + 1]? = some (.cells #[.int .i64 0, .int .i64 0, .string ⟨#[]⟩, .int .i64 0, .slice none 0 0] 64 (0, 0)) := by
    rw [hW2]; simp only [al_heap, Array.getElem?_push, Array.size_push]; simp <;> omega
  have h2 : W2.heap[w.heap.size + 1 + 1]? = some (.cells #[.int .i64 x.p, .string x.m, .int .i64 x.k, .slice x.a x.n x.c] 62 (0, 0)) := by
    rw [hW2]; simp only [al_heap, Array.getElem?_push, Array.size_push]; simp
  refine (copied_any (fun _ => True) _ [r] W2 (one_rdsR h2 ((hx.below hg.below).mono fun _ _ => trivial) trivial) (by simp)).mono ?_
  rintro e w' ⟨ad, c, rfl, hr, hb⟩
  obtain ⟨b, off, y, rfl, hb1, _, y0, y1, y2, y3, hy⟩ := RdsR.get hr 0 (by simp)
  refine ⟨b, off, y, c, rfl, hb1, by simpa using y0, by simpa using y1, by simpa using y2, by simpa using y3, ?_, hg.below.trans (hb.mono (by omega)), ?_, ?_, ?_⟩
  · rw [hsz] at hy; exact hy
  · rw [hb.block _ (by omega)]; exact h0
  · rw [hb.block _ (by omega)]; exact h1
  · have := hb.size; omega

theorem res_change (w : World) (b : Nat) (tmps : Array Value) (k p k2 : Int) (m : ByteArray) (a : Option Addr) (n c : Nat) (h4 : tmps.getD 4 undef = .pointer (some ⟨b, 0, none⟩)) (h0 : w.cell? ⟨b, 0, none⟩ = some (.int .i64 k)) (h1 : w.cell? ⟨b, 1, none⟩ = some (.int .i64 p)) (h2 : w.cell? ⟨b, 2, none⟩ = some (.string m)) (h3 : w.cell? ⟨b, 3, none⟩ = some (.int .i64 k2)) (h5 : w.cell? ⟨b, 4, none⟩ = some (.slice a n c)) :
    (results Tryz.f51 tmps).run Tryz.prog w = .ok (.agg #[.int .i64 k, .int .i64 p, .string m, .int .i64 k2, .slice a n c]) w := by
  rw [Array.getD_eq_getD_getElem?] at h4
  simp [results, h4, loadVar, asAddr, go_sem, Tryz.isAgg64, Tryz.sizeOf64, h0, h1, h2, h3, h5]

/-- The end of do: the table's cell is written, then the change that is handed back. -/
theorem do_end {ok ok9 : Nat → Prop} {tb : Nat} {w W9 : World} {v' : Value} {L L' : List Rl} (htb : tb < w.heap.size) (hs : w.heap.size + 1 < W9.heap.size) (hb9 : But (fun b => b = tb ∨ w.heap.size ≤ b) w W9) (ht9 : W9.cell? ⟨tb, 0, none⟩ = some v') (hf9 : W9.frozen? ⟨tb, 0, none⟩ = false) (hok : ∀ b, ok9 b → b ≠ w.heap.size + 1 ∧ (ok b ∨ w.heap.size ≤ b)) (hr : RdsR ok9 W9 v' L) (hL : L' = L) (k : Int) (u : RC) (c0 c1 c2 c3 c4 : Value) :
    ∃ (k' : Int) (y : RC) (v' : Value), Ending.returned (.agg #[.int .i64 k, .int .i64 u.p, .string u.m, .int .i64 u.k, .slice u.a u.n u.c]) = Ending.returned (.agg #[.int .i64 k', .int .i64 y.p, .string y.m, .int .i64 y.k, .slice y.a y.n y.c]) ∧
      (((((W9.setCell ⟨w.heap.size + 1, 0, none⟩ c0).setCell ⟨w.heap.size + 1, 1, none⟩ c1).setCell ⟨w.heap.size + 1, 2, none⟩ c2).setCell ⟨w.heap.size + 1, 3, none⟩ c3).setCell ⟨w.heap.size + 1, 4, none⟩ c4).cell? ⟨tb, 0, none⟩ = some v' ∧
      (((((W9.setCell ⟨w.heap.size + 1, 0, none⟩ c0).setCell ⟨w.heap.size + 1, 1, none⟩ c1).setCell ⟨w.heap.size + 1, 2, none⟩ c2).setCell ⟨w.heap.size + 1, 3, none⟩ c3).setCell ⟨w.heap.size + 1, 4, none⟩ c4).frozen? ⟨tb, 0, none⟩ = false ∧
      RdsR (fun b => ok b ∨ w.heap.size ≤ b) (((((W9.setCell ⟨w.heap.size + 1, 0, none⟩ c0).setCell ⟨w.heap.size + 1, 1, none⟩ c1).setCell ⟨w.heap.size + 1, 2, none⟩ c2).setCell ⟨w.heap.size + 1, 3, none⟩ c3).setCell ⟨w.heap.size + 1, 4, none⟩ c4) v' L' ∧
      But (fun b => b = tb) w (((((W9.setCell ⟨w.heap.size + 1, 0, none⟩ c0).setCell ⟨w.heap.size + 1, 1, none⟩ c1).setCell ⟨w.heap.size + 1, 2, none⟩ c2).setCell ⟨w.heap.size + 1, 3, none⟩ c3).setCell ⟨w.heap.size + 1, 4, none⟩ c4) := by
  subst hL
  have h0 : ∀ (W : World) (o : Nat) (c : Value), But (fun b => b = w.heap.size + 1) W (W.setCell ⟨w.heap.size + 1, o, none⟩ c) := fun W o c => But.set (S := fun b => b = w.heap.size + 1) (a := ⟨w.heap.size + 1, o, none⟩) rfl c
  have hb := ((((h0 W9 0 c0).trans (h0 _ 1 c1)).trans (h0 _ 2 c2)).trans (h0 _ 3 c3)).trans (h0 _ 4 c4)
  have hs9 := hb9.size
  refine ⟨k, u, v', rfl, (hb.cell (p := ⟨tb, 0, none⟩) (by show tb < _; omega) (by show ¬ tb = _; omega)).trans ht9, ?_, (hr.but hb (fun b h => (hok b h).1)).mono fun b h => (hok b h).2, ?_⟩
  · rw [hb.frozen (p := ⟨tb, 0, none⟩) (by show tb < _; omega) (by show ¬ tb = _; omega)]
    exact hf9
  · have h1 : But (fun b => b = tb ∨ w.heap.size ≤ b) w _ := hb9.trans (hb.mono fun b h => .inr (by omega))
    exact ⟨h1.os, h1.tape, h1.output, h1.size, fun k hk hn => h1.block k hk (fun h => h.elim hn (fun h => by omega))⟩

set_option maxHeartbeats 1600000 in
set_option maxRecDepth 20000 in
theorem do2_any (ok ok2 : Nat → Prop) (tb : Nat) (v : Value) (L : List Rl) (x : RC) (r : Rl) (w : World) (hr : RdsR ok w v L) (ht : w.cell? ⟨tb, 0, none⟩ = some v) (hf : w.frozen? ⟨tb, 0, none⟩ = false) (htok : ∀ b, ok b → b ≠ tb) (hx : RdC ok2 w x r) (hL : L.length ≤ 4096) (hk : 0 ≤ Fb.keyI L r.p r.m) :
    Calls Tryz.prog 51 #[.pointer (some ⟨tb, 0, none⟩), .agg #[.int .i64 2, .int .i64 x.p, .string x.m, .int .i64 x.k, .slice x.a x.n x.c]] w fun e w' => ∃ (k' : Int) (y : RC) (v' : Value), e = .returned (.agg #[.int .i64 k', .int .i64 y.p, .string y.m, .int .i64 y.k, .slice y.a y.n y.c]) ∧
      w'.cell? ⟨tb, 0, none⟩ = some v' ∧ w'.frozen? ⟨tb, 0, none⟩ = false ∧ RdsR (fun b => ok b ∨ w.heap.size ≤ b) w' v' (Fb.aft L 2 r) ∧ But (fun b => b = tb) w w' := by
  have htb : tb < w.heap.size := cell_lt ht
  obtain ⟨W2, hW2⟩ : ∃ W2, W2 = ((w.alloc (.cells #[.int .i64 2, .int .i64 x.p, .string x.m, .int .i64 x.k, .slice x.a x.n x.c] 64)).alloc (.cells #[.int .i64 0, .int .i64 0, .string ⟨#[]⟩, .int .i64 0, .slice none 0 0] 64)).alloc (.cells #[.int .i64 x.p, .string x.m, .int .i64 x.k, .slice x.a x.n x.c] 62) := ⟨_, rfl⟩
  have hco := copied_one x r ok2 w W2 2 hx hW2
  rw [hW2] at hco
  have HCo := Lib.hid hco
  obtain ⟨z, hz⟩ : ∃ z, Fb.keyI L r.p r.m = z := ⟨_, rfl⟩
  have HZ := Lib.hid hz
  have HIs := Lib.hid (Fb.keyI_is L r.p r.m)
  rw [hz] at HIs hk
  have HR := Lib.hid hr.lt
  have HT := Lib.hid ht
  have HF := Lib.hid hf
  have HTo := Lib.hid htok
  clear hco hx ht hf hz hW2 htok
  obtain ⟨i, hi, hzi, _, _⟩ : ∃ i, ∃ h : i < L.length, z = (i : Int) ∧ Fb.keyB r.p r.m L[i] = true ∧ ∀ j (h : j < L.length), j < i → Fb.keyB r.p r.m L[j] = false := by
    rcases HIs.out.is with ⟨h1, _⟩ | h
    · omega
    · exact h
  subst hzi
  obtain ⟨ad1, cc, rfl, hvc, _⟩ := hr.form
  obtain ⟨bl, ol, u, rfl, hbl, _, u0, u1, u2, u3, _⟩ := hr.get i hi
  obtain ⟨n, hn⟩ : ∃ n, n = L.length := ⟨_, rfl⟩
  rw [← hn] at HR HT hi hL hvc
  have HN := Lib.hid hn
  have HU : Hid (w.cell? ⟨bl, ol + i * 4, none⟩ = some (.int .i64 u.p) ∧ w.cell? ⟨bl, ol + i * 4 + 1, none⟩ = some (.string u.m) ∧ w.cell? ⟨bl, ol + i * 4 + 2, none⟩ = some (.int .i64 u.k) ∧ w.cell? ⟨bl, ol + i * 4 + 3, none⟩ = some (.slice u.a u.n u.c)) := ⟨u0, u1, u2, u3⟩
  clear hr hn u0 u1 u2 u3
  go_enter Tryz.func51, Tryz.ntmps51
  go_wp2_with fail
  refine HCo.out.mono ?_
  rintro e w3 ⟨b, off, y, c, rfl, hb, y0, y1, y2, y3, hy, hb3, g0, g1, hs3⟩
  have c0 : w3.cell? ⟨w.heap.size, 0, none⟩ = some (.int .i64 2) := by simp [World.cell?, g0]
  have HG1 := Lib.hid g1
  have HB3 := Lib.hid hb3
  have HFi := Lib.hid (find_any (fun b => ok b ∧ b < w.heap.size) tb _ L y (w3.alloc (.cells #[.int .i64 y.p, .string y.m, .int .i64 y.k, .slice y.a y.n y.c] 62)) (HR.out.below (hb3.alloc hb3.size _)) (((hb3.alloc hb3.size _).cell (p := ⟨tb, 0, none⟩) htb).trans HT.out) (i : Int) (by skip; rw [hy.p, hy.m]; exact HIs.out))
  have HY := Lib.hid hy
  clear hy hb3 g0 g1
  go_wp2_with fail
  refine HFi.out.mono ?_
  rintro e w5 ⟨rfl, hg5⟩
  have hb35 : Below w3.heap.size w3 w5 := ((Below.refl w3.heap.size w3).alloc (Nat.le_refl _) _).trans (hg5.below.mono (by simp))
  have hb5 : Below w.heap.size w w5 := HB3.out.trans (hb35.mono HB3.out.size)
  have HB5 := Lib.hid hb5
  have d0 := (hb35.cell (p := ⟨w.heap.size, 0, none⟩) (cell_lt c0)).trans c0
  have t5 := (hb5.cell (p := ⟨tb, 0, none⟩) htb).trans HT.out
  have u0 := (hb5.cell (p := ⟨bl, ol + i * 4, none⟩) hbl).trans HU.out.1
  have u1 := (hb5.cell (p := ⟨bl, ol + i * 4 + 1, none⟩) hbl).trans HU.out.2.1
  have u2 := (hb5.cell (p := ⟨bl, ol + i * 4 + 2, none⟩) hbl).trans HU.out.2.2.1
  have u3 := (hb5.cell (p := ⟨bl, ol + i * 4 + 3, none⟩) hbl).trans HU.out.2.2.2
  have HH5 : Hid (w5.heap[w.heap.size + 1]? = some (.cells #[.int .i64 0, .int .i64 0, .string ⟨#[]⟩, .int .i64 0, .slice none 0 0] 64 (0, 0))) := (hb35.block _ (by omega)).trans HG1.out
  obtain ⟨W6, hW6⟩ : ∃ W6, W6 = w5.alloc (.cells #[.int .i64 u.p, .string u.m, .int .i64 u.k, .slice u.a u.n u.c] 62) := ⟨_, rfl⟩
  have hb56 : Below w5.heap.size w5 W6 := by rw [hW6]; exact (Below.refl _ _).alloc (Nat.le_refl _) _
  have hs6 : W6.heap.size = w5.heap.size + 1 := by rw [hW6]; simp
  have HB6 : Hid (Below w.heap.size w W6) := hb5.trans (hb56.mono hb5.size)
  have t6 := (HB6.out.cell (p := ⟨tb, 0, none⟩) htb).trans HT.out
  have HH6 : Hid (W6.heap[w.heap.size + 1]? = some (.cells #[.int .i64 0, .int .i64 0, .string ⟨#[]⟩, .int .i64 0, .slice none 0 0] 64 (0, 0))) := (hb56.block _ (by have := hb35.size; omega)).trans HH5.out
  have HU6 : Hid (W6.heap[w5.heap.size]? = some (.cells #[.int .i64 u.p, .string u.m, .int .i64 u.k, .slice u.a u.n u.c] 62 (0, 0))) := by rw [hW6]; exact heap_alloc_new _ _
  have HW6 := Lib.hid hW6
  have hs35 := hb35.size
  have HCl := Lib.hid (cloneR_any _ _ L W6 (HR.out.below HB6.out) (by have := HN.out; omega))
  rw [← HN.out] at HCl
  clear hb35 hb5 hb56 hg5 y0 y1 y2 y3 c0 hW6
  go_upto_region 9 with fail
  rw [← HW6.out]
  clear u0 u1 u2 u3 t5 HW6
  go_wp2_with fail
  refine HCl.out.mono ?_
  rintro e w7 ⟨ad7, c7, xs, rfl, hown, hb7⟩
  have hrow := hown.row
  rw [← HN.out] at hrow
  obtain ⟨g, cp, hgv, hg1, hg2⟩ := hrow.form (by omega)
  injection hgv with e1 e2 e3
  subst e1 e3
  have hb67 : Below w.heap.size w w7 := HB6.out.trans (hb7.mono HB6.out.size)
  have HB7 := Lib.hid hb67
  have hde := delete_rule hown (fun b hb e => by have := hb.2; omega) i (i + 1) rfl hi
  rw [show ((i + 1 : Nat) : Int) = (i : Int) + 1 by omega] at hde
  have HDe := Lib.hid hde
  have t7 := (hb67.cell (p := ⟨tb, 0, none⟩) htb).trans HT.out
  have HH7 : Hid (w7.heap[w.heap.size + 1]? = some (.cells #[.int .i64 0, .int .i64 0, .string ⟨#[]⟩, .int .i64 0, .slice none 0 0] 64 (0, 0))) := (hb7.block _ (by have := HB5.out.size; omega)).trans HH6.out
  have HU7 : Hid (w7.heap[w5.heap.size]? = some (.cells #[.int .i64 u.p, .string u.m, .int .i64 u.k, .slice u.a u.n u.c] 62 (0, 0))) := (hb7.block _ (by omega)).trans HU6.out
  have hs67 := hb7.size
  have hs5 := HB5.out.size
  clear hown hrow hde hb67 hb7 e2 t6
  go_wp2_with fail
  refine HDe.out.mono ?_
  rintro e w8 ⟨rfl, hr8, hbut8⟩
  have hbw8 : But (fun b => b = g) w w8 := (But.below HB7.out).trans hbut8
  have hne : ¬ tb = g := by omega
  have t8 := (hbw8.cell (p := ⟨tb, 0, none⟩) htb hne).trans HT.out
  have f8 := (hbw8.frozen (p := ⟨tb, 0, none⟩) htb hne).trans HF.out
  obtain ⟨W9, hW9⟩ : ∃ W9, W9 = w8.setCell ⟨tb, 0, none⟩ (.slice (some ⟨g, 0, none⟩) (n - 1) c7) := ⟨_, rfl⟩
  have HW9 := Lib.hid hW9
  have hu9 : W9.heap[w5.heap.size]? = some (.cells #[.int .i64 u.p, .string u.m, .int .i64 u.k, .slice u.a u.n u.c] 62 (0, 0)) := by
    rw [hW9, Below.heap_setCell w8 ⟨tb, 0, none⟩ _ _ (by show w5.heap.size ≠ tb; omega), hbut8.block _ (by omega) (by omega)]
    exact HU7.out
  have hh9 : W9.heap[w.heap.size + 1]? = some (.cells #[.int .i64 0, .int .i64 0, .string ⟨#[]⟩, .int .i64 0, .slice none 0 0] 64 (0, 0)) := by
    rw [hW9, Below.heap_setCell w8 ⟨tb, 0, none⟩ _ _ (by show w.heap.size + 1 ≠ tb; omega), hbut8.block _ (by omega) (by omega)]
    exact HH7.out
  have ht9 : W9.cell? ⟨tb, 0, none⟩ = some (.slice (some ⟨g, 0, none⟩) (n - 1) c7) := by rw [hW9]; exact cell_set_same _ t8
  have hbut9 : But (fun b => b = tb) w8 W9 := by rw [hW9]; exact But.set (S := fun b => b = tb) (a := ⟨tb, 0, none⟩) rfl _
  have hr9 := hr8.but hbut9 (fun b hb e => by
    rcases hb with h | h
    · omega
    · exact HTo.out b h.1.1 e)
  have HR9 := Lib.hid hr9
  have HBut9 := Lib.hid hbut9
  have HS8 : Hid (w.heap.size + 1 < w8.heap.size) := by have := hbut8.size; show _ < _; omega
  have HBw8 := Lib.hid hbw8
  have HT9 := Lib.hid ht9
  have HF9 : Hid (W9.frozen? ⟨tb, 0, none⟩ = false) := by show _ = _; rw [hW9]; first | exact f8 | (simp [go_sem]; exact f8)
  have HH9 := Lib.hid hh9
  have z0 : W9.cell? ⟨w5.heap.size, 0, none⟩ = some (.int .i64 u.p) := by simp [World.cell?, hu9]
  have z1 : W9.cell? ⟨w5.heap.size, 1, none⟩ = some (.string u.m) := by simp [World.cell?, hu9]
  have z2 : W9.cell? ⟨w5.heap.size, 2, none⟩ = some (.int .i64 u.k) := by simp [World.cell?, hu9]
  have z3 : W9.cell? ⟨w5.heap.size, 3, none⟩ = some (.slice u.a u.n u.c) := by simp [World.cell?, hu9]
  have r0 : W9.cell? ⟨w.heap.size + 1, 0, none⟩ = some (.int .i64 0) := by simp [World.cell?, hh9]
  have r1 : W9.cell? ⟨w.heap.size + 1, 1, none⟩ = some (.int .i64 0) := by simp [World.cell?, hh9]
  have r2 : W9.cell? ⟨w.heap.size + 1, 2, none⟩ = some (.string ⟨#[]⟩) := by simp [World.cell?, hh9]
  have r3 : W9.cell? ⟨w.heap.size + 1, 3, none⟩ = some (.int .i64 0) := by simp [World.cell?, hh9]
  have r4 : W9.cell? ⟨w.heap.size + 1, 4, none⟩ = some (.slice none 0 0) := by simp [World.cell?, hh9]
  have rf0 : W9.frozen? ⟨w.heap.size + 1, 0, none⟩ = false := by simp [World.frozen?, hh9]
  have rf1 : W9.frozen? ⟨w.heap.size + 1, 1, none⟩ = false := by simp [World.frozen?, hh9]
  have rf2 : W9.frozen? ⟨w.heap.size + 1, 2, none⟩ = false := by simp [World.frozen?, hh9]
  have rf3 : W9.frozen? ⟨w.heap.size + 1, 3, none⟩ = false := by simp [World.frozen?, hh9]
  have rf4 : W9.frozen? ⟨w.heap.size + 1, 4, none⟩ = false := by simp [World.frozen?, hh9]
  clear hr8 hbut8 hbw8 hW9 hu9 hh9 ht9 hbut9 hr9 t7
  go_upto_region 10 with fail
  rw [← HW9.out]
  clear t8 f8 HW9
  go_wp2_with fail
  have HL : Hid ((i : Int).toNat = i) := by show _ = _; simp
  refine bodyPost_ret (res_change _ (w.heap.size + 1) _ 1 u.p u.k u.m u.a u.n u.c rfl ?_ ?_ ?_ ?_ ?_) rfl ?_
  · simp [go_sem, r0]
  · simp [go_sem, r1]
  · simp [go_sem, r2]
  · simp [go_sem, r3]
  · simp [go_sem, r4]
  refine do_end htb (by have := HBut9.out.size; have := HBw8.out.size; have := HS8.out; omega) ((HBw8.out.mono fun b h => .inr (by omega)).trans (HBut9.out.mono fun b h => .inl h)) HT9.out HF9.out (fun b hb => ?_) HR9.out ?_ 1 u _ _ _ _ _
  · rcases hb with h | h
    · omega
    · have := h.1.2; exact ⟨by omega, .inl h.1.1⟩
  · unfold Fb.aft; rw [if_neg (by decide), if_pos rfl, HZ.out, HL.out]
end Go.Proofs.YtlbelkjgaeaaeaaGreat
