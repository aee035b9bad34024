/-
  Walks: do, at a change that modifies a rule.
-/
import Derived.Test.YtlamhpiiikcpiaaGreatDoorFtA
namespace Go.Proofs.YtlamhpiiikcpiaaGreatDoor
open Go.RowKit Go.Shelf Go.Lib Go.Sort
set_option linter.unusedVariables false
set_option linter.unusedSectionVars false
theorem OwnR.caps' {ok : Nat → Prop} {w : World} {base g n cap : Nat} {xs : List RC} {L : List Rl} (h : OwnR ok w base (.slice (some ⟨g, 0, none⟩) n cap) xs L) : n ≤ cap ∧ cap ≤ maxLen := h.caps.2
theorem cellsR_setx {xs : List RC} {i n : Nat} (hi : i < n) (hn : xs.length = n) (y : RC) (t : Nat) (ht : t < n * 4) : (cellsR (xs.set i y))[t]? = if t < i * 4 then (cellsR xs)[t]? else if t < i * 4 + 4 then (encR y)[t - i * 4]? else (cellsR xs)[t]? := by
  have e : xs.set i y = xs.take i ++ y :: xs.drop (i + 1) := List.set_eq_take_append_cons_drop.trans (if_pos (by omega))
  rw [e, cellsR_append, cellsR_cons, cellsR_take, cellsR_drop]
  have htl : ((cellsR xs).take (i * 4)).length = i * 4 := by rw [List.length_take, cellsR_length, hn]; omega
  by_cases h1 : t < i * 4
  · rw [if_pos h1, List.getElem?_append_left (by omega), List.getElem?_take, if_pos h1]
  · rw [if_neg h1, List.getElem?_append_right (by omega), htl]
    by_cases h2 : t < i * 4 + 4
    · rw [if_pos h2, List.getElem?_append_left (by rw [encR_len]; omega)]
    · rw [if_neg h2, List.getElem?_append_right (by rw [encR_len]; omega), List.getElem?_drop, encR_len]
      congr 1
      omega
theorem set_rule {ok : Nat → Prop} {w : World} {g cap n i : Nat} {xs : List RC} {L : List Rl} {y : RC} {r : Rl} (hg : g < w.heap.size) (hok : ∀ b, ok b → b ≠ g) (hx : xs.length = n) (hL : L.length = n) (hi : i < n) (hcap : n ≤ cap) (hm : cap ≤ maxLen) (hc : ∀ t, t < n * 4 → w.cell? ⟨g, t, none⟩ = (cellsR xs)[t]?) (hr : ∀ i (h : i < xs.length) (h' : i < L.length), RdC ok w xs[i] L[i]) (hy : RdC ok w y r) :
    RdsR (fun b => b = g ∨ ok b) (w.setCells g (i * 4) (encR y)) (.slice (some ⟨g, 0, none⟩) n cap) (L.set i r) := by
  have hbut : But (fun b => b = g) w (w.setCells g (i * 4) (encR y)) := but_setCells (S := fun b => b = g) g rfl _ _ _
  have key : ∀ {x : RC} {r : Rl}, RdC ok w x r → RdC (fun b => b = g ∨ ok b) (w.setCells g (i * 4) (encR y)) x r := fun hx => (hx.but hbut hok).mono fun b hb => .inr hb
  have := rdsR_ofCells (ok := fun b => b = g ∨ ok b) (w := w.setCells g (i * 4) (encR y)) (g := g) (cap := cap) (xs := xs.set i y) (L := L.set i r) (Nat.lt_of_lt_of_le hg hbut.size) (.inl rfl) (by simp [hx, hL]) (by simp [hL]; omega) hm ?_ ?_
  · rw [List.length_set, hL] at this; exact this
  · intro t ht
    rw [List.length_set, hL] at ht
    rw [cellsR_setx hi hx y t ht]
    by_cases h1 : t < i * 4
    · rw [if_pos h1, World.cell?_setCells_out g _ _ _ _ (fun _ _ => .inl h1)]; exact hc t ht
    · rw [if_neg h1]
      by_cases h2 : t < i * 4 + 4
      · rw [if_pos h2]
        obtain ⟨k, rfl⟩ : ∃ k, t = i * 4 + k := ⟨t - i * 4, by omega⟩
        have hk : k < (encR y).length := by rw [encR_len]; omega
        rw [World.cell?_setCells_in g _ _ _ ?_ k hk, show i * 4 + k - i * 4 = k by omega, List.getElem?_eq_getElem hk]
        intro q hq
        rw [encR_len] at hq
        rw [hc _ (by omega), List.getElem?_eq_getElem (by rw [cellsR_length, hx]; omega)]
        rfl
      · rw [if_neg h2, World.cell?_setCells_out g _ _ _ _ (fun _ _ => .inr (by rw [encR_len]; show i * 4 + 4 ≤ t; omega))]; exact hc t ht
  · intro q h1 h2
    by_cases hq : q = i
    · subst hq
      rw [List.getElem_set_self, List.getElem_set_self]; exact key hy
    · rw [List.getElem_set_ne (fun e => hq e.symm), List.getElem_set_ne (fun e => hq e.symm)]
      exact key (hr q (by simpa using h1) (by simpa using h2))
set_option maxHeartbeats 1600000 in
set_option maxRecDepth 20000 in
theorem do3_any (ok ok2 : Nat → Prop) (tb : Nat) (v : Value) (L : List Rl) (x : RC) (r : Rl) (w : World) (hr : RdsR ok w v L) (ht : w.cell? ⟨tb, 0, none⟩ = some v) (hf : w.frozen? ⟨tb, 0, none⟩ = false) (htok : ∀ b, ok b → b ≠ tb) (hx : RdC ok2 w x r) (hL : L.length ≤ 4096) (hk : 0 ≤ Fb.keyI L r.p r.m) :
    Calls Tryz.prog 62 #[.pointer (some ⟨tb, 0, none⟩), .agg #[.int .i64 3, .int .i64 x.p, .string x.m, .int .i64 x.k, .slice x.a x.n x.c]] w fun e w' => ∃ (k' : Int) (y : RC) (v' : Value), e = .returned (.agg #[.int .i64 k', .int .i64 y.p, .string y.m, .int .i64 y.k, .slice y.a y.n y.c]) ∧
      w'.cell? ⟨tb, 0, none⟩ = some v' ∧ w'.frozen? ⟨tb, 0, none⟩ = false ∧ RdsR (fun b => ok b ∨ w.heap.size ≤ b) w' v' (Fb.aft L 3 r) ∧ But (fun b => b = tb) w w' := by
  have htb : tb < w.heap.size := cell_lt ht
  obtain ⟨W2, hW2⟩ : ∃ W2, W2 = ((w.alloc (.cells #[.int .i64 3, .int .i64 x.p, .string x.m, .int .i64 x.k, .slice x.a x.n x.c] 49)).alloc (.cells #[.int .i64 0, .int .i64 0, .string ⟨#[]⟩, .int .i64 0, .slice none 0 0] 49)).alloc (.cells #[.int .i64 x.p, .string x.m, .int .i64 x.k, .slice x.a x.n x.c] 47) := ⟨_, rfl⟩
  have hco := copied_one x r ok2 w W2 3 hx hW2
  rw [hW2] at hco
  have HCo := Lib.hid hco
  obtain ⟨z, hz⟩ : ∃ z, Fb.keyI L r.p r.m = z := ⟨_, rfl⟩
  have HZ := Lib.hid hz
  have HIs := Lib.hid (Fb.keyI_is L r.p r.m)
  rw [hz] at HIs hk
  have HR := Lib.hid hr.lt
  have HT := Lib.hid ht
  have HF := Lib.hid hf
  have HTo := Lib.hid htok
  clear hco hx ht hf hz hW2 htok
  obtain ⟨i, hi, hzi, _, _⟩ : ∃ i, ∃ h : i < L.length, z = (i : Int) ∧ Fb.keyB r.p r.m L[i] = true ∧ ∀ j (h : j < L.length), j < i → Fb.keyB r.p r.m L[j] = false := by
    rcases HIs.out.is with ⟨h1, _⟩ | h
    · omega
    · exact h
  subst hzi
  obtain ⟨ad1, cc, rfl, hvc, _⟩ := hr.form
  obtain ⟨bl, ol, u, rfl, hbl, _, u0, u1, u2, u3, _⟩ := hr.get i hi
  obtain ⟨n, hn⟩ : ∃ n, n = L.length := ⟨_, rfl⟩
  rw [← hn] at HR HT hi hL hvc
  have HN := Lib.hid hn
  have HU : Hid (w.cell? ⟨bl, ol + i * 4, none⟩ = some (.int .i64 u.p) ∧ w.cell? ⟨bl, ol + i * 4 + 1, none⟩ = some (.string u.m) ∧ w.cell? ⟨bl, ol + i * 4 + 2, none⟩ = some (.int .i64 u.k) ∧ w.cell? ⟨bl, ol + i * 4 + 3, none⟩ = some (.slice u.a u.n u.c)) := ⟨u0, u1, u2, u3⟩
  clear hr hn u0 u1 u2 u3
  go_enter Tryz.func62, Tryz.ntmps62
  go_wp2_with fail
  refine HCo.out.mono ?_
  rintro e w3 ⟨b, off, y, c, rfl, hb, y0, y1, y2, y3, hy, hb3, g0, g1, hs3⟩
  have c0 : w3.cell? ⟨w.heap.size, 0, none⟩ = some (.int .i64 3) := by simp [World.cell?, g0]
  have HG1 := Lib.hid g1
  have HB3 := Lib.hid hb3
  have HFi := Lib.hid (find_any (fun b => ok b ∧ b < w.heap.size) tb _ L y (w3.alloc (.cells #[.int .i64 y.p, .string y.m, .int .i64 y.k, .slice y.a y.n y.c] 47)) (HR.out.below (hb3.alloc hb3.size _)) (((hb3.alloc hb3.size _).cell (p := ⟨tb, 0, none⟩) htb).trans HT.out) (i : Int) (by skip; rw [hy.p, hy.m]; exact HIs.out))
  have HY := Lib.hid hy
  clear hy hb3 g0 g1
  go_wp2_with fail
  refine HFi.out.mono ?_
  rintro e w5 ⟨rfl, hg5⟩
  have hb35 : Below w3.heap.size w3 w5 := ((Below.refl w3.heap.size w3).alloc (Nat.le_refl _) _).trans (hg5.below.mono (by simp))
  have hb5 : Below w.heap.size w w5 := HB3.out.trans (hb35.mono HB3.out.size)
  have HB5 := Lib.hid hb5
  have d0 := (hb35.cell (p := ⟨w.heap.size, 0, none⟩) (cell_lt c0)).trans c0
  have t5 := (hb5.cell (p := ⟨tb, 0, none⟩) htb).trans HT.out
  have u0 := (hb5.cell (p := ⟨bl, ol + i * 4, none⟩) hbl).trans HU.out.1
  have u1 := (hb5.cell (p := ⟨bl, ol + i * 4 + 1, none⟩) hbl).trans HU.out.2.1
  have u2 := (hb5.cell (p := ⟨bl, ol + i * 4 + 2, none⟩) hbl).trans HU.out.2.2.1
  have u3 := (hb5.cell (p := ⟨bl, ol + i * 4 + 3, none⟩) hbl).trans HU.out.2.2.2
  have HH5 : Hid (w5.heap[w.heap.size + 1]? = some (.cells #[.int .i64 0, .int .i64 0, .string ⟨#[]⟩, .int .i64 0, .slice none 0 0] 49 (0, 0))) := (hb35.block _ (by omega)).trans HG1.out
  obtain ⟨W6, hW6⟩ : ∃ W6, W6 = w5.alloc (.cells #[.int .i64 u.p, .string u.m, .int .i64 u.k, .slice u.a u.n u.c] 47) := ⟨_, rfl⟩
  have hb56 : Below w5.heap.size w5 W6 := by rw [hW6]; exact (Below.refl _ _).alloc (Nat.le_refl _) _
  have hs6 : W6.heap.size = w5.heap.size + 1 := by rw [hW6]; simp
  have HB6 : Hid (Below w.heap.size w W6) := hb5.trans (hb56.mono hb5.size)
  have t6 := (HB6.out.cell (p := ⟨tb, 0, none⟩) htb).trans HT.out
  have HH6 : Hid (W6.heap[w.heap.size + 1]? = some (.cells #[.int .i64 0, .int .i64 0, .string ⟨#[]⟩, .int .i64 0, .slice none 0 0] 49 (0, 0))) := (hb56.block _ (by have := hb35.size; omega)).trans HH5.out
  have hs35' : w3.heap.size < w5.heap.size := by have := hg5.below.size; simp at this; omega
  have HY6 : Hid (W6.heap[w3.heap.size]? = some (.cells #[.int .i64 y.p, .string y.m, .int .i64 y.k, .slice y.a y.n y.c] 47 (0, 0))) := (hb56.block _ (by omega)).trans ((hg5.below.block _ (by simp)).trans (heap_alloc_new _ _))
  have HYr5 : Hid (RdC (fun b => w.heap.size + 3 ≤ b ∧ b < w3.heap.size) W6 y r) := ((HY.out.lt.below ((Below.refl _ _).alloc (Nat.le_refl _) _)).below hg5.below).below hb56
  have HU6 : Hid (W6.heap[w5.heap.size]? = some (.cells #[.int .i64 u.p, .string u.m, .int .i64 u.k, .slice u.a u.n u.c] 47 (0, 0))) := by rw [hW6]; exact heap_alloc_new _ _
  have HW6 := Lib.hid hW6
  have hs35 := hb35.size
  have HCl := Lib.hid (cloneR_any _ _ L W6 (HR.out.below HB6.out) (by have := HN.out; omega))
  rw [← HN.out] at HCl
  clear hb35 hb5 hb56 hg5 y0 y1 y2 y3 c0 hW6
  go_upto_region 12 with fail
  rw [← HW6.out]
  clear u0 u1 u2 u3 t5 HW6
  go_wp2_with fail
  refine HCl.out.mono ?_
  rintro e w7 ⟨ad7, c7, xs, rfl, hown, hb7⟩
  have hrow := hown.row
  rw [← HN.out] at hrow
  obtain ⟨g, cp, hgv, hg1, hg2⟩ := hrow.form (by omega)
  injection hgv with e1 e2 e3
  subst e1 e3
  have hb67 : Below w.heap.size w w7 := HB6.out.trans (hb7.mono HB6.out.size)
  have HB7 := Lib.hid hb67
  have t7 := (hb67.cell (p := ⟨tb, 0, none⟩) htb).trans HT.out
  have f7 := ((But.below hb67).frozen (S := fun _ => False) (p := ⟨tb, 0, none⟩) htb (fun h => h)).trans HF.out
  have hs67 := hb7.size
  have hs5 := HB5.out.size
  have hne : ¬ tb = g := by omega
  obtain ⟨W8, hW8⟩ : ∃ W8, W8 = w7.setCell ⟨tb, 0, none⟩ (.slice (some ⟨g, 0, none⟩) n c7) := ⟨_, rfl⟩
  have HW8 := Lib.hid hW8
  have hbut8 : But (fun b => b = tb) w7 W8 := by rw [hW8]; exact But.set (S := fun b => b = tb) (a := ⟨tb, 0, none⟩) rfl _
  have hh8 : W8.heap[w.heap.size + 1]? = some (.cells #[.int .i64 0, .int .i64 0, .string ⟨#[]⟩, .int .i64 0, .slice none 0 0] 49 (0, 0)) := (hbut8.block _ (by omega) (by omega)).trans ((hb7.block _ (by omega)).trans HH6.out)
  have hu8 : W8.heap[w5.heap.size]? = some (.cells #[.int .i64 u.p, .string u.m, .int .i64 u.k, .slice u.a u.n u.c] 47 (0, 0)) := (hbut8.block _ (by omega) (by omega)).trans ((hb7.block _ (by omega)).trans HU6.out)
  have hy8 : W8.heap[w3.heap.size]? = some (.cells #[.int .i64 y.p, .string y.m, .int .i64 y.k, .slice y.a y.n y.c] 47 (0, 0)) := (hbut8.block _ (by omega) (by omega)).trans ((hb7.block _ (by omega)).trans HY6.out)
  have ht8 : W8.cell? ⟨tb, 0, none⟩ = some (.slice (some ⟨g, 0, none⟩) n c7) := by rw [hW8]; exact cell_set_same _ t7
  have HF8 : Hid (W8.frozen? ⟨tb, 0, none⟩ = false) := by show _ = _; rw [hW8]; first | exact f7 | (simp [go_sem]; exact f7)
  have hcells : ∀ t, t < n * 4 → W8.cell? ⟨g, t, none⟩ = (cellsR xs)[t]? := fun t ht => (hbut8.cell (p := ⟨g, t, none⟩) hg2 (fun e => hne e.symm)).trans (hrow.cellAt t ht)
  have hfrz : ∀ t, W8.frozen? ⟨g, t, none⟩ = false := fun t => (hbut8.frozen (p := ⟨g, t, none⟩) hg2 (fun e => hne e.symm)).trans (hrow.frozenAt t)
  have hxn : xs.length = n := by rw [hown.len, HN.out]
  have hset := set_rule (ok := fun b => b ≠ g ∧ b ≠ tb ∧ b ≠ w.heap.size + 1 ∧ (ok b ∨ w.heap.size ≤ b)) (w := W8) (g := g) (cap := c7) (n := n) (i := i) (xs := xs) (L := L) (y := y) (r := r) (Nat.lt_of_lt_of_le hg2 hbut8.size) (fun b hb => hb.1) hxn HN.out.symm hi (hown.caps').1 (hown.caps').2 hcells
    (fun q h1 h2 => ((hown.rd q h1 h2).but hbut8 (fun b hb e => HTo.out b hb.1.1 e)).mono fun b hb => ⟨by omega, HTo.out b hb.1.1, by omega, .inl hb.1.1⟩)
    (((HYr5.out.below hb7).but hbut8 (fun b hb e => by omega)).mono fun b hb => ⟨by omega, by omega, by omega, .inr (by omega)⟩)
  have HSet := Lib.hid hset
  have HC := Lib.hid hcells
  have HBut8 := Lib.hid hbut8
  have HB7' := Lib.hid hb67
  have e0 := hcells (i * 4) (by omega)
  have e1 := hcells (i * 4 + 1) (by omega)
  have e2 := hcells (i * 4 + 2) (by omega)
  have e3 := hcells (i * 4 + 3) (by omega)
  have hix : i < xs.length := by omega
  obtain ⟨q0, q1, q2, q3⟩ := cellsR_get xs i hix
  rw [q0] at e0
  rw [q1] at e1
  rw [q2] at e2
  rw [q3] at e3
  have k0 := hfrz (i * 4)
  have k1 := hfrz (i * 4 + 1)
  have k2 := hfrz (i * 4 + 2)
  have k3 := hfrz (i * 4 + 3)
  have x0 : W8.cell? ⟨w3.heap.size, 0, none⟩ = some (.int .i64 y.p) := by simp [World.cell?, hy8]
  have x1 : W8.cell? ⟨w3.heap.size, 1, none⟩ = some (.string y.m) := by simp [World.cell?, hy8]
  have x2 : W8.cell? ⟨w3.heap.size, 2, none⟩ = some (.int .i64 y.k) := by simp [World.cell?, hy8]
  have x3 : W8.cell? ⟨w3.heap.size, 3, none⟩ = some (.slice y.a y.n y.c) := by simp [World.cell?, hy8]
  have HU8 := Lib.hid hu8
  have HH8 := Lib.hid hh8
  clear hown hrow hb67 hb7 t6 hset hcells hfrz hbut8 hu8 hh8 hy8 q0 q1 q2 q3 hW8 hxn
  obtain ⟨W10, hW10⟩ : ∃ W10, W10 = (W8.setCells g (i * 4) (encR y)).drew := ⟨_, rfl⟩
  have HW10 : Hid (W10 = ((((W8.setCell ⟨g, i * 4, none⟩ (.int .i64 y.p)).setCell ⟨g, i * 4 + 1, none⟩ (.string y.m)).setCell ⟨g, i * 4 + 2, none⟩ (.int .i64 y.k)).setCell ⟨g, i * 4 + 3, none⟩ (.slice y.a y.n y.c)).drew) := hW10
  have hbut10 : But (fun b => b = g) W8 W10 := by rw [hW10]; exact (but_setCells (S := fun b => b = g) g rfl _ _ _).trans (but_drew _ _)
  have hr10 : RdsR (fun b => b = g ∨ b ≠ g ∧ b ≠ tb ∧ b ≠ w.heap.size + 1 ∧ (ok b ∨ w.heap.size ≤ b)) W10 (.slice (some ⟨g, 0, none⟩) n c7) (L.set i r) := by
    rw [hW10]; exact HSet.out.but (but_drew (fun _ => False) _) (fun _ _ h => h)
  have HR10 := Lib.hid hr10
  have HBut10 := Lib.hid hbut10
  have hs78 := HBut8.out.size
  have hs10 := hbut10.size
  have ht10 := (hbut10.cell (p := ⟨tb, 0, none⟩) (by show tb < _; omega) hne).trans ht8
  have HF10 : Hid (W10.frozen? ⟨tb, 0, none⟩ = false) := (hbut10.frozen (p := ⟨tb, 0, none⟩) (by show tb < _; omega) hne).trans HF8.out
  have hu10 := (hbut10.block w5.heap.size (by omega) (by omega)).trans HU8.out
  have hh10 := (hbut10.block (w.heap.size + 1) (by omega) (by omega)).trans HH8.out
  have HT10 := Lib.hid ht10
  have z0 : W10.cell? ⟨w5.heap.size, 0, none⟩ = some (.int .i64 u.p) := by simp [World.cell?, hu10]
  have z1 : W10.cell? ⟨w5.heap.size, 1, none⟩ = some (.string u.m) := by simp [World.cell?, hu10]
  have z2 : W10.cell? ⟨w5.heap.size, 2, none⟩ = some (.int .i64 u.k) := by simp [World.cell?, hu10]
  have z3 : W10.cell? ⟨w5.heap.size, 3, none⟩ = some (.slice u.a u.n u.c) := by simp [World.cell?, hu10]
  have r0 : W10.cell? ⟨w.heap.size + 1, 0, none⟩ = some (.int .i64 0) := by simp [World.cell?, hh10]
  have r1 : W10.cell? ⟨w.heap.size + 1, 1, none⟩ = some (.int .i64 0) := by simp [World.cell?, hh10]
  have r2 : W10.cell? ⟨w.heap.size + 1, 2, none⟩ = some (.string ⟨#[]⟩) := by simp [World.cell?, hh10]
  have r3 : W10.cell? ⟨w.heap.size + 1, 3, none⟩ = some (.int .i64 0) := by simp [World.cell?, hh10]
  have r4 : W10.cell? ⟨w.heap.size + 1, 4, none⟩ = some (.slice none 0 0) := by simp [World.cell?, hh10]
  have rf0 : W10.frozen? ⟨w.heap.size + 1, 0, none⟩ = false := by simp [World.frozen?, hh10]
  have rf1 : W10.frozen? ⟨w.heap.size + 1, 1, none⟩ = false := by simp [World.frozen?, hh10]
  have rf2 : W10.frozen? ⟨w.heap.size + 1, 2, none⟩ = false := by simp [World.frozen?, hh10]
  have rf3 : W10.frozen? ⟨w.heap.size + 1, 3, none⟩ = false := by simp [World.frozen?, hh10]
  have rf4 : W10.frozen? ⟨w.heap.size + 1, 4, none⟩ = false := by simp [World.frozen?, hh10]
  clear hW10 hbut10 hr10 hu10 hh10 ht10
  go_upto_region 13 with fail
  rw [← HW8.out]
  clear t7 f7 HW8
  go_region
  rw [← HW10.out]
  clear HW10 x0 x1 x2 x3 e0 e1 e3 k0 k1 k2 k3
  go_wp2_with fail
  have HL : Hid ((i : Int).toNat = i) := by show _ = _; simp
  refine bodyPost_ret (res_change _ (w.heap.size + 1) _ 3 u.p u.k u.m u.a u.n u.c rfl ?_ ?_ ?_ ?_ ?_) rfl ?_
  · simp [go_sem, r0]
  · simp [go_sem, r1]
  · simp [go_sem, r2]
  · simp [go_sem, r3]
  · simp [go_sem, r4]
  refine do_end htb (by omega) (((((But.below HB7'.out).mono fun b h => .inr h).trans (HBut8.out.mono fun b h => .inl h))).trans (HBut10.out.mono fun b h => .inr (by omega))) HT10.out HF10.out (fun b hb => ?_) HR10.out ?_ 3 u _ _ _ _ _
  · rcases hb with h | h
    · omega
    · exact ⟨h.2.2.1, h.2.2.2⟩
  · unfold Fb.aft; rw [if_neg (by decide), if_neg (by decide), HZ.out, HL.out]
end Go.Proofs.YtlamhpiiikcpiaaGreatDoor
