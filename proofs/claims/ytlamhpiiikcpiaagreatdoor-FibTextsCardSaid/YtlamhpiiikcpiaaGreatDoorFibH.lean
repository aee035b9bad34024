/-
  Walks: do, at a change that inserts a rule.
-/
import Derived.Test.YtlamhpiiikcpiaaGreatDoorFibG
import Derived.Deep.RegionHeld3
namespace Go.Proofs.YtlamhpiiikcpiaaGreatDoor
open Go.RowKit Go.Shelf Go.Lib Go.Sort
set_option linter.unusedVariables false
set_option linter.unusedSectionVars false
set_option linter.unusedSimpArgs false
set_option maxHeartbeats 16000000 in
set_option maxRecDepth 20000 in
theorem do1_any (ok ok2 : Nat → Prop) (tb : Nat) (v : Value) (L : List Rl) (x : RC) (r : Rl) (w : World) (hr : RdsR ok w v L) (ht : w.cell? ⟨tb, 0, none⟩ = some v) (hf : w.frozen? ⟨tb, 0, none⟩ = false) (hx : RdC ok2 w x r) (hL : L.length ≤ 4096) :
    Calls Tryz.prog 62 #[.pointer (some ⟨tb, 0, none⟩), .agg #[.int .i64 1, .int .i64 x.p, .string x.m, .int .i64 x.k, .slice x.a x.n x.c]] w fun e w' => ∃ (k' : Int) (y : RC) (v' : Value), e = .returned (.agg #[.int .i64 k', .int .i64 y.p, .string y.m, .int .i64 y.k, .slice y.a y.n y.c]) ∧
      w'.cell? ⟨tb, 0, none⟩ = some v' ∧ w'.frozen? ⟨tb, 0, none⟩ = false ∧ RdsR (fun b => ok b ∨ w.heap.size ≤ b) w' v' (Fb.aft L 1 r) ∧ But (fun b => b = tb) w w' := by
  have htb : tb < w.heap.size := cell_lt ht
  obtain ⟨W2, hW2⟩ : ∃ W2, W2 = ((w.alloc (.cells #[.int .i64 1, .int .i64 x.p, .string x.m, .int .i64 x.k, .slice x.a x.n x.c] 49)).alloc (.cells #[.int .i64 0, .int .i64 0, .string ⟨#[]⟩, .int .i64 0, .slice none 0 0] 49)).alloc (.cells #[.int .i64 x.p, .string x.m, .int .i64 x.k, .slice x.a x.n x.c] 47) := ⟨_, rfl⟩
  have hco := copied_one x r ok2 w W2 1 hx hW2
  rw [hW2] at hco
  have HCo := Lib.hid hco
  obtain ⟨z, hz⟩ : ∃ z, Fb.keyI L r.p r.m = z := ⟨_, rfl⟩
  have HIs := Lib.hid (Fb.keyI_is L r.p r.m)
  rw [hz] at HIs
  have HR := Lib.hid hr.lt
  have HT := Lib.hid ht
  have HF := Lib.hid hf
  obtain ⟨n, hn⟩ : ∃ n, n = L.length := ⟨_, rfl⟩
  rw [← hn] at hL
  have HN := Lib.hid hn
  clear hco hx ht hf hz hW2 hr hn
  go_enter Tryz.func62, Tryz.ntmps62
  go_wp2_with fail
  refine HCo.out.mono ?_
  rintro e w3 ⟨b, off, y, c, rfl, hb, y0, y1, y2, y3, hy, hb3, g0, g1, hs3⟩
  have c0 : w3.cell? ⟨w.heap.size, 0, none⟩ = some (.int .i64 1) := by simp [World.cell?, g0]
  have HG1 := Lib.hid g1
  have HB3 := Lib.hid hb3
  have HFi := Lib.hid (find_any (fun b => ok b ∧ b < w.heap.size) tb _ L y (w3.alloc (.cells #[.int .i64 y.p, .string y.m, .int .i64 y.k, .slice y.a y.n y.c] 47)) (HR.out.below (hb3.alloc hb3.size _)) (((hb3.alloc hb3.size _).cell (p := ⟨tb, 0, none⟩) htb).trans HT.out) z (by skip; rw [hy.p, hy.m]; exact HIs.out))
  have HY := Lib.hid hy
  clear hy hb3 g0 g1
  go_wp2_with fail
  refine HFi.out.mono ?_
  rintro e w5 ⟨rfl, hg5⟩
  have hb35 : Below w3.heap.size w3 w5 := ((Below.refl w3.heap.size w3).alloc (Nat.le_refl _) _).trans (hg5.below.mono (by simp))
  have hs35' : w3.heap.size < w5.heap.size := by have := hg5.below.size; simp at this; omega
  have hb5 : Below w.heap.size w w5 := HB3.out.trans (hb35.mono HB3.out.size)
  have HB5 := Lib.hid hb5
  have d0 := (hb35.cell (p := ⟨w.heap.size, 0, none⟩) (cell_lt c0)).trans c0
  have hh5 : w5.heap[w.heap.size + 1]? = some (.cells #[.int .i64 0, .int .i64 0, .string ⟨#[]⟩, .int .i64 0, .slice none 0 0] 49 (0, 0)) := (hb35.block _ (by omega)).trans HG1.out
  have hy5 : w5.heap[w3.heap.size]? = some (.cells #[.int .i64 y.p, .string y.m, .int .i64 y.k, .slice y.a y.n y.c] 47 (0, 0)) := (hg5.below.block _ (by simp)).trans (heap_alloc_new _ _)
  have hyr5 : RdC (fun b => b < w5.heap.size) w5 y r := ((HY.out.lt.below ((Below.refl _ _).alloc (Nat.le_refl _) _)).below hg5.below).mono fun b hb => by have := hb.2; omega
  have hr5 : RdsR (fun b => b < w5.heap.size) w5 v L := (HR.out.below hb5).mono fun b hb => by have := hb.2; have := hb5.size; omega
  have t5 := (hb5.cell (p := ⟨tb, 0, none⟩) htb).trans HT.out
  have f5 := (But.frozen (S := fun _ => False) (But.below hb5) (p := ⟨tb, 0, none⟩) htb (fun h => h)).trans HF.out
  have hs5 := hb5.size
  have x0 : w5.cell? ⟨w3.heap.size, 0, none⟩ = some (.int .i64 y.p) := by simp [World.cell?, hy5]
  have x1 : w5.cell? ⟨w3.heap.size, 1, none⟩ = some (.string y.m) := by simp [World.cell?, hy5]
  have x2 : w5.cell? ⟨w3.heap.size, 2, none⟩ = some (.int .i64 y.k) := by simp [World.cell?, hy5]
  have x3 : w5.cell? ⟨w3.heap.size, 3, none⟩ = some (.slice y.a y.n y.c) := by simp [World.cell?, hy5]
  have HK : Hid (∀ W, Below w5.heap.size w5 W → W.cell? ⟨tb, 0, none⟩ = some v ∧ W.frozen? ⟨tb, 0, none⟩ = false ∧ W.cell? ⟨w3.heap.size, 0, none⟩ = some (.int .i64 y.p) ∧ W.cell? ⟨w3.heap.size, 1, none⟩ = some (.string y.m) ∧ W.cell? ⟨w3.heap.size, 2, none⟩ = some (.int .i64 y.k) ∧ W.cell? ⟨w3.heap.size, 3, none⟩ = some (.slice y.a y.n y.c)) := fun W hW =>
    ⟨(hW.cell (p := ⟨tb, 0, none⟩) (by show tb < _; omega)).trans t5, (But.frozen (S := fun _ => False) (But.below hW) (p := ⟨tb, 0, none⟩) (by show tb < _; omega) (fun h => h)).trans f5, (hW.cell (p := ⟨w3.heap.size, 0, none⟩) hs35').trans x0, (hW.cell (p := ⟨w3.heap.size, 1, none⟩) hs35').trans x1, (hW.cell (p := ⟨w3.heap.size, 2, none⟩) hs35').trans x2, (hW.cell (p := ⟨w3.heap.size, 3, none⟩) hs35').trans x3⟩
  have HCl : Hid (∀ W, Below w5.heap.size w5 W → Calls Tryz.prog 51 #[v] W fun e w' => ∃ ad c xs, e = .returned (.slice ad n c) ∧ OwnR (fun b => b < w5.heap.size) w' w5.heap.size (.slice ad n c) xs L ∧ Below w5.heap.size w5 w' ∧ Below W.heap.size W w') := fun W hW => by
    have := cloneR_any _ v L W (hr5.below hW) (by have := HN.out; omega)
    rw [← HN.out] at this
    refine this.mono ?_
    rintro e w' ⟨ad, c, xs, rfl, ho, hb⟩
    exact ⟨ad, c, xs, rfl, (ho.mono fun b hb => hb.1).le hW.size, hW.trans (hb.mono hW.size), hb⟩
  have HOr : Hid (∀ (ok : Nat → Prop) (W : World) (v : Value), RdsR ok W v (L ++ [r]) → Below w5.heap.size w5 W → Calls Tryz.prog 27 #[v] W fun e w' => ∃ ad nn cc, e = .returned (.slice ad nn cc) ∧ RdsR (fun b => w5.heap.size ≤ b) w' (.slice ad nn cc) (St.isort Rp.aheadR (L ++ [r])) ∧ Below w5.heap.size w5 w') := fun ok W v hv hW => by
    refine (order_rules ok v (L ++ [r]) W hv (by have := HN.out; simp; omega)).mono ?_
    rintro e w' ⟨v', rfl, h1, h2⟩
    obtain ⟨ad, cc, rfl, _⟩ := h1.form
    exact ⟨ad, _, cc, rfl, h1.mono fun b hb => by have := hW.size; omega, hW.trans (h2.mono hW.size)⟩
  have HYr : Hid (∀ W, Below w5.heap.size w5 W → RdC (fun b => b < w5.heap.size) W y r) := fun W hW => hyr5.below hW
  have HH5 := Lib.hid hh5
  clear hb35 hb5 hg5 y0 y1 y2 y3 c0 hy5 hyr5 hr5 hh5
  go_upto_region 5 with fail
  go_cut [4, 5] (fun s4 s5 wx => s4 = .pointer (some ⟨w.heap.size + 1, 0, none⟩) ∧ s5 = .pointer (some ⟨w3.heap.size, 0, none⟩) ∧ ∃ v', Hid (wx.cell? ⟨tb, 0, none⟩ = some v' ∧ wx.frozen? ⟨tb, 0, none⟩ = false ∧ RdsR (fun b => w5.heap.size ≤ b) wx v' (St.isort Rp.aheadR (L ++ [r])) ∧ But (fun b => b = tb ∨ w5.heap.size ≤ b) w5 wx))
  case first => as_aux_lemma =>
    have HK4 : Hid (∀ W, But (fun b => b = tb ∨ w5.heap.size ≤ b) w5 W → W.cell? ⟨w3.heap.size, 0, none⟩ = some (.int .i64 y.p) ∧ W.cell? ⟨w3.heap.size, 1, none⟩ = some (.string y.m) ∧ W.cell? ⟨w3.heap.size, 2, none⟩ = some (.int .i64 y.k) ∧ W.cell? ⟨w3.heap.size, 3, none⟩ = some (.slice y.a y.n y.c)) := fun W hW => by
      have hno : ¬ (w3.heap.size = tb ∨ w5.heap.size ≤ w3.heap.size) := by omega
      exact ⟨(hW.cell (p := ⟨w3.heap.size, 0, none⟩) hs35' hno).trans x0, (hW.cell (p := ⟨w3.heap.size, 1, none⟩) hs35' hno).trans x1, (hW.cell (p := ⟨w3.heap.size, 2, none⟩) hs35' hno).trans x2, (hW.cell (p := ⟨w3.heap.size, 3, none⟩) hs35' hno).trans x3⟩
    have hne5 : ¬ tb = w5.heap.size := by omega
    have t5a : (w5.alloc (.cells #[.int .i64 y.p, .string y.m, .int .i64 y.k, .slice y.a y.n y.c] 47)).cell? ⟨tb, 0, none⟩ = some v := (HK.out _ ((Below.refl _ _).alloc (Nat.le_refl _) _)).1
    have hnw1 := World.new_ne w5 ⟨tb, 0, none⟩ t5
    have hnw2 := World.new_ne w5 ⟨w3.heap.size, 0, none⟩ x0
    have hne6 : ¬ w5.heap.size = tb := by omega
    go_region_law (first
        | (go_simp; go_at_call 51; refine (HCl.out _ (by repeat (first | (with_reducible exact Below.refl _ _) | (with_reducible refine Below.drew ?_) | (with_reducible refine Below.alloc ?_ (by simp <;> omega) _)))).mono ?_; rintro _ w6 ⟨ad6, c6, xs6, rfl, ho6, hb6, hb6'⟩; have HO6 := Lib.hid ho6; have HB6 := Lib.hid hb6; have HB6' := Lib.hid hb6'; obtain ⟨k6a, k6b, k6c, k6d, k6e, k6f⟩ := HK.out _ hb6; clear ho6 hb6 hb6')
        | ((refine step_app_cells rfl (.tmp 27) (.tmp 29) (by rfl) w5.heap.size (fun b => b < w5.heap.size) _ _ _ (by rfl) (by first | exact HO6.out | exact HO6.out.below ((Below.refl _ _).alloc (Nat.le_refl _) _)) _ 1 1 [y] [r] (by rfl) rfl rfl (one_cells (e := 47) (by first | exact heap_alloc_new w6 _ | exact (HB6'.out.block _ (by simp)).trans (by simp [dr_heap, al_heap, Array.getElem?_push]))) (fun e => by cases e) (one_rdC (HYr.out _ (by first | exact HB6.out | exact HB6.out.alloc HB6.out.size _))) (fun b hb e => by have h3 := (HO6.out.row.lt b e).1; omega) (n + 1) (by rw [← HN.out]; simp) (by omega) (by have := HB6.out.size; simp; try omega) ?_); intro ad7 c7 w7 ho7 hg7; have HO7 := Lib.hid ho7; have HB7 := Lib.hid (Below.grown (B := w5.heap.size) (a := w5) (by first | exact HB6.out | exact HB6.out.alloc HB6.out.size _) hg7 (by have := HB6.out.size; simp; try omega) (fun k hk => (HO6.out.row.lt k hk).1)); clear ho7 hg7)
        | (go_simp; go_at_call 27; refine (HOr.out _ _ _ HO7.out.toRds' HB7.out).mono ?_; rintro _ w8 ⟨ad8, n8, c8, rfl, hr8, hb8⟩; have HR8 := Lib.hid hr8; have HB8 := Lib.hid hb8; have k8t := (HK.out _ hb8).1; have k8f := (HK.out _ hb8).2.1; clear hr8 hb8))
    all_goals
      go_wp2_with fail
      go_meet
      case rel => exact ⟨rfl, rfl, .slice ad8 n8 c8, cell_set_same _ (HK.out _ HB8.out).1, by first | exact (HK.out _ HB8.out).2.1 | (simp [go_sem]; exact (HK.out _ HB8.out).2.1), HR8.out.but (But.set (S := fun b => b = tb) (a := ⟨tb, 0, none⟩) rfl _) (fun b hb e => by omega), ((But.below (S := fun b => b = tb ∨ w5.heap.size ≤ b) HB8.out)).trans ((But.set (S := fun b => b = tb) (a := ⟨tb, 0, none⟩) rfl _).mono fun b h => .inl h)⟩
  case rest => as_aux_lemma =>
    obtain ⟨wx, rfl⟩ : ∃ wx : World, wx = wc := ⟨wc, rfl⟩
    obtain ⟨rfl, rfl, v', hcv⟩ := hcut
    obtain ⟨hv1, hv2, hv3, hv4⟩ := hcv.out
    have HV := Lib.hid hv1
    have HVf := Lib.hid hv2
    have HVr := Lib.hid hv3
    have HVb := Lib.hid hv4
    have hh9 := (hv4.block (w.heap.size + 1) (by omega) (by omega)).trans HH5.out
    have z0 := (hv4.cell (p := ⟨w3.heap.size, 0, none⟩) hs35' (by show ¬ (w3.heap.size = tb ∨ w5.heap.size ≤ w3.heap.size); omega)).trans x0
    have z1 := (hv4.cell (p := ⟨w3.heap.size, 1, none⟩) hs35' (by show ¬ (w3.heap.size = tb ∨ w5.heap.size ≤ w3.heap.size); omega)).trans x1
    have z2 := (hv4.cell (p := ⟨w3.heap.size, 2, none⟩) hs35' (by show ¬ (w3.heap.size = tb ∨ w5.heap.size ≤ w3.heap.size); omega)).trans x2
    have z3 := (hv4.cell (p := ⟨w3.heap.size, 3, none⟩) hs35' (by show ¬ (w3.heap.size = tb ∨ w5.heap.size ≤ w3.heap.size); omega)).trans x3
    have r0 : wx.cell? ⟨w.heap.size + 1, 0, none⟩ = some (.int .i64 0) := by simp [World.cell?, hh9]
    have r1 : wx.cell? ⟨w.heap.size + 1, 1, none⟩ = some (.int .i64 0) := by simp [World.cell?, hh9]
    have r2 : wx.cell? ⟨w.heap.size + 1, 2, none⟩ = some (.string ⟨#[]⟩) := by simp [World.cell?, hh9]
    have r3 : wx.cell? ⟨w.heap.size + 1, 3, none⟩ = some (.int .i64 0) := by simp [World.cell?, hh9]
    have r4 : wx.cell? ⟨w.heap.size + 1, 4, none⟩ = some (.slice none 0 0) := by simp [World.cell?, hh9]
    have rf0 : wx.frozen? ⟨w.heap.size + 1, 0, none⟩ = false := by simp [World.frozen?, hh9]
    have rf1 : wx.frozen? ⟨w.heap.size + 1, 1, none⟩ = false := by simp [World.frozen?, hh9]
    have rf2 : wx.frozen? ⟨w.heap.size + 1, 2, none⟩ = false := by simp [World.frozen?, hh9]
    have rf3 : wx.frozen? ⟨w.heap.size + 1, 3, none⟩ = false := by simp [World.frozen?, hh9]
    have rf4 : wx.frozen? ⟨w.heap.size + 1, 4, none⟩ = false := by simp [World.frozen?, hh9]
    have HSx : Hid (w.heap.size + 1 < wx.heap.size) := by show _ < _; have := hv4.size; omega
    clear hv1 hv2 hv3 hv4 hh9 hcv t5 f5 x0 x1 x2 x3
    go_wp2_with fail
    refine bodyPost_ret (res_change _ (w.heap.size + 1) _ 2 y.p y.k y.m y.a y.n y.c rfl ?_ ?_ ?_ ?_ ?_) rfl ?_
    · simp [go_sem, r0]
    · simp [go_sem, r1]
    · simp [go_sem, r2]
    · simp [go_sem, r3]
    · simp [go_sem, r4]
    refine do_end htb HSx.out (((But.below (S := fun b => b = tb ∨ w.heap.size ≤ b) HB5.out)).trans (HVb.out.mono fun b h => h.imp id (fun h => by have := HB5.out.size; omega))) HV.out HVf.out (fun b hb => ?_) HVr.out ?_ 2 y _ _ _ _ _
    · exact ⟨by omega, .inr (by omega)⟩
    · unfold Fb.aft; rw [if_pos rfl]
end Go.Proofs.YtlamhpiiikcpiaaGreatDoor
