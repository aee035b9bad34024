/-
  Walks: the reference's put.
-/
import Derived.BigQuiet
import Derived.Test.YtlmpaeefhpahoaaDoorVecX
namespace Go.Proofs.YtlmpaeefhpahoaaDoor
open Go.RowKit

theorem ownsRow_drewN {w : World} {b : Nat} {e : TypeId} {size : Nat} {v : Value} {n : Nat} {xs : List Value} (h : w.ownsRow b e size v n xs) (k : Nat) : (w.drewN k).ownsRow b e size v n xs := h

theorem wp_app_stamp {w : World} {ops : Array Oper} {rest : List Oper} {o : Oper} {a : Act} {Q : Exit → Act → World → Prop} (hgd : o.guard = none) (s x : Operand)
    (ho : o.op = .call { callee := .builtin .append, args := #[s, x], argTypes := #[24, 24] })
    (base : Nat) (v : Value) (n : Nat) (xs : List Stp) (st : Stp) (ad : Addr) (c : Nat) (hs : a.eval s = v) (hx : a.eval x = .slice (some ad) 1 c) (hnx : n = xs.length)
    (hown : w.ownsRow base 43 2 v n (cellsV xs)) (hbase : base ≤ w.heap.size) (hn : n ≤ 100000) (hc1 : w.cell? ad = some (.int .i64 st.1)) (hc2 : w.cell? (ad.add 1) = some (.int .u64 st.2))
    (h : ∀ v' w', w'.ownsRow base 43 2 v' (n + 1) (cellsV (xs ++ [st])) → w.grownBy w' v.ownBlock → wpList Tryd.prog ops Q rest (a.put o.dst v') w') : wpList Tryd.prog ops Q (o :: rest) a w := by
  obtain ⟨i0, hi, hz0, hz1, hz2⟩ := info_parts infoSt
  refine wpList_append_own w hgd s x 24 ho base 43 i0 _ 2 16 Tryd.underlying24 hi hz0 hz1 hz2 rfl (by decide) v n (cellsV xs) hs hown ad 1 c (cellsV [st]) hx rfl
    (fun j u hj => by
      match j with
      | 0 =>
        have : ad.add 0 = ad := by unfold Addr.add; rw [if_pos rfl]
        rw [this, hc1]
        simpa [cellsV] using hj
      | 1 =>
        rw [hc2]
        simpa [cellsV] using hj
      | j + 2 => simp [cellsV] at hj)
    (cellsV_one _) (by unfold maxLen; omega) (by omega) hbase fun v' w' h1 h2 _ => h v' w' (by rw [cellsV_append]; exact h1) h2

set_option maxHeartbeats 4000000 in
set_option maxRecDepth 20000 in
theorem putR_any (v : Value) (l : List Stp) (s : Stp) (w : World) (hr : RdsP w v l) (hlen : l.length ≤ 4096) (p : List Stp) (hp : putR l s false = p) :
    Calls Tryd.prog 32 #[v, .agg #[.int .i64 s.1, .int .u64 s.2]] w fun e w' => ∃ v', e = .returned v' ∧ w'.ownsRow w.heap.size 43 2 v' p.length (cellsV p) ∧ Below w.heap.size w w' := by
  obtain ⟨ad, len, cap, rfl, hl, hlm, hel⟩ := hr
  have hle : len ≤ 4096 := by omega
  have HL := Lib.hid hl
  have HEL := Lib.hid hel
  have HP := Lib.hid hp
  have HB0 := Lib.hid ((Below.refl w.heap.size w).alloc (Nat.le_refl _) (.cells #[.int .i64 s.1, .int .u64 s.2] 43))
  have HS0 : Hid ((w.alloc (.cells #[.int .i64 s.1, .int .u64 s.2] 43)).cell? ⟨w.heap.size, 0, none⟩ = some (.int .i64 s.1) ∧ (w.alloc (.cells #[.int .i64 s.1, .int .u64 s.2] 43)).cell? ⟨w.heap.size, 1, none⟩ = some (.int .u64 s.2)) := by
    constructor <;> (unfold World.cell? World.alloc; simp)
  clear hl hel hp hlm hlen
  generalize hR : (fun (e : Ending) (w' : World) => ∃ v', e = .returned v' ∧ w'.ownsRow w.heap.size 43 2 v' p.length (cellsV p) ∧ Below w.heap.size w w') = R
  have HR := Lib.hid hR
  clear hR
  go_enter Tryd.func32, Tryd.ntmps32
  obtain ⟨W0, hW0⟩ : ∃ W0, W0 = w.alloc (.cells #[.int .i64 s.1, .int .u64 s.2] 43) := ⟨_, rfl⟩
  have HZ : Hid (W0.heap.size = w.heap.size + 1) := by show _ = _; rw [hW0]; simp
  rw [← hW0] at HB0 HS0
  have HW0 := Lib.hid hW0
  clear hW0
  go_wp2_with fail
  first | rw [← HW0.out] | skip
  go_loopw [5, 6, 7] (fun o dn k wr => ∃ n : Nat, ∃ q : List Stp, ∃ d : Bool, ∃ oa om oc, n ≤ len ∧ om ≤ n + 1 ∧ (d = false → om ≤ n) ∧ k = .int .i64 n ∧ o = .slice oa om oc ∧ dn = .bool d ∧ Hid (putR l s false = q ++ putR (l.drop n) s d) ∧ Hid (om = q.length) ∧ Hid (wr.ownsRow W0.heap.size 43 2 (.slice oa om oc) om (cellsV q)) ∧ Hid (Below W0.heap.size W0 wr)) (fun _ _ k _ => len - (intOf k).toNat)
  case atStart => exact ⟨0, [], false, none, 0, 0, Nat.zero_le _, Nat.zero_le _, fun _ => Nat.zero_le _, rfl, rfl, rfl, rfl, rfl, World.ownsRow_nil _ _ _ _, Below.refl _ _⟩
  case round =>
    obtain ⟨wo, rfl⟩ : ∃ wo : World, wo = wr := ⟨wr, rfl⟩
    obtain ⟨n, q, d, oa, om, oc, hn, hom1, hom2, rfl, rfl, rfl, HQ, HOM, HO, HB⟩ := hrel
    have hwb := HB.out.size
    have hs1 : wo.cell? ⟨w.heap.size, 0, none⟩ = some (.int .i64 s.1) := (HB.out.cell (p := ⟨w.heap.size, 0, none⟩) (by have := HZ.out; simp only; omega)).trans HS0.out.1
    have hs2 : wo.cell? ⟨w.heap.size, 1, none⟩ = some (.int .u64 s.2) := (HB.out.cell (p := ⟨w.heap.size, 1, none⟩) (by have := HZ.out; simp only; omega)).trans HS0.out.2
    by_cases hlt : n < len
    · have hn' : n < l.length := by rw [← HL.out]; exact hlt
      obtain ⟨b, off, rfl, hb, hcell, hcell'⟩ := HEL.out n hn'
      have hbW : b < W0.heap.size := by have := HZ.out; omega
      have HX1 : Hid (∀ W, Below W0.heap.size W0 W → W.cell? ⟨b, off + n * 2, none⟩ = some (.int .i64 l[n].1)) := fun W hW => (hW.cell (p := ⟨b, off + n * 2, none⟩) hbW).trans ((HB0.out.cell (p := ⟨b, off + n * 2, none⟩) hb).trans hcell)
      have HX2 : Hid (∀ W, Below W0.heap.size W0 W → W.cell? ⟨b, off + n * 2 + 1, none⟩ = some (.int .u64 l[n].2)) := fun W hW => (hW.cell (p := ⟨b, off + n * 2 + 1, none⟩) hbW).trans ((HB0.out.cell (p := ⟨b, off + n * 2 + 1, none⟩) hb).trans hcell')
      have HSs : Hid (∀ W, Below W0.heap.size W0 W → W.cell? ⟨w.heap.size, 0, none⟩ = some (.int .i64 s.1) ∧ W.cell? ⟨w.heap.size, 1, none⟩ = some (.int .u64 s.2)) := fun W hW => ⟨(hW.cell (p := ⟨w.heap.size, 0, none⟩) (by have := HZ.out; simp only; omega)).trans HS0.out.1, (hW.cell (p := ⟨w.heap.size, 1, none⟩) (by have := HZ.out; simp only; omega)).trans HS0.out.2⟩
      have HD : Hid (l.drop n = l[n] :: l.drop (n + 1)) := List.drop_eq_getElem_cons hn'
      clear hcell hcell'
      generalize l[n] = t at HX1 HX2 HD
      have hc1 := HX1.out _ HB.out
      have hc2 := HX2.out _ HB.out
      have HPt : Hid (putR l s false = q ++ ((if !d && decide (s.1 ≤ t.1) then [s] else []) ++ (if t.1 = s.1 then [] else [t]) ++ putR (l.drop (n + 1)) s (d || decide (s.1 ≤ t.1)))) := by
        show _ = _
        rw [HQ.out, HD.out]
        rfl
      clear HQ HD
      cases d with
      | true =>
        by_cases heq : t.1 = s.1
        · have HEq := Lib.hid heq
          go_wp2_with fail
          go_quiet (fail)
          have HBq := Lib.hid (below_dN HB.out nq)
          have HOq := Lib.hid (ownsRow_drewN HO.out nq)
          obtain ⟨w1, hw1⟩ : ∃ w1, w1 = wo.drewN nq := ⟨_, rfl⟩
          rw [← hw1] at HBq HOq ⊢
          have hs3 := (HSs.out _ HBq.out).1
          have hs4 := (HSs.out _ HBq.out).2
          have hc3 := HX1.out _ HBq.out
          have hc4 := HX2.out _ HBq.out
          have hsz1 := HBq.out.size
          clear hw1 hs1 hs2 hc1 hc2
          go_wp2_with fail
          go_quiet (fail)
          have HBr := Lib.hid (below_dN HBq.out nq)
          have HOr := Lib.hid (ownsRow_drewN HOq.out nq)
          obtain ⟨w3, hw3⟩ : ∃ w3, w3 = w1.drewN nq := ⟨_, rfl⟩
          rw [← hw3] at HBr HOr ⊢
          have hc7 := HX1.out _ HBr.out
          have hc8 := HX2.out _ HBr.out
          have hsz3 := HBr.out.size
          clear hw3
          clear hs3 hs4 hc3 hc4
          go_wp2_with fail
          go_roundw
          case rel => exact ⟨n + 1, q, true, oa, om, oc, by omega, by omega, (by first | (intro h; cases h; done) | (intro _; omega)), by go_num, rfl, rfl, (by show _ = _; rw [HPt.out]; simp [HEq.out]), HOM, HOr, HBr⟩
          case measure => simp [intOf]; omega
        · have HEq := Lib.hid heq
          go_wp2_with fail
          go_quiet (fail)
          have HBq := Lib.hid (below_dN HB.out nq)
          have HOq := Lib.hid (ownsRow_drewN HO.out nq)
          obtain ⟨w1, hw1⟩ : ∃ w1, w1 = wo.drewN nq := ⟨_, rfl⟩
          rw [← hw1] at HBq HOq ⊢
          have hs3 := (HSs.out _ HBq.out).1
          have hs4 := (HSs.out _ HBq.out).2
          have hc3 := HX1.out _ HBq.out
          have hc4 := HX2.out _ HBq.out
          have hsz1 := HBq.out.size
          clear hw1 hs1 hs2 hc1 hc2
          go_wp2_with fail
          go_quiet (fail)
          have HBr := Lib.hid (below_dN HBq.out nq)
          have HOr := Lib.hid (ownsRow_drewN HOq.out nq)
          obtain ⟨w3, hw3⟩ : ∃ w3, w3 = w1.drewN nq := ⟨_, rfl⟩
          rw [← hw3] at HBr HOr ⊢
          have hc7 := HX1.out _ HBr.out
          have hc8 := HX2.out _ HBr.out
          have hsz3 := HBr.out.size
          clear hw3
          clear hs3 hs4 hc3 hc4
          have HBc := Lib.hid (HBr.out.alloc HBr.out.size (.cells #[.int .i64 t.1, .int .u64 t.2] 43))
          have HOc := Lib.hid (HOr.out.alloc (.cells #[.int .i64 t.1, .int .u64 t.2] 43))
          have hna : (w3.alloc (.cells #[.int .i64 t.1, .int .u64 t.2] 43)).cell? ⟨w3.heap.size, 0, none⟩ = some (.int .i64 t.1) := by unfold World.cell? World.alloc; simp
          have hnb : (w3.alloc (.cells #[.int .i64 t.1, .int .u64 t.2] 43)).cell? ⟨w3.heap.size, 1, none⟩ = some (.int .u64 t.2) := by unfold World.cell? World.alloc; simp
          have HNc := Lib.hid hna
          have HNd := Lib.hid hnb
          clear hna hnb
          go_wp2_with (at_builtin; go_loud (refine wp_app_stamp rfl (.tmp 38) (.tmp 43) rfl W0.heap.size (.slice oa om oc) om q t _ _ rfl rfl HOM.out HOc.out HBc.out.size (by omega) HNc.out HNd.out ?_); intro v4 w4 hown4 hgr4; obtain ⟨oa4, oc4, rfl, _, _⟩ := ownsSt_form hown4; have HO4 := Lib.hid hown4; have HG4 := Lib.hid hgr4; clear hown4 hgr4)
          have HB4 := Lib.hid (HBc.out.grown HG4.out HBc.out.size (fun j hj => (HOc.out.lt _ hj).1))
          have HOM4 : Hid (om + 1 = (q ++ [t]).length) := by show _ = _; have := HOM.out; simp; omega
          go_roundw
          case rel => exact ⟨n + 1, (q ++ [t]), true, oa4, om + 1, oc4, by omega, by omega, (by first | (intro h; cases h; done) | (intro _; omega)), by go_num, rfl, rfl, (by show _ = _; rw [HPt.out]; simp [HEq.out]), HOM4, HO4, HB4⟩
          case measure => simp [intOf]; omega
      | false =>
        have hom3 : om ≤ n := hom2 rfl
        clear hom2
        by_cases hle2 : s.1 ≤ t.1
        · have HLe := Lib.hid hle2
          by_cases heq : t.1 = s.1
          · have HEq := Lib.hid heq
            go_wp2_with fail
            go_quiet (fail)
            have HBq := Lib.hid (below_dN HB.out nq)
            have HOq := Lib.hid (ownsRow_drewN HO.out nq)
            obtain ⟨w1, hw1⟩ : ∃ w1, w1 = wo.drewN nq := ⟨_, rfl⟩
            rw [← hw1] at HBq HOq ⊢
            have hs3 := (HSs.out _ HBq.out).1
            have hs4 := (HSs.out _ HBq.out).2
            have hc3 := HX1.out _ HBq.out
            have hc4 := HX2.out _ HBq.out
            have hsz1 := HBq.out.size
            clear hw1 hs1 hs2 hc1 hc2
            have HBa := Lib.hid (HBq.out.alloc HBq.out.size (.cells #[.int .i64 s.1, .int .u64 s.2] 43))
            have HOa := Lib.hid (HOq.out.alloc (.cells #[.int .i64 s.1, .int .u64 s.2] 43))
            have hna : (w1.alloc (.cells #[.int .i64 s.1, .int .u64 s.2] 43)).cell? ⟨w1.heap.size, 0, none⟩ = some (.int .i64 s.1) := by unfold World.cell? World.alloc; simp
            have hnb : (w1.alloc (.cells #[.int .i64 s.1, .int .u64 s.2] 43)).cell? ⟨w1.heap.size, 1, none⟩ = some (.int .u64 s.2) := by unfold World.cell? World.alloc; simp
            have HNa := Lib.hid hna
            have HNb := Lib.hid hnb
            clear hna hnb
            go_wp2_with (at_builtin; go_loud (refine wp_app_stamp rfl (.tmp 26) (.tmp 28) rfl W0.heap.size (.slice oa om oc) om q s _ _ rfl rfl HOM.out HOa.out HBa.out.size (by omega) HNa.out HNb.out ?_); intro v2 w2 hown2 hgr2; obtain ⟨oa2, oc2, rfl, _, _⟩ := ownsSt_form hown2; have HO2 := Lib.hid hown2; have HG2 := Lib.hid hgr2; clear hown2 hgr2)
            have HB2 := Lib.hid (HBa.out.grown HG2.out HBa.out.size (fun j hj => (HOa.out.lt _ hj).1))
            have hs5 := (HSs.out _ HB2.out).1
            have hs6 := (HSs.out _ HB2.out).2
            have hc5 := HX1.out _ HB2.out
            have hc6 := HX2.out _ HB2.out
            have hsz2 := HB2.out.size
            clear hs3 hs4 hc3 hc4
            have HOM2 : Hid (om + 1 = (q ++ [s]).length) := by show _ = _; have := HOM.out; simp; omega
            go_quiet (fail)
            have HBr := Lib.hid (below_dN HB2.out nq)
            have HOr := Lib.hid (ownsRow_drewN HO2.out nq)
            obtain ⟨w3, hw3⟩ : ∃ w3, w3 = w2.drewN nq := ⟨_, rfl⟩
            rw [← hw3] at HBr HOr ⊢
            have hc7 := HX1.out _ HBr.out
            have hc8 := HX2.out _ HBr.out
            have hsz3 := HBr.out.size
            clear hw3
            clear hs5 hs6 hc5 hc6
            go_wp2_with fail
            go_roundw
            case rel => exact ⟨n + 1, (q ++ [s]), true, oa2, (om + 1), oc2, by omega, by omega, (by first | (intro h; cases h; done) | (intro _; omega)), by go_num, rfl, rfl, (by show _ = _; rw [HPt.out]; simp [HEq.out]), HOM2, HOr, HBr⟩
            case measure => simp [intOf]; omega
          · have HEq := Lib.hid heq
            go_wp2_with fail
            go_quiet (fail)
            have HBq := Lib.hid (below_dN HB.out nq)
            have HOq := Lib.hid (ownsRow_drewN HO.out nq)
            obtain ⟨w1, hw1⟩ : ∃ w1, w1 = wo.drewN nq := ⟨_, rfl⟩
            rw [← hw1] at HBq HOq ⊢
            have hs3 := (HSs.out _ HBq.out).1
            have hs4 := (HSs.out _ HBq.out).2
            have hc3 := HX1.out _ HBq.out
            have hc4 := HX2.out _ HBq.out
            have hsz1 := HBq.out.size
            clear hw1 hs1 hs2 hc1 hc2
            have HBa := Lib.hid (HBq.out.alloc HBq.out.size (.cells #[.int .i64 s.1, .int .u64 s.2] 43))
            have HOa := Lib.hid (HOq.out.alloc (.cells #[.int .i64 s.1, .int .u64 s.2] 43))
            have hna : (w1.alloc (.cells #[.int .i64 s.1, .int .u64 s.2] 43)).cell? ⟨w1.heap.size, 0, none⟩ = some (.int .i64 s.1) := by unfold World.cell? World.alloc; simp
            have hnb : (w1.alloc (.cells #[.int .i64 s.1, .int .u64 s.2] 43)).cell? ⟨w1.heap.size, 1, none⟩ = some (.int .u64 s.2) := by unfold World.cell? World.alloc; simp
            have HNa := Lib.hid hna
            have HNb := Lib.hid hnb
            clear hna hnb
            go_wp2_with (at_builtin; go_loud (refine wp_app_stamp rfl (.tmp 26) (.tmp 28) rfl W0.heap.size (.slice oa om oc) om q s _ _ rfl rfl HOM.out HOa.out HBa.out.size (by omega) HNa.out HNb.out ?_); intro v2 w2 hown2 hgr2; obtain ⟨oa2, oc2, rfl, _, _⟩ := ownsSt_form hown2; have HO2 := Lib.hid hown2; have HG2 := Lib.hid hgr2; clear hown2 hgr2)
            have HB2 := Lib.hid (HBa.out.grown HG2.out HBa.out.size (fun j hj => (HOa.out.lt _ hj).1))
            have hs5 := (HSs.out _ HB2.out).1
            have hs6 := (HSs.out _ HB2.out).2
            have hc5 := HX1.out _ HB2.out
            have hc6 := HX2.out _ HB2.out
            have hsz2 := HB2.out.size
            clear hs3 hs4 hc3 hc4
            have HOM2 : Hid (om + 1 = (q ++ [s]).length) := by show _ = _; have := HOM.out; simp; omega
            go_quiet (fail)
            have HBr := Lib.hid (below_dN HB2.out nq)
            have HOr := Lib.hid (ownsRow_drewN HO2.out nq)
            obtain ⟨w3, hw3⟩ : ∃ w3, w3 = w2.drewN nq := ⟨_, rfl⟩
            rw [← hw3] at HBr HOr ⊢
            have hc7 := HX1.out _ HBr.out
            have hc8 := HX2.out _ HBr.out
            have hsz3 := HBr.out.size
            clear hw3
            clear hs5 hs6 hc5 hc6
            have HBc := Lib.hid (HBr.out.alloc HBr.out.size (.cells #[.int .i64 t.1, .int .u64 t.2] 43))
            have HOc := Lib.hid (HOr.out.alloc (.cells #[.int .i64 t.1, .int .u64 t.2] 43))
            have hna : (w3.alloc (.cells #[.int .i64 t.1, .int .u64 t.2] 43)).cell? ⟨w3.heap.size, 0, none⟩ = some (.int .i64 t.1) := by unfold World.cell? World.alloc; simp
            have hnb : (w3.alloc (.cells #[.int .i64 t.1, .int .u64 t.2] 43)).cell? ⟨w3.heap.size, 1, none⟩ = some (.int .u64 t.2) := by unfold World.cell? World.alloc; simp
            have HNc := Lib.hid hna
            have HNd := Lib.hid hnb
            clear hna hnb
            go_wp2_with (at_builtin; go_loud (refine wp_app_stamp rfl (.tmp 38) (.tmp 43) rfl W0.heap.size (.slice oa2 (om + 1) oc2) (om + 1) (q ++ [s]) t _ _ rfl rfl HOM2.out HOc.out HBc.out.size (by omega) HNc.out HNd.out ?_); intro v4 w4 hown4 hgr4; obtain ⟨oa4, oc4, rfl, _, _⟩ := ownsSt_form hown4; have HO4 := Lib.hid hown4; have HG4 := Lib.hid hgr4; clear hown4 hgr4)
            have HB4 := Lib.hid (HBc.out.grown HG4.out HBc.out.size (fun j hj => (HOc.out.lt _ hj).1))
            have HOM4 : Hid ((om + 1) + 1 = ((q ++ [s]) ++ [t]).length) := by show _ = _; have := HOM.out; simp; omega
            go_roundw
            case rel => exact ⟨n + 1, ((q ++ [s]) ++ [t]), true, oa4, (om + 1) + 1, oc4, by omega, by omega, (by first | (intro h; cases h; done) | (intro _; omega)), by go_num, rfl, rfl, (by show _ = _; rw [HPt.out]; simp [HLe.out, HEq.out]), HOM4, HO4, HB4⟩
            case measure => simp [intOf]; omega
        · have HLe := Lib.hid hle2
          have heq : ¬ t.1 = s.1 := by omega
          have HEq := Lib.hid heq
          go_wp2_with fail
          go_quiet (fail)
          have HBq := Lib.hid (below_dN HB.out nq)
          have HOq := Lib.hid (ownsRow_drewN HO.out nq)
          obtain ⟨w1, hw1⟩ : ∃ w1, w1 = wo.drewN nq := ⟨_, rfl⟩
          rw [← hw1] at HBq HOq ⊢
          have hs3 := (HSs.out _ HBq.out).1
          have hs4 := (HSs.out _ HBq.out).2
          have hc3 := HX1.out _ HBq.out
          have hc4 := HX2.out _ HBq.out
          have hsz1 := HBq.out.size
          clear hw1 hs1 hs2 hc1 hc2
          go_wp2_with fail
          go_quiet (fail)
          have HBr := Lib.hid (below_dN HBq.out nq)
          have HOr := Lib.hid (ownsRow_drewN HOq.out nq)
          obtain ⟨w3, hw3⟩ : ∃ w3, w3 = w1.drewN nq := ⟨_, rfl⟩
          rw [← hw3] at HBr HOr ⊢
          have hc7 := HX1.out _ HBr.out
          have hc8 := HX2.out _ HBr.out
          have hsz3 := HBr.out.size
          clear hw3
          clear hs3 hs4 hc3 hc4
          have HBc := Lib.hid (HBr.out.alloc HBr.out.size (.cells #[.int .i64 t.1, .int .u64 t.2] 43))
          have HOc := Lib.hid (HOr.out.alloc (.cells #[.int .i64 t.1, .int .u64 t.2] 43))
          have hna : (w3.alloc (.cells #[.int .i64 t.1, .int .u64 t.2] 43)).cell? ⟨w3.heap.size, 0, none⟩ = some (.int .i64 t.1) := by unfold World.cell? World.alloc; simp
          have hnb : (w3.alloc (.cells #[.int .i64 t.1, .int .u64 t.2] 43)).cell? ⟨w3.heap.size, 1, none⟩ = some (.int .u64 t.2) := by unfold World.cell? World.alloc; simp
          have HNc := Lib.hid hna
          have HNd := Lib.hid hnb
          clear hna hnb
          go_wp2_with (at_builtin; go_loud (refine wp_app_stamp rfl (.tmp 38) (.tmp 43) rfl W0.heap.size (.slice oa om oc) om q t _ _ rfl rfl HOM.out HOc.out HBc.out.size (by omega) HNc.out HNd.out ?_); intro v4 w4 hown4 hgr4; obtain ⟨oa4, oc4, rfl, _, _⟩ := ownsSt_form hown4; have HO4 := Lib.hid hown4; have HG4 := Lib.hid hgr4; clear hown4 hgr4)
          have HB4 := Lib.hid (HBc.out.grown HG4.out HBc.out.size (fun j hj => (HOc.out.lt _ hj).1))
          have HOM4 : Hid (om + 1 = (q ++ [t]).length) := by show _ = _; have := HOM.out; simp; omega
          go_roundw
          case rel => exact ⟨n + 1, (q ++ [t]), false, oa4, om + 1, oc4, by omega, by omega, (by first | (intro h; cases h; done) | (intro _; omega)), by go_num, rfl, rfl, (by show _ = _; rw [HPt.out, if_neg HEq.out, decide_eq_false (Int.not_le.2 HLe.out)]; simp), HOM4, HO4, HB4⟩
          case measure => simp [intOf]; omega
    · have hdn : Hid (l.drop n = []) := by show _ = _; exact List.drop_eq_nil_of_le (by have := HL.out; omega)
      cases d with
      | true =>
        go_wp2_with fail
        first | go_ret2 | skip
        rw [← HR.out]
        have hq : p = q := by rw [← HP.out, HQ.out, hdn.out]; simp [putR]
        subst hq
        have hom := HOM.out
        subst hom
        exact ⟨_, rfl, ownsRow_leV HO.out (by have := HZ.out; omega), HB0.out.trans (HB.out.mono HB0.out.size)⟩
      | false =>
        have HBa := Lib.hid (HB.out.alloc HB.out.size (.cells #[.int .i64 s.1, .int .u64 s.2] 43))
        have HOa := Lib.hid (HO.out.alloc (.cells #[.int .i64 s.1, .int .u64 s.2] 43))
        have hna : (wo.alloc (.cells #[.int .i64 s.1, .int .u64 s.2] 43)).cell? ⟨wo.heap.size, 0, none⟩ = some (.int .i64 s.1) := by unfold World.cell? World.alloc; simp
        have hnb : (wo.alloc (.cells #[.int .i64 s.1, .int .u64 s.2] 43)).cell? ⟨wo.heap.size, 1, none⟩ = some (.int .u64 s.2) := by unfold World.cell? World.alloc; simp
        have HNa := Lib.hid hna
        have HNb := Lib.hid hnb
        clear hna hnb
        go_wp2_with (at_builtin; go_loud (refine wp_app_stamp rfl (.tmp 47) (.tmp 49) rfl W0.heap.size (.slice oa om oc) om q s _ _ rfl rfl HOM.out HOa.out HBa.out.size (by omega) HNa.out HNb.out ?_); intro v2 w2 hown2 hgr2; obtain ⟨oa2, oc2, rfl, _, _⟩ := ownsSt_form hown2; have HO2 := Lib.hid hown2; have HG2 := Lib.hid hgr2; clear hown2 hgr2)
        first | go_ret2 | skip
        rw [← HR.out]
        have hq : p = q ++ [s] := by rw [← HP.out, HQ.out, hdn.out]; simp [putR]
        subst hq
        have hom : om + 1 = (q ++ [s]).length := by have := HOM.out; simp; omega
        have hown := HO2.out
        have HB2 := HBa.out.grown HG2.out HBa.out.size (fun j hj => (HOa.out.lt _ hj).1)
        rw [hom] at hown ⊢
        exact ⟨_, rfl, ownsRow_leV hown (by have := HZ.out; omega), HB0.out.trans (HB2.mono HB0.out.size)⟩
end Go.Proofs.YtlmpaeefhpahoaaDoor
