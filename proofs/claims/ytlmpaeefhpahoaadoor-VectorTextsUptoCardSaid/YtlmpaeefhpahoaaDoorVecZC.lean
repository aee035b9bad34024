/-
  Walks: Get, the code's and the reference's; slices.Clone.
-/
import Derived.Lib.SliceRun
import Derived.Test.YtlmpaeefhpahoaaDoorVecZB
namespace Go.Proofs.YtlmpaeefhpahoaaDoor
open Go.RowKit

/-- What Get answers. -/
def getOf (l : List Stp) (d : Int) : Int × Bool × Int := if chk l then ((lk l d).getD 0, (lk l d).isSome, 0) else (0, false, 160)

set_option maxHeartbeats 1600000 in
set_option maxRecDepth 20000 in
theorem Get_any (v : Value) (l : List Stp) (d : Int) (w : World) (hr : RdsP w v l) (a : Int) (b : Bool) (q : Int) (hg : getOf l d = (a, b, q)) :
    Calls Tryd.prog 24 #[v, .int .i64 d] w fun e w' => e = .returned (.tuple #[.int .u64 a, .bool b, .int .i64 q]) ∧ Below w.heap.size w w' := by
  have HBe := Lib.hid ((Below.refl w.heap.size w).alloc (Nat.le_refl _) (.cells #[v] 24))
  have HC := Lib.hid (Check_any _ _ _ (rdsL_one 24 hr) (codeOf (chk l)) (by simp))
  have HRd := Lib.hid hr
  have HG := Lib.hid hg
  clear hg
  cases hc : chk l with
  | false =>
    rw [hc] at HC
    have HG' : Hid ((a, b, q) = (0, false, 160)) := by show _ = _; rw [← HG.out]; unfold getOf; rw [hc]; rfl
    obtain ⟨ad, len, cap, rfl, hl⟩ := hr
    clear hl hc
    go_enter Tryd.func24, Tryd.ntmps24
    go_wp2_with fail
    refine HC.out.mono ?_
    rintro e w1 ⟨rfl, hb1⟩
    have HB1 := Lib.hid (HBe.out.trans (hb1.mono (by simp)))
    clear hb1
    have HK : Hid (codeOf false = 160) := rfl
    rw [HK.out]
    go_wp2_with fail
    first | go_ret3 | skip
    obtain ⟨rfl, h2⟩ := Prod.mk.inj HG'.out
    obtain ⟨rfl, rfl⟩ := Prod.mk.inj h2
    exact ⟨rfl, HB1.out⟩
  | true =>
    rw [hc] at HC
    have HK : Hid (codeOf true = 0) := rfl
    have HG' : Hid ((a, b, q) = ((lk l d).getD 0, (lk l d).isSome, 0)) := by show _ = _; rw [← HG.out]; unfold getOf; rw [hc]; rfl
    obtain ⟨m, hm⟩ : ∃ m, pos l d = m := ⟨_, rfl⟩
    cases hk : lk l d with
    | none =>
      have HF := Lib.hid (fun W h => find_any v l d W h (chk_srt hc) (by have := srt_len hc; omega) m hm false (by rw [hk]; rfl))
      rw [hk] at HG'
      obtain ⟨ad, len, cap, rfl, hl⟩ := hr
      clear hl hc hm hk
      go_enter Tryd.func24, Tryd.ntmps24
      go_wp2_with fail
      refine HC.out.mono ?_
      rintro e w1 ⟨rfl, hb1⟩
      have HB1 := Lib.hid (HBe.out.trans (hb1.mono (by simp)))
      have HR1 := Lib.hid (HRd.out.below HB1.out)
      clear hb1
      rw [HK.out]
      go_wp2_with fail
      refine (HF.out _ HR1.out).mono ?_
      rintro e w2 ⟨rfl, hb2⟩
      have HB2 := Lib.hid (HB1.out.trans (hb2.mono HB1.out.size))
      clear hb2
      go_wp2_with fail
      first | go_ret3 | skip
      obtain ⟨rfl, h2⟩ := Prod.mk.inj HG'.out
      obtain ⟨rfl, rfl⟩ := Prod.mk.inj h2
      exact ⟨rfl, HB2.out⟩
    | some z =>
      have HF := Lib.hid (fun W h => find_any v l d W h (chk_srt hc) (by have := srt_len hc; omega) m hm true (by rw [hk]; rfl))
      have hmz : m < l.length ∧ ∀ h : m < l.length, l[m] = (d, z) := by
        have h1 := lk_pos l d (chk_srt hc)
        rw [hk] at h1
        simp only [hm] at h1
        split at h1
        · rename_i h2
          refine ⟨h2, fun _ => ?_⟩
          split at h1
          · rename_i h3
            injection h1 with h1
            exact Prod.ext h3 h1.symm
          · cases h1
        · cases h1
      obtain ⟨hm1, hm2⟩ := hmz
      rw [hk] at HG'
      obtain ⟨ad, len, cap, rfl, hl, hlm, hel⟩ := hr
      have hml : m < len := by omega
      obtain ⟨b0, off, rfl, hb, hcell, hcell'⟩ := hel m hm1
      rw [hm2 hm1] at hcell'
      have HCz : Hid (∀ W, Below w.heap.size w W → W.cell? ⟨b0, off + m * 2 + 1, none⟩ = some (.int .u64 z)) := fun W h => (h.cell (p := ⟨b0, off + m * 2 + 1, none⟩) hb).trans hcell'
      unfold maxLen at hlm
      clear hl hc hm hk hel hm1 hm2 hcell hcell'
      go_enter Tryd.func24, Tryd.ntmps24
      go_wp2_with fail
      refine HC.out.mono ?_
      rintro e w1 ⟨rfl, hb1⟩
      have HB1 := Lib.hid (HBe.out.trans (hb1.mono (by simp)))
      have HR1 := Lib.hid (HRd.out.below HB1.out)
      clear hb1
      rw [HK.out]
      go_wp2_with fail
      refine (HF.out _ HR1.out).mono ?_
      rintro e w2 ⟨rfl, hb2⟩
      have HB2 := Lib.hid (HB1.out.trans (hb2.mono HB1.out.size))
      have hz2 := HCz.out _ HB2.out
      clear hb2
      go_wp2_with fail
      first | go_ret3 | skip
      obtain ⟨rfl, h2⟩ := Prod.mk.inj HG'.out
      obtain ⟨rfl, rfl⟩ := Prod.mk.inj h2
      exact ⟨rfl, HB2.out⟩

set_option maxHeartbeats 1600000 in
set_option maxRecDepth 20000 in
theorem GetR_any (v : Value) (l : List Stp) (d : Int) (w : World) (hr : RdsP w v l) (a : Int) (b : Bool) (q : Int) (hg : getOf l d = (a, b, q)) :
    Calls Tryd.prog 25 #[v, .int .i64 d] w fun e w' => e = .returned (.tuple #[.int .u64 a, .bool b, .int .i64 q]) ∧ Below w.heap.size w w' := by
  have HBe := Lib.hid ((Below.refl w.heap.size w).alloc (Nat.le_refl _) (.cells #[v] 24))
  have HC := Lib.hid (CheckR_any _ _ _ (rdsL_one 24 hr) (codeOf (chk l)) (by simp))
  have HRd := Lib.hid hr
  have HF := Lib.hid (fun W h => findR_any v l d W h _ _ rfl rfl)
  have HG := Lib.hid hg
  clear hg
  cases hc : chk l with
  | false =>
    rw [hc] at HC
    have HG' : Hid ((a, b, q) = (0, false, 160)) := by show _ = _; rw [← HG.out]; unfold getOf; rw [hc]; rfl
    obtain ⟨ad, len, cap, rfl, hl⟩ := hr
    clear hl hc
    go_enter Tryd.func25, Tryd.ntmps25
    go_wp2_with fail
    refine HC.out.mono ?_
    rintro e w1 ⟨rfl, k, rfl⟩
    have HK : Hid (codeOf false = 160) := rfl
    rw [HK.out]
    go_wp2_with fail
    first | go_ret3 | skip
    obtain ⟨rfl, h2⟩ := Prod.mk.inj HG'.out
    obtain ⟨rfl, rfl⟩ := Prod.mk.inj h2
    exact ⟨rfl, below_dN HBe.out k⟩
  | true =>
    rw [hc] at HC
    have HK : Hid (codeOf true = 0) := rfl
    have HG' : Hid ((a, b, q) = ((lk l d).getD 0, (lk l d).isSome, 0)) := by show _ = _; rw [← HG.out]; unfold getOf; rw [hc]; rfl
    obtain ⟨ad, len, cap, rfl, hl⟩ := hr
    clear hl hc
    generalize (lk l d).getD 0 = A0 at HF HG'
    generalize (lk l d).isSome = B0 at HF HG'
    go_enter Tryd.func25, Tryd.ntmps25
    go_wp2_with fail
    refine HC.out.mono ?_
    rintro e w1 ⟨rfl, k, rfl⟩
    have HB1 := Lib.hid (below_dN HBe.out k)
    have HR1 := Lib.hid (HRd.out.below HB1.out)
    rw [HK.out]
    go_wp2_with fail
    refine (HF.out _ HR1.out).mono ?_
    rintro e w2 ⟨rfl, rfl⟩
    go_wp2_with fail
    first | go_ret3 | skip
    obtain ⟨rfl, h2⟩ := Prod.mk.inj HG'.out
    obtain ⟨rfl, rfl⟩ := Prod.mk.inj h2
    exact ⟨rfl, HB1.out⟩

/-- The cells of a slice that reads as stamps. -/
theorem rdsP_cells {w : World} {ad : Addr} {n cap : Nat} {l : List Stp} (h : RdsP w (.slice (some ad) n cap) l) : ∀ j u, (cellsV l)[j]? = some u → w.cell? (ad.add j) = some u := by
  obtain ⟨a', n', c', hv, hn, _, hel⟩ := h
  obtain ⟨rfl, rfl, rfl⟩ : some ad = a' ∧ n = n' ∧ cap = c' := by simpa using hv
  intro j u hj
  have hjl : j < l.length * 2 := by rw [← cellsV_length]; exact (List.getElem?_eq_some_iff.1 hj).1
  obtain ⟨b, off, hb, _, h1, h2⟩ := hel (j / 2) (by omega)
  obtain rfl : ad = ⟨b, off, none⟩ := by simpa using hb
  rw [Addr.add_lit]
  obtain ⟨g1, g2⟩ := cellsV_get l (j / 2) (by omega)
  rcases Nat.mod_two_eq_zero_or_one j with hm | hm
  · have e : j / 2 * 2 = j := by omega
    rw [e] at g1 h1
    rw [hj] at g1
    rw [h1, ← g1]
  · have e : j / 2 * 2 + 1 = j := by omega
    rw [e] at g2
    rw [Nat.add_assoc, e] at h2
    rw [hj] at g2
    rw [h2, ← g2]

/-- append of a slice that reads as stamps onto a row of the call's own. -/
theorem wp_app_all {w : World} {ops : Array Oper} {rest : List Oper} {o : Oper} {a : Act} {Q : Exit → Act → World → Prop} (hgd : o.guard = none) (s x : Operand)
    (ho : o.op = .call { callee := .builtin .append, args := #[s, x], argTypes := #[24, 24] })
    (base : Nat) (v : Value) (n : Nat) (xs l : List Stp) (ad : Addr) (m c : Nat) (hs : a.eval s = v) (hx : a.eval x = .slice (some ad) m c) (hr : RdsP w (.slice (some ad) m c) l)
    (hown : w.ownsRow base 43 2 v n (cellsV xs)) (hbase : base ≤ w.heap.size) (hn : n + m ≤ 8796093022208)
    (h : ∀ v' w', w'.ownsRow base 43 2 v' (n + m) (cellsV (xs ++ l)) → w.grownBy w' v.ownBlock → wpList Tryd.prog ops Q rest (a.put o.dst v') w') : wpList Tryd.prog ops Q (o :: rest) a w := by
  obtain ⟨i0, hi, hz0, hz1, hz2⟩ := info_parts infoSt
  have hml : m = l.length := by
    obtain ⟨a', n', c', hv, hn, _⟩ := hr
    have : m = n' := by injection hv
    omega
  refine wpList_append_own w hgd s x 24 ho base 43 i0 _ 2 16 Tryd.underlying24 hi hz0 hz1 hz2 rfl (by decide) v n (cellsV xs) hs hown ad m c (cellsV l) hx (by rw [cellsV_length, hml])
    (rdsP_cells hr) (cellsV_one _) (by unfold maxLen; omega) (by omega) hbase fun v' w' h1 h2 _ => h v' w' (by rw [cellsV_append]; exact h1) h2

set_option maxHeartbeats 1600000 in
set_option maxRecDepth 20000 in
theorem Clone_any (v : Value) (l : List Stp) (w : World) (hr : RdsP w v l) (hlen : l.length ≤ 4096) :
    Calls Tryd.prog 41 #[v] w fun e w' => ∃ v', e = .returned v' ∧ w'.ownsRow w.heap.size 43 2 v' l.length (cellsV l) ∧ Below w.heap.size w w' := by
  have HRd := Lib.hid hr
  obtain ⟨ad, len, cap, rfl, hl, _, hel⟩ := hr
  generalize hR : (fun (e : Ending) (w' : World) => ∃ v', e = .returned v' ∧ w'.ownsRow w.heap.size 43 2 v' l.length (cellsV l) ∧ Below w.heap.size w w') = R
  have HR := Lib.hid hR
  clear hR
  cases ad with
  | none =>
    have HE : Hid (l = []) := by
      cases l with
      | nil => rfl
      | cons a r =>
        obtain ⟨_, _, h, _⟩ := hel 0 (by simp)
        cases h
    clear hl hel
    have hnn : ∀ W : World, (binOp .eql 24 (.slice none len cap) (.slice none 0 0)).run Tryd.prog W = .ok (.bool true) W := fun W => Lib.run_eql_slice_nil W _ _ _ _ _ _ _ Tryd.underlying24
    go_enter Tryd.func41, Tryd.ntmps41
    go_wp2_with fail
    first | go_ret2 | skip
    rw [← HR.out]
    refine ⟨_, rfl, ?_, Below.refl _ _⟩
    rw [HE.out]
    exact World.ownsRow_nil _ _ _ _
  | some ad =>
    have hle : len ≤ 4096 := by omega
    have HL := Lib.hid hl
    have HB0 := Lib.hid ((Below.refl w.heap.size w).alloc (Nat.le_refl _) (.cells #[] 43))
    have HR0 := Lib.hid (HRd.out.below HB0.out)
    have HO0 : Hid ((w.alloc (.cells #[] 43)).ownsRow w.heap.size 43 2 (.slice (some ⟨w.heap.size, 0, none⟩) 0 0) 0 (cellsV [])) := by
      refine ⟨rfl, .inr ⟨w.heap.size, 0, #[], rfl, Nat.le_refl _, by unfold World.alloc; simp, Nat.le_refl _, Nat.zero_le _, rfl, rfl⟩⟩
    clear hl hel hlen
    have hnn : ∀ W : World, (binOp .eql 24 (.slice (some ad) len cap) (.slice none 0 0)).run Tryd.prog W = .ok (.bool false) W := fun W => Lib.run_eql_slice_nil W _ _ _ _ _ _ _ Tryd.underlying24
    go_enter Tryd.func41, Tryd.ntmps41
    go_wp2_with (at_builtin; go_loud (refine wp_app_all rfl (.tmp 5) (.tmp 6) rfl w.heap.size _ 0 [] l ad len cap rfl rfl HR0.out HO0.out (by simp) (by omega) ?_); intro v' w1 hown hgr; obtain ⟨oa, oc, rfl, _, _⟩ := ownsSt_form hown; have HO1 := Lib.hid hown; have HG1 := Lib.hid hgr; clear hown hgr)
    first | go_ret2 | skip
    rw [← HR.out]
    have h1 := HO1.out
    have hl := HL.out
    rw [Nat.zero_add] at h1
    subst hl
    exact ⟨_, rfl, by simpa using h1, HB0.out.grown HG1.out (by simp) (fun j hj => (HO0.out.lt _ hj).1)⟩
end Go.Proofs.YtlmpaeefhpahoaaDoor
