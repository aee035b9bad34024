/-
  Walks: rules.Order.
-/
import Derived.Test.YtlbelkjgaeaaeaaGreatRulF
namespace Go.Proofs.YtlbelkjgaeaaeaaGreat
open Go.RowKit Go.Shelf Go.Lib Go.Sort
set_option linter.unusedVariables false
set_option linter.unusedSectionVars false

theorem ins_nil (fv : Value) (w : World) : Calls Tryz.prog 95 #[.slice none 0 0, .int .i64 0, .int .i64 0, fv] w fun e w' => e = .returned (.tuple #[]) ∧ w = w' := by
  go_enter Tryz.func95, Tryz.ntmps95
  go_wp2_with fail
  go_loop [8] (fun k => k = .int .i64 1) (fun k => 0)
  case atStart => rfl
  case round =>
    subst hrel
    go_wp2_with fail
    go_end0
    exact ⟨rfl, rfl⟩

theorem stable_nil (fv : Value) (w : World) : Calls Tryz.prog 84 #[.slice none 0 0, .int .i64 0, fv] w fun e w' => e = .returned (.tuple #[]) ∧ w = w' := by
  have HI := Lib.hid (fun W => ins_nil fv W)
  go_enter Tryz.func84, Tryz.ntmps84
  go_wp2_with fail
  go_loop [7, 8] (fun a b => a = .int .i64 0 ∧ b = .int .i64 20) (fun a b => 0)
  case atStart => exact ⟨rfl, rfl⟩
  case round =>
    obtain ⟨rfl, rfl⟩ := hrel
    go_wp2_with ((with_reducible refine (HI.out _).mono ?_); rintro e w' ⟨rfl, rfl⟩)
    go_loop [6] (fun a => a = .int .i64 20) (fun a => 0)
    case atStart => rfl
    case round =>
      subst hrel
      go_wp2_with fail
      go_end0
      exact ⟨rfl, rfl⟩

theorem sort_nil (fv : Value) (w : World) : Calls Tryz.prog 75 #[.slice none 0 0, fv] w fun e w' => e = .returned (.tuple #[]) ∧ w = w' := by
  have HI := Lib.hid (fun W => stable_nil fv W)
  go_enter Tryz.func75, Tryz.ntmps75
  go_wp2_with fail
  refine (HI.out _).mono ?_
  rintro e w2 ⟨rfl, rfl⟩
  go_wp2_with fail
  go_end0
  exact ⟨rfl, rfl⟩

/-- Any row of rules, empty ones too. -/
theorem sortRules_any {ok : Nat → Prop} {w : World} {base cap : Nat} {ad : Option Addr} {xs : List RC} {L : List Rl} (h : OwnR ok w base (.slice ad L.length cap) xs L) (hok : ∀ g, (Value.slice ad L.length cap).ownBlock = some g → ¬ ok g) (hL : L.length < 2305843009213693952) :
    Calls Tryz.prog 75 #[.slice ad L.length cap, .func (.func 76) #[] #[]] w fun e w' => e = .returned (.tuple #[]) ∧ RdsR (fun b => base ≤ b ∨ ok b) w' (.slice ad L.length cap) (St.isort Rp.aheadR L) ∧ Below base w w' := by
  rcases h.row.2 with ⟨h1, h2⟩ | ⟨g, cap', cur, hv, hg, hr⟩
  · injection h1 with e1 e2 e3
    subst e1 e3
    rw [e2]
    have : L = [] := List.length_eq_zero_iff.1 e2
    subst this
    refine (sort_nil _ w).mono ?_
    rintro e w' ⟨rfl, rfl⟩
    exact ⟨rfl, rdsR_nil _ _, Below.refl _ _⟩
  · injection hv with e1 e2 e3
    subst e1 e3
    refine (sortRules h (fun b hb e => hok g rfl (by rw [← e]; exact hb)) hL).mono ?_
    rintro e w' ⟨rfl, hr', hb⟩
    have hlt := (h.row.lt g rfl).2
    exact ⟨rfl, hr'.mono (fun b hb => hb.imp (fun e => by omega) id), hb.toBelow (by omega) (fun k hk => by omega)⟩

theorem cellsR_set {l : List RC} {i : Nat} (h : i < l.length) (a : Option Addr) (n c : Nat) : (cellsR l).set (i * 4 + 3) (.slice a n c) = cellsR (l.set i { l[i] with a := a, n := n, c := c }) := by
  induction l generalizing i with
  | nil => exact absurd h (Nat.not_lt_zero _)
  | cons x l ih =>
    cases i with
    | zero => simp [cellsR_cons, encR]
    | succ i =>
      have h' : i < l.length := by simpa using h
      have := ih h'
      rw [cellsR_cons, List.set_append_right _ _ (by rw [encR_len]; omega), encR_len, show (i + 1) * 4 + 3 - 4 = i * 4 + 3 by omega, this]
      simp [cellsR_cons]

set_option maxHeartbeats 1600000 in
set_option maxRecDepth 20000 in
theorem order_rules (ok : Nat → Prop) (v : Value) (L : List Rl) (w : World) (hr : RdsR ok w v L) (hn : L.length * 56 ≤ 140737488355328) :
    Calls Tryz.prog 61 #[v] w fun e w' => ∃ v', e = .returned v' ∧ RdsR (fun b => w.heap.size ≤ b) w' v' (St.isort Rp.aheadR L) ∧ Below w.heap.size w w' := by
  have HR := Lib.hid hr
  have HCl := Lib.hid (fun W h => cloneR_any ok v L W h hn)
  obtain ⟨n, hnl⟩ : ∃ n, n = L.length := ⟨_, rfl⟩
  have HN : Hid (n = L.length) := hnl
  have hnb : n * 56 ≤ 140737488355328 := by rw [hnl]; exact hn
  have HSo := Lib.hid (fun (ok : Nat → Prop) (w : World) (base cap : Nat) (ad : Option Addr) (xs : List RC) (h : OwnR ok w base (.slice ad L.length cap) xs L) (hok : ∀ g, (Value.slice ad L.length cap).ownBlock = some g → ¬ ok g) => sortRules_any h hok (show L.length < 2305843009213693952 by omega))
  rw [← hnl] at HCl HSo
  obtain ⟨ad0, cap0, rfl, _, _⟩ := hr.form
  clear hr hn hnl
  go_enter Tryz.func61, Tryz.ntmps61
  go_wp2_with fail
  refine (HCl.out w HR.out).mono ?_
  rintro e w1 ⟨ad, c, xs, rfl, hown, hb1⟩
  have HO1 := Lib.hid hown
  have HB1 := Lib.hid hb1
  clear hown hb1
  go_wp2_with fail
  have hgl := HO1.out.row.lt
  have HGL := Lib.hid hgl
  clear hgl
  go_loopw [4, 9] (fun s4 s9 wr => ∃ x4 : Value, ∃ i : Nat, ∃ ys : List RC, s4 = x4 ∧ s9 = .int .i64 i ∧ i ≤ n ∧ Hid (wr.ownsRow w.heap.size 62 4 (.slice ad n c) n (cellsR ys)) ∧ Hid (ys.length = n) ∧
    Hid (∀ j (h : j < ys.length) (h' : j < L.length), RdC (fun b => (j < i ∧ w1.heap.size ≤ b) ∨ (i ≤ j ∧ ok b ∧ b < w.heap.size)) wr ys[j] L[j]) ∧ Hid (Below w.heap.size w wr) ∧ Hid (w1.heap.size ≤ wr.heap.size)) (fun _ s9 _ => n - (intOf s9).toNat)
  case atStart => exact ⟨_, 0, xs, rfl, rfl, Nat.zero_le _, (by have := HO1.out.row; rw [← HN.out] at this; exact this : w1.ownsRow w.heap.size 62 4 (.slice ad n c) n (cellsR xs)), HO1.out.len.trans HN.out.symm, (fun j h h' => (HO1.out.rd j h h').mono (fun b hb => .inr ⟨Nat.zero_le _, hb⟩) : ∀ j (h : j < xs.length) (h' : j < L.length), RdC (fun b => (j < 0 ∧ w1.heap.size ≤ b) ∨ (0 ≤ j ∧ ok b ∧ b < w.heap.size)) w1 xs[j] L[j]), HB1, Nat.le_refl _⟩
  case round =>
    obtain ⟨wo, rfl⟩ : ∃ wo : World, wo = wr := ⟨wr, rfl⟩
    obtain ⟨x4, i, ys, rfl, rfl, hin, HOw, HYl, HRd, HBw, HSz⟩ := hrel
    by_cases hlt : i < n
    · obtain ⟨g, cp, hgv, _, _⟩ := HOw.out.form (by omega)
      injection hgv with e1 e2 e3
      subst e1 e3
      have hiy : i < ys.length := by rw [HYl.out]; exact hlt
      have hiL : i < L.length := by rw [← HN.out]; exact hlt
      have hcc : wo.cell? ⟨g, i * 4 + 2 + 1, none⟩ = some (.slice ys[i].a ys[i].n ys[i].c) := by
        rw [HOw.out.cellAt (i * 4 + 2 + 1) (by omega)]; exact (cellsR_get ys i hiy).2.2.2
      have hrd := HRd.out i hiy hiL
      have HSs := Lib.hid hrd.s.1
      have hpn := hrd.z.n
      have HCS := Lib.hid (fun W (hq : RdsS W (.slice ys[i].a ys[i].n ys[i].c) L[i].ps) => cloneS_any _ _ W hq hpn)
      have HYI := Lib.hid (show ys[i] = ys[i] from rfl)
      clear hrd hpn e2
      go_wp2_with fail
      refine (HCS.out wo HSs.out).mono ?_
      rintro e w2 ⟨ad2, c2, rfl, hrd2, hb2⟩
      have hiL : i < L.length := by rw [← HN.out]; exact hlt
      have how2 := ownsRow_below HOw.out hb2
      have hcc2 : w2.cell? ⟨g, i * 4 + 2 + 1, none⟩ = some (.slice ys[i].a ys[i].n ys[i].c) := by
        rw [how2.cellAt (i * 4 + 2 + 1) (by omega)]; exact (cellsR_get ys i hiy).2.2.2
      have hfz2 : w2.frozen? ⟨g, i * 4 + 2 + 1, none⟩ = false := how2.frozenAt _
      have hst := how2.stored (i * 4 + 3) (.slice ad2 L[i].ps.length c2)
      have hgw := HGL.out g rfl
      have HNew : Hid ((w2.setCell ⟨g, i * 4 + 2 + 1, none⟩ (.slice ad2 L[i].ps.length c2)).ownsRow w.heap.size 62 4 (.slice (some ⟨g, 0, none⟩) n c) n (cellsR (ys.set i { ys[i] with a := ad2, n := L[i].ps.length, c := c2 }))) := by
        have := hst.1
        rw [cellsR_set hiy] at this
        exact this
      have hbut : But (fun b => b = g) w2 (w2.setCell ⟨g, i * 4 + 2 + 1, none⟩ (.slice ad2 L[i].ps.length c2)) := But.set (S := fun b => b = g) (a := ⟨g, i * 4 + 2 + 1, none⟩) rfl _
      have HRd2 : Hid (∀ j (h : j < (ys.set i { ys[i] with a := ad2, n := L[i].ps.length, c := c2 }).length) (h' : j < L.length), RdC (fun b => (j < i + 1 ∧ w1.heap.size ≤ b) ∨ (i + 1 ≤ j ∧ ok b ∧ b < w.heap.size)) (w2.setCell ⟨g, i * 4 + 2 + 1, none⟩ (.slice ad2 L[i].ps.length c2)) (ys.set i { ys[i] with a := ad2, n := L[i].ps.length, c := c2 })[j] L[j]) := by
        intro j h h'
        have h0 : j < ys.length := by simpa using h
        by_cases hji : j = i
        · subst hji
          rw [List.getElem_set_self]
          have hrd := HRd.out j h0 h'
          refine ⟨hrd.p, hrd.m, hrd.k, ?_, hrd.z⟩
          refine (hrd2.but hbut (fun b hb e => ?_)).mono (fun b hb => .inl ⟨by omega, by have := HSz.out; omega⟩)
          have := HSz.out
          omega
        · rw [List.getElem_set_ne (fun e => hji e.symm)]
          have hrd := (HRd.out j h0 h').below hb2
          refine (hrd.but hbut (fun b hb e => ?_)).mono (fun b hb => hb.imp (fun h => ⟨by omega, h.2⟩) (fun h => ⟨by omega, h.2⟩))
          rcases hb with hb | hb <;> omega
      have HBw2 : Hid (Below w.heap.size w (w2.setCell ⟨g, i * 4 + 2 + 1, none⟩ (.slice ad2 L[i].ps.length c2))) := (HBw.out.trans (hb2.mono HBw.out.size)).setCell hgw.1 _
      have HSz2 : Hid (w1.heap.size ≤ (w2.setCell ⟨g, i * 4 + 2 + 1, none⟩ (.slice ad2 L[i].ps.length c2)).heap.size) := by
        have h1 := HSz.out
        have h2 := hb2.size
        have h3 := hbut.size
        show _ ≤ _
        omega
      have HYl2 : Hid ((ys.set i { ys[i] with a := ad2, n := L[i].ps.length, c := c2 }).length = n) := by show _ = _; rw [List.length_set]; exact HYl.out
      clear hrd2 hb2 how2 hst hbut hgw hcc
      go_wp2_with fail
      go_roundw
      case rel => exact ⟨_, i + 1, _, rfl, by first | rfl | go_num, by omega, HNew, HYl2, HRd2, HBw2, HSz2⟩
      case measure => simp [intOf]; omega
    · have hin' : i = n := by omega
      have HRd3 : Hid (∀ j (h : j < ys.length) (h' : j < L.length), RdC (fun b => w1.heap.size ≤ b) wo ys[j] L[j]) := fun j h h' => (HRd.out j h h').mono (fun b hb => by
        have := HN.out
        rcases hb with hb | hb
        · exact hb.2
        · omega)
      have hO : OwnR (fun b => w1.heap.size ≤ b) wo w.heap.size (.slice ad n c) ys L := ⟨by rw [← HN.out]; exact HOw.out, HYl.out.trans HN.out, HRd3.out⟩
      have HS1 := Lib.hid (HSo.out _ _ _ _ _ _ hO (fun g hg h => by have := (HGL.out g hg).2; omega))
      clear hO hin'
      go_wp2_with fail
      refine HS1.out.mono ?_
      rintro e w3 ⟨rfl, hr3, hb3⟩
      have HB3 : Hid (Below w.heap.size w w3) := HBw.out.trans hb3
      have HR3 := Lib.hid (hr3.mono (ok' := fun b => w.heap.size ≤ b) (fun b hb => by have := HB1.out.size; rcases hb with hb | hb <;> omega))
      clear hr3 hb3
      go_wp2_with fail
      go_ret
      exact ⟨_, rfl, HR3.out, HB3.out⟩
end Go.Proofs.YtlbelkjgaeaaeaaGreat
