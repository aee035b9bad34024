/-
  Walks: the reference's Order.
-/
import Derived.Test.YtlamhpiiikcpiaaGreatDoorRgJ
import Derived.Deep.CutBlock
namespace Go.Proofs.YtlamhpiiikcpiaaGreatDoor
open Go.RowKit Go.Shelf Go.Lib Go.Sort
set_option linter.unusedVariables false
set_option linter.unusedSectionVars false
/-- A part of a slice of rules. -/
theorem RdsR.part {ok : Nat → Prop} {w : World} {ad : Option Addr} {n cap : Nat} {L : List Rl} (h : RdsR ok w (.slice ad n cap) L) (l k : Nat) (hl : l ≤ k) (hk : k ≤ n) :
    RdsR ok w (.slice (if cap = l then ad else ad.map (·.add (l * 4))) (k - l) (cap - l)) ((L.take k).drop l) := by
  obtain ⟨xs, ad', n', cap', h1, h2, h3, h4, h5, h6, h7, h8⟩ := h
  injection h1 with e1 e2 e3
  subst e1 e2 e3
  have hlen : ((L.take k).drop l).length = k - l := by rw [List.length_drop, List.length_take]; omega
  refine ⟨(xs.take k).drop l, _, k - l, cap - l, rfl, hlen.symm, by rw [List.length_drop, List.length_take]; omega, ⟨by omega, ?_⟩, by omega, ?_, ?_, ?_⟩
  · intro hn
    split at hn
    · omega
    · cases ad with
      | none => have := h4.2 rfl; omega
      | some a => cases hn
  · intro a m c hv hm
    injection hv with e1 e2 _
    have hne : ¬ cap = l := by omega
    rw [if_neg hne] at e1
    cases ad with
    | none => cases e1
    | some a0 =>
      injection e1 with e1
      rw [← e1]
      have : (a0.add (l * 4)).block = a0.block := by unfold Addr.add; split <;> rfl
      rw [this]
      exact h6 a0 n cap rfl (by omega)
  · intro i hi
    rw [List.length_drop, List.length_take] at hi
    obtain ⟨b, off, rfl, hb, c0, c1, c2, c3⟩ := h7 (l + i) (by omega)
    have hne : ¬ cap = l := by omega
    have hx : ((xs.take k).drop l)[i]'(by rw [List.length_drop, List.length_take]; omega) = xs[l + i]'(by omega) := by simp
    rw [hx, if_neg hne]
    refine ⟨b, off + l * 4, ?_, hb, ?_, ?_, ?_, ?_⟩
    · show some ((⟨b, off, none⟩ : Addr).add (l * 4)) = _
      rw [Addr.add_lit]
    · rw [show off + l * 4 + i * 4 = off + (l + i) * 4 by omega]; exact c0
    · rw [show off + l * 4 + i * 4 + 1 = off + (l + i) * 4 + 1 by omega]; exact c1
    · rw [show off + l * 4 + i * 4 + 2 = off + (l + i) * 4 + 2 by omega]; exact c2
    · rw [show off + l * 4 + i * 4 + 3 = off + (l + i) * 4 + 3 by omega]; exact c3
  · intro i hi hi'
    rw [List.length_drop, List.length_take] at hi
    have hx : ((xs.take k).drop l)[i]'(by rw [List.length_drop, List.length_take]; omega) = xs[l + i]'(by omega) := by simp
    have hL : ((L.take k).drop l)[i]'hi' = L[l + i]'(by omega) := by simp
    rw [hx, hL]
    exact h8 (l + i) (by omega) (by omega)
theorem OwnR.below {ok : Nat → Prop} {w w' : World} {base : Nat} {v : Value} {xs : List RC} {L : List Rl} (h : OwnR ok w base v xs L) (hb : Below w.heap.size w w') : OwnR ok w' base v xs L :=
  ⟨ownsRow_below h.row hb, h.len, fun i h1 h2 => (h.rd i h1 h2).below hb⟩
theorem OwnR.toRds' {ok : Nat → Prop} {w : World} {base : Nat} {v : Value} {xs : List RC} {L : List Rl} (h : OwnR ok w base v xs L) : RdsR (fun b => base ≤ b ∨ ok b) w v L :=
  (⟨h.row, h.len, fun i h1 h2 => (h.rd i h1 h2).mono fun b hb => .inr hb⟩ : OwnR (fun b => base ≤ b ∨ ok b) w base v xs L).toRds fun b hb => .inl hb
theorem OwnR.le {ok : Nat → Prop} {w : World} {base base' : Nat} {v : Value} {xs : List RC} {L : List Rl} (h : OwnR ok w base v xs L) (hb : base' ≤ base) : OwnR ok w base' v xs L := ⟨ownsRow_le h.row hb, h.len, h.rd⟩
theorem OwnR.mono {ok ok' : Nat → Prop} {w : World} {base : Nat} {v : Value} {xs : List RC} {L : List Rl} (h : OwnR ok w base v xs L) (hk : ∀ b, ok b → ok' b) : OwnR ok' w base v xs L := ⟨h.row, h.len, fun i h1 h2 => (h.rd i h1 h2).mono hk⟩
theorem St.isort_snoc {α : Type} {lt : α → α → Bool} (l : List α) (x : α) : St.isort lt (l ++ [x]) = St.insL lt (St.isort lt l) x := by
  unfold St.isort
  rw [St.mrg_append]
  rfl
/-- A place from which all stand behind x, none ahead of it does: where it goes in. -/
theorem insert_at {lt : Rl → Rl → Bool} (hO : SWO lt) {S : List Rl} {x : Rl} (hs : St.Srd lt S) (k : Nat) (hk : k ≤ S.length) (h1 : ∀ j (h : j < S.length), k ≤ j → lt x S[j] = true) (h2 : ∀ j (h : j < S.length), j + 1 = k → lt x S[j] = false) :
    St.insL lt S x = S.take k ++ [x] ++ S.drop k := by
  have := St.insL_at (lt := lt) (u1 := S.take k) (u2 := S.drop k) (x := x) ?_ ?_
  · rw [List.take_append_drop] at this; exact this
  · intro y hy
    obtain ⟨j, hj, hjk, rfl⟩ := mem_take_get hy
    have hk1 : k - 1 < S.length := by omega
    have h3 := h2 (k - 1) hk1 (by omega)
    by_cases e : j = k - 1
    · subst e; exact h3
    · exact hO.ntrans _ _ _ h3 (srd_get hs hj hk1 (by omega))
  · intro y hy
    obtain ⟨j, hj, hjk, rfl⟩ := mem_drop_get hy
    exact h1 j hj hjk
theorem cellsR_drop : ∀ (xs : List RC) (l : Nat), cellsR (xs.drop l) = (cellsR xs).drop (l * 4)
  | [], l => by simp [cellsR]
  | x :: xs, 0 => by simp
  | x :: xs, l + 1 => by
    rw [List.drop_succ_cons, cellsR_drop xs l, cellsR_cons, show (l + 1) * 4 = 4 + l * 4 by omega, ← List.drop_drop, List.drop_left' (encR_len x)]
theorem cellsR_take : ∀ (xs : List RC) (l : Nat), cellsR (xs.take l) = (cellsR xs).take (l * 4)
  | [], l => by simp [cellsR]
  | x :: xs, 0 => by simp [cellsR]
  | x :: xs, l + 1 => by
    rw [List.take_succ_cons, cellsR_cons, cellsR_take xs l, cellsR_cons, show (l + 1) * 4 = (encR x).length + l * 4 by rw [encR_len]; omega, List.take_length_add_append]
/-- A part of a row of the call's own, told by its cells. -/
theorem OwnR.part {okp : Nat → Prop} {w : World} {base n c : Nat} {ad : Option Addr} {xs : List RC} {S : List Rl} (h : OwnR okp w base (.slice ad n c) xs S) (hn : S.length = n) (l k : Nat) (hl : l ≤ k) (hk : k ≤ n) :
    ((xs.take k).drop l).length = ((S.take k).drop l).length ∧ (∀ p, (if c = l then ad else ad.map (·.add (l * 4))) = some p → ∀ j u, (cellsR ((xs.take k).drop l))[j]? = some u → w.cell? (p.add j) = some u) ∧
      ((if c = l then ad else ad.map (·.add (l * 4))) = none → k - l = 0 ∧ c - l = 0) ∧ (∀ i (h1 : i < ((xs.take k).drop l).length) (h2 : i < ((S.take k).drop l).length), RdC okp w ((xs.take k).drop l)[i] ((S.take k).drop l)[i]) ∧ n ≤ c := by
  obtain ⟨⟨h1, h2⟩, h3, h4⟩ := h
  have hlen : xs.length = n := h3.trans hn
  refine ⟨by simp only [List.length_drop, List.length_take, h3], ?_, ?_, ?_, ?_⟩
  · intro p hp j u hj
    have hj4 := (List.getElem?_eq_some_iff.1 hj).1
    rw [cellsR_length, List.length_drop, List.length_take] at hj4
    rcases h2 with ⟨e, e2⟩ | ⟨g, cap, cur, hv, hg, hh, hnn, hc, hs, ht⟩
    · omega
    · injection hv with e1 e2 e3
      subst e1 e3
      have hne : ¬ c = l := by omega
      rw [if_neg hne] at hp
      have hp' : (⟨g, 0, none⟩ : Addr).add (l * 4) = p := Option.some.inj hp
      rw [← hp', Addr.add_lit, Addr.add_lit, Nat.zero_add]
      rw [cellsR_drop, cellsR_take, List.getElem?_drop, List.getElem?_take_of_lt (by omega)] at hj
      rw [← ht, List.getElem?_take_of_lt (by rw [hn]; omega)] at hj
      simp only [World.cell?, hh]
      simpa using hj
  · intro hn0
    rcases h2 with ⟨e, e2⟩ | ⟨g, cap, cur, hv, _⟩
    · injection e with e1 _ e3
      omega
    · injection hv with e1 _ _
      subst e1
      split at hn0 <;> cases hn0
  · intro i hi hi'
    rw [List.length_drop, List.length_take] at hi
    have hx : ((xs.take k).drop l)[i]'(by rw [List.length_drop, List.length_take]; omega) = xs[l + i]'(by omega) := by simp
    have hL : ((S.take k).drop l)[i]'hi' = S[l + i]'(by omega) := by simp
    rw [hx, hL]
    exact h4 (l + i) (by omega) (by omega)
  · rcases h2 with ⟨e, e2⟩ | ⟨g, cap, cur, hv, hg, hh, hnn, hc, hs, ht⟩
    · injection e with _ _ e3; omega
    · injection hv with _ _ e3; omega
theorem dr_heap (w : World) : w.drew.heap = w.heap := rfl
theorem al_heap (w : World) (o : Obj) : (w.alloc o).heap = w.heap.push o := rfl
theorem ownsSt_formR {w : World} {b : Nat} {e : TypeId} {k : Nat} {ad : Option Addr} {n m c : Nat} {xs : List Value} (h : w.ownsRow b e k (.slice ad n c) m xs) : n ≤ c ∧ c ≤ 9223372036854775807 := by
  rcases h.2 with ⟨h1, h2⟩ | ⟨g, cap, cur, hv, _, _, h3, h4, _⟩
  · injection h1 with _ e2 e3; omega
  · injection hv with _ e2 e3; unfold maxLen at h4; omega
theorem cell_lt {w : World} {p : Addr} {u : Value} (h : w.cell? p = some u) : p.block < w.heap.size := by
  rcases Nat.lt_or_ge p.block w.heap.size with h2 | h2
  · exact h2
  · simp [World.cell?, Array.getElem?_eq_none h2] at h
theorem own0 {ok : Nat → Prop} {W : World} {g base : Nat} (h : W.heap[g]? = some (.cells #[] 47 (0, 0))) (hg : base ≤ g) : OwnR ok W base (.slice (some ⟨g, 0, none⟩) 0 0) [] [] :=
  ⟨⟨rfl, .inr ⟨g, 0, #[], rfl, hg, h, Nat.le_refl _, Nat.zero_le _, rfl, rfl⟩⟩, rfl, fun i h => absurd h (Nat.not_lt_zero _)⟩
theorem grown_heap {w w' : World} {row : Option Nat} (hg : w.grownBy w' row) {k : Nat} {o : Obj} (h : w.heap[k]? = some o) (hr : row ≠ some k) : w'.heap[k]? = some o := by
  rw [hg.block k ?_ (fun e => hr e.symm)]
  · exact h
  · rcases Nat.lt_or_ge k w.heap.size with h2 | h2
    · exact h2
    · simp [Array.getElem?_eq_none h2] at h
theorem ahead_rd2 {ok ok' : Nat → Prop} {w w' : World} {x y : RC} {r s : Rl} (h1 : RdC ok w x r) (h2 : RdC ok' w' y s) : aheadC x y = Rp.aheadR r s := by
  unfold aheadC Rp.aheadR
  rw [h1.p, h1.m, h2.p, h2.m]
theorem cell_grn {w W : World} (hG : Below w.heap.size w W) {p : Addr} {u : Value} (hp : p.block < w.heap.size) (hc : w.cell? p = some u) : ∀ (nn : Nat) (os : Array Obj), (grow (W.drewN nn) os).cell? p = some u := by
  intro nn os
  rw [cell?_grow (W.drewN nn) os p (Nat.lt_of_lt_of_le hp hG.size)]
  exact (hG.cell hp).trans hc
theorem rAhead_grown (x y : RC) (q : Bool) (hq : aheadC x y = q) (w : World) :
    Calls Tryz.prog 59 #[.agg #[.int .i64 x.p, .string x.m, .int .i64 x.k, .slice x.a x.n x.c], .agg #[.int .i64 y.p, .string y.m, .int .i64 y.k, .slice y.a y.n y.c]] w fun e w' => e = .returned (.bool q) ∧ ∃ n os, w' = grow (w.drewN n) os := rAhead_any x y w q hq
set_option maxHeartbeats 12800000 in
set_option maxRecDepth 20000 in
theorem rOrder_rules (ok : Nat → Prop) (v : Value) (L : List Rl) (w : World) (hr : RdsR ok w v L) (hn : L.length * 56 ≤ 140737488355328) :
    Calls Tryz.prog 31 #[v] w fun e w' => ∃ v', e = .returned v' ∧ RdsR (fun b => w.heap.size ≤ b ∨ (ok b ∧ b < w.heap.size)) w' v' (St.isort Rp.aheadR L) ∧ Below w.heap.size w w' := by
  have HR := Lib.hid hr.lt
  obtain ⟨n, hnl⟩ : ∃ n, n = L.length := ⟨_, rfl⟩
  have HN : Hid (n = L.length) := hnl
  have hnb : n * 56 ≤ 140737488355328 := by rw [hnl]; exact hn
  obtain ⟨ad0, cap0, rfl, hnc, hcm⟩ := hr.form
  rw [← hnl] at HR hnc ⊢
  unfold maxLen at hcm
  clear hr hn hnl
  go_enter Tryz.func31, Tryz.ntmps31
  go_wp2_with fail
  go_loopw [3, 4] (fun s3 s4 wr => ∃ (i : Nat) (ad : Option Addr) (c : Nat) (xs : List RC) (S : List Rl), s4 = .int .i64 i ∧ s3 = .slice ad i c ∧ i ≤ n ∧ i ≤ c ∧ c ≤ 9223372036854775807 ∧ Hid (S = St.isort Rp.aheadR (L.take i)) ∧ Hid (S.length = i) ∧ Hid (OwnR (fun b => ok b ∧ b < w.heap.size) wr w.heap.size (.slice ad i c) xs S) ∧ Hid (Below w.heap.size w wr)) (fun _ s4 _ => n - (intOf s4).toNat)
  case atStart => exact ⟨0, none, 0, [], [], rfl, rfl, Nat.zero_le _, Nat.le_refl _, Nat.zero_le _, rfl, rfl, ownR_nil _ _ _, Below.refl _ _⟩
  case round =>
    obtain ⟨wo, rfl⟩ : ∃ wo : World, wo = wr := ⟨wr, rfl⟩
    obtain ⟨i, ad, c, xs, S, rfl, rfl, hin, hic, hcc, HS, HSl, HO, HB⟩ := hrel
    by_cases hlt : i < n
    · have hiL : i < L.length := by rw [← HN.out]; exact hlt
      obtain ⟨b, off, x, rfl, hb, hokb, c0, c1, c2, c3, hrd⟩ := HR.out.get i hiL
      obtain ⟨r, hr⟩ : ∃ r, L[i] = r := ⟨_, rfl⟩
      rw [hr] at hrd
      have HRr := Lib.hid hr
      have HX := Lib.hid hrd
      have HC := Lib.hid (show w.cell? ⟨b, off + i * 4, none⟩ = some (.int .i64 x.p) ∧ w.cell? ⟨b, off + i * 4 + 1, none⟩ = some (.string x.m) ∧ w.cell? ⟨b, off + i * 4 + 2, none⟩ = some (.int .i64 x.k) ∧ w.cell? ⟨b, off + i * 4 + 3, none⟩ = some (.slice x.a x.n x.c) from ⟨c0, c1, c2, c3⟩)
      clear hr hrd c0 c1 c2 c3 hokb
      go_upto_block 2 with fail
      go_cut [5] (fun s5 wc => ∃ k : Nat, s5 = .int .i64 k ∧ k ≤ i ∧ Hid (∀ j (h : j < S.length), k ≤ j → Rp.aheadR r S[j] = true) ∧ Hid (∀ j (h : j < S.length), j + 1 = k → Rp.aheadR r S[j] = false) ∧ Hid (Grn wo wc))
      case first => as_aux_lemma =>
        go_wp2_with fail
        go_loopw [5] (fun s5 wr => ∃ k : Nat, s5 = .int .i64 k ∧ k ≤ i ∧ Hid (∀ j (h : j < S.length), k ≤ j → Rp.aheadR r S[j] = true) ∧ Hid (Grn wo wr)) (fun s5 _ => (intOf s5).toNat)
        case atStart => exact ⟨i, rfl, Nat.le_refl _, (fun j h h2 => by have := HSl.out; omega : ∀ j (h : j < S.length), i ≤ j → Rp.aheadR r S[j] = true), Grn.refl _⟩
        case round =>
          obtain ⟨wv, rfl⟩ : ∃ wv : World, wv = wr := ⟨wr, rfl⟩
          obtain ⟨k, rfl, hki, HK, HG⟩ := hrel
          have hbv : Below w.heap.size w wv := HB.out.trans (HG.out.below.mono HB.out.size)
          by_cases hk0 : k = 0
          · subst hk0
            clear hbv
            go_wp2_with fail
            go_quiet (fail)
            go_wp2_with fail
            go_meet
            case rel => exact ⟨0, rfl, Nat.zero_le _, HK, (fun j h h2 => absurd h2 (by omega) : ∀ j (h : j < S.length), j + 1 = 0 → Rp.aheadR r S[j] = false), HG.out.drewN _⟩
          · obtain ⟨k1, rfl⟩ : ∃ k1, k = k1 + 1 := ⟨k - 1, by omega⟩
            have hkS : k1 < S.length := by rw [HSl.out]; omega
            have hO := HO.out
            have hrow := hO.row
            rw [HSl.out] at hrow
            obtain ⟨g, cp, hgv, hg1, hg2⟩ := hrow.form (by omega)
            injection hgv with e1 e2 e3
            subst e1 e3
            have hkx : k1 < xs.length := by rw [hO.len]; exact hkS
            obtain ⟨y, hy⟩ : ∃ y, xs[k1] = y := ⟨_, rfl⟩
            obtain ⟨g0, g1, g2, g3⟩ := cellsR_get xs k1 hkx
            rw [hy] at g0 g1 g2 g3
            have y0 := cell_grn (p := ⟨g, k1 * 4, none⟩) HG.out.below hg2 ((hrow.cellAt _ (by omega)).trans g0)
            have y1 := cell_grn (p := ⟨g, k1 * 4 + 1, none⟩) HG.out.below hg2 ((hrow.cellAt _ (by omega)).trans g1)
            have y2 := cell_grn (p := ⟨g, k1 * 4 + 2, none⟩) HG.out.below hg2 ((hrow.cellAt _ (by omega)).trans g2)
            have y3 := cell_grn (p := ⟨g, k1 * 4 + 3, none⟩) HG.out.below hg2 ((hrow.cellAt _ (by omega)).trans g3)
            have x0 := cell_grn (p := ⟨b, off + i * 4, none⟩) hbv hb HC.out.1
            have x1 := cell_grn (p := ⟨b, off + i * 4 + 1, none⟩) hbv hb HC.out.2.1
            have x2 := cell_grn (p := ⟨b, off + i * 4 + 2, none⟩) hbv hb HC.out.2.2.1
            have x3 := cell_grn (p := ⟨b, off + i * 4 + 3, none⟩) hbv hb HC.out.2.2.2
            have hkz : ((k1 + 1 : Nat) : Int) - 1 = (k1 : Int) := by omega
            have hkpos : (0 : Int) < (k1 : Int) + 1 := by omega
            have hkpos' : decide ((0 : Int) < (k1 : Int) + 1) = true := decide_eq_true hkpos
            have hki2 : (k1 : Int) < (i : Int) := by omega
            have hyr := hO.rd k1 hkx hkS
            rw [hy] at hyr
            obtain ⟨q, hq⟩ : ∃ q, aheadC x y = q := ⟨_, rfl⟩
            have HQ : Hid (Rp.aheadR r S[k1] = q) := by show _ = _; rw [← hq, ahead_rd2 HX.out hyr]
            have HAh := Lib.hid (fun W => rAhead_grown x y q hq W)
            have hkw : IntKind.i64.wrap (k1 : Int) = (k1 : Int) := IntWalk.i64_in _ (by omega)
            have mixed : Tryz.prog.follows .mixedOrders = true := by kernel_rfl
            clear hO hrow g0 g1 g2 g3 hy hyr hq hbv e2 hk0
            cases q with
            | true =>
              go_wp2_with fail
              go_quiet_grown (first | (go_at_call 59; refine Calls.grown_of (HAh.out _)))
              go_wp2_with fail
              go_roundw
              case rel => exact ⟨k1, by first | rfl | go_num, by omega, (fun j h h2 => by
                by_cases e : j = k1
                · subst e; exact HQ.out
                · exact HK.out j h (by omega) : ∀ j (h : j < S.length), k1 ≤ j → Rp.aheadR r S[j] = true), HG.out.grow _ _⟩
              case measure => simp [intOf]
            | false =>
              go_wp2_with fail
              go_quiet_grown (first | (go_at_call 59; refine Calls.grown_of (HAh.out _)))
              go_wp2_with fail
              go_meet
              case rel => exact ⟨k1 + 1, by first | rfl | go_num, by omega, HK, (fun j h h2 => by
                obtain rfl : j = k1 := by omega
                exact HQ.out : ∀ j (h : j < S.length), j + 1 = k1 + 1 → Rp.aheadR r S[j] = false), HG.out.grow _ _⟩
      case rest => as_aux_lemma =>
        obtain ⟨wk, rfl⟩ : ∃ wk : World, wk = wc := ⟨wc, rfl⟩
        obtain ⟨k, rfl, hki, HK, HK2, HG⟩ := hcut
        have hbc : Below w.heap.size w wk := HB.out.trans (HG.out.below.mono HB.out.size)
        have xc0 := (hbc.cell (p := ⟨b, off + i * 4, none⟩) hb).trans HC.out.1
        have xc1 := (hbc.cell (p := ⟨b, off + i * 4 + 1, none⟩) hb).trans HC.out.2.1
        have xc2 := (hbc.cell (p := ⟨b, off + i * 4 + 2, none⟩) hb).trans HC.out.2.2.1
        have xc3 := (hbc.cell (p := ⟨b, off + i * 4 + 3, none⟩) hb).trans HC.out.2.2.2
        have HO2 := Lib.hid (HO.out.below HG.out.below)
        obtain ⟨hyl1, hyc1, hnil1, hyr1, _⟩ := HO2.out.part HSl.out 0 k (Nat.zero_le _) (by omega)
        have htl : ((S.take k).drop 0).length = k := by rw [List.drop_zero, List.length_take, HSl.out]; omega
        have hyc2 : ∀ p, ad = some p → ∀ j u, (cellsR ((xs.take k).drop 0))[j]? = some u → wk.cell? (p.add j) = some u := fun p hp j u hj => hyc1 p (by
          rw [hp]
          split
          · rfl
          · show some (p.add (0 * 4)) = some p
            obtain ⟨pb, po, pm⟩ := p
            unfold Addr.add; split <;> simp_all) j u hj
        have hnil2 : ad = none → k = 0 ∧ c = 0 := fun e => by
          have := hnil1 (by rw [e]; split <;> rfl)
          omega
        have HY : Hid (∀ W, Below wk.heap.size wk W → ∀ p, ad = some p → ∀ j u, (cellsR ((xs.take k).drop 0))[j]? = some u → W.cell? (p.add j) = some u) := fun W hW p hp j u hj => by
          have := hyc2 p hp j u hj
          exact (hW.cell (cell_lt this)).trans this
        have HYr : Hid (∀ W, Below wk.heap.size wk W → ∀ i (h1 : i < ((xs.take k).drop 0).length) (h2 : i < ((S.take k).drop 0).length), RdC (fun b => ok b ∧ b < w.heap.size) W ((xs.take k).drop 0)[i] ((S.take k).drop 0)[i]) := fun W hW i h1 h2 => (hyr1 i h1 h2).below hW
        have HXr : Hid (∀ W, Below wk.heap.size wk W → RdC (fun b => ok b ∧ b < w.heap.size) W x r) := fun W hW => (HX.out.below hbc).below hW
        have HYl := Lib.hid hyl1
        have HYn := Lib.hid hnil2
        have HTl := Lib.hid htl
        have HBc := Lib.hid hbc
        have hwc := hbc.size
        have hbwc : b < wk.heap.size := by omega
        have hkc : (k : Int) ≤ (c : Int) := by omega
        clear hyl1 hyc1 hnil1 hyr1 htl hbc hyc2 hnil2
        generalize (xs.take k).drop 0 = ys1 at HY HYl HYr
        generalize hS1 : (S.take k).drop 0 = S1 at HYl HYr HTl
        have HS1 := Lib.hid hS1
        clear hS1
        go_upto_region 8 with fail
        go_cut [6] (fun s6 wx => ∃ (ad3 : Option Addr) (c3 : Nat) (ys3 : List RC), s6 = .slice ad3 (k + 1) c3 ∧ Hid (OwnR (fun b => ok b ∧ b < w.heap.size) wx wk.heap.size (.slice ad3 (k + 1) c3) ys3 (S1 ++ [r])) ∧ Hid (Below wk.heap.size wk wx))
        case first => as_aux_lemma =>
          go_region_held3 (fun W => W.cell? ⟨b, off + i * 4, none⟩ = some (.int .i64 x.p) ∧ W.cell? ⟨b, off + i * 4 + 1, none⟩ = some (.string x.m) ∧ W.cell? ⟨b, off + i * 4 + 2, none⟩ = some (.int .i64 x.k) ∧ W.cell? ⟨b, off + i * 4 + 3, none⟩ = some (.slice x.a x.n x.c)) (first | go_keep | exact ⟨xc0, xc1, xc2, xc3⟩ | exact ⟨(HBW3.out.cell (p := ⟨b, off + i * 4, none⟩) hbwc).trans xc0, (HBW3.out.cell (p := ⟨b, off + i * 4 + 1, none⟩) hbwc).trans xc1, (HBW3.out.cell (p := ⟨b, off + i * 4 + 2, none⟩) hbwc).trans xc2, (HBW3.out.cell (p := ⟨b, off + i * 4 + 3, none⟩) hbwc).trans xc3⟩ | exact ⟨(HBW.out.cell (p := ⟨b, off + i * 4, none⟩) hbwc).trans xc0, (HBW.out.cell (p := ⟨b, off + i * 4 + 1, none⟩) hbwc).trans xc1, (HBW.out.cell (p := ⟨b, off + i * 4 + 2, none⟩) hbwc).trans xc2, (HBW.out.cell (p := ⟨b, off + i * 4 + 3, none⟩) hbwc).trans xc3⟩)
            (first
              | ((refine step_app_cells rfl (.tmp 31) (.tmp 34) (by rfl) wk.heap.size (fun b => ok b ∧ b < w.heap.size) _ [] [] (by rfl) (own0 (by first | (simp [dr_heap, al_heap, Array.getElem?_push]; done) | (simp only [dr_heap, al_heap, Array.getElem?_push, Array.size_push]; done) | (simp only [dr_heap, al_heap, Array.getElem?_push, Array.size_push]; simp; done) | (simp only [dr_heap, al_heap, Array.getElem?_push, Array.size_push]; rw [if_neg (by omega), if_pos rfl])) (by simp <;> omega)) ad k c ys1 S1 (by rfl) HTl.out.symm HYl.out (HY.out _ (by repeat (first | (with_reducible exact Below.refl _ _) | (with_reducible refine Below.drew ?_) | (with_reducible refine Below.alloc ?_ (by simp <;> omega) _)))) HYn.out (HYr.out _ (by repeat (first | (with_reducible exact Below.refl _ _) | (with_reducible refine Below.drew ?_) | (with_reducible refine Below.alloc ?_ (by simp <;> omega) _)))) (fun b hb e => by have h2 := hb.2; have e2 := Option.some.inj e; simp at e2; omega) k (by rw [HTl.out]; simp) (by omega) (by simp <;> omega) ?_); intro ad1 c1 w1 ho1 hg1; have HO1 := Lib.hid ho1; have HG1 := Lib.hid hg1; have HBW := Lib.hid (Below.grown (B := wk.heap.size) (a := wk) (by repeat (first | (with_reducible exact Below.refl _ _) | (with_reducible refine Below.drew ?_) | (with_reducible refine Below.alloc ?_ (by simp <;> omega) _))) hg1 (by simp <;> omega) (fun k hk => by have e2 := Option.some.inj hk; simp at e2; omega)); clear ho1 hg1)
              | ((refine step_app_cells rfl (.tmp 35) (.tmp 40) (by rfl) wk.heap.size (fun b => ok b ∧ b < w.heap.size) _ _ _ (by rfl) (by first | exact HO1.out | exact HO1.out.below ((Below.refl _ _).alloc (Nat.le_refl _) _)) _ 1 1 [x] [r] (by rfl) rfl rfl (one_cells (e := 47) (by first | exact heap_alloc_new w1 _ | exact grown_heap HG1.out (by first | (simp [dr_heap, al_heap, Array.getElem?_push]; done) | (simp only [dr_heap, al_heap, Array.getElem?_push, Array.size_push]; done) | (simp only [dr_heap, al_heap, Array.getElem?_push, Array.size_push]; simp; done) | (simp only [dr_heap, al_heap, Array.getElem?_push, Array.size_push]; rw [if_neg (by omega), if_pos rfl])) (fun e => by have e2 := Option.some.inj e; simp at e2 <;> omega))) (fun e => by cases e) (one_rdC (HXr.out _ (by first | exact HBW.out | exact HBW.out.alloc HBW.out.size _))) (fun b hb e => by have h2 := hb.2; have h3 := (HO1.out.row.lt b e).1; omega) (k + 1) (by rw [List.length_append, HTl.out]; simp) (by omega) (by have := HBW.out.size; simp; try omega) ?_); intro ad3 c3 w3 ho3 hg3; have HO3 := Lib.hid ho3; have HBW3 := Lib.hid (Below.grown (B := wk.heap.size) (a := wk) (by first | exact HBW.out | exact HBW.out.alloc HBW.out.size _) hg3 (by have := HBW.out.size; simp; try omega) (fun k hk => (HO1.out.row.lt k hk).1)); clear ho3 hg3))
          all_goals
            go_wp2_with fail
            go_meet
            case rel => exact ⟨ad3, c3, _, rfl, HO3, HBW3⟩
        case rest => as_aux_lemma =>
          obtain ⟨ad3, c3, ys3, rfl, HO3, HBW3⟩ := hcut
          obtain ⟨hpl, hpc, hpn, hpr, _⟩ := (HO2.out.below HBW3.out).part HSl.out k i hki (Nat.le_refl _)
          have HPl := Lib.hid hpl
          have HPc := Lib.hid hpc
          have HPn := Lib.hid hpn
          have HPr := Lib.hid hpr
          have hpm : ((S.take i).drop k).length = i - k := by rw [List.length_drop, List.length_take, HSl.out]; omega
          have HPm := Lib.hid hpm
          have hki' : (k : Int) ≤ (i : Int) := by omega
          have hS1l : (S1 ++ [r]).length = k + 1 := by rw [List.length_append, HTl.out]; rfl
          have HS1l := Lib.hid hS1l
          have HBwx : Hid (Below w.heap.size w wk) := HBc
          have hF : S1 ++ [r] ++ (S.take i).drop k = St.isort Rp.aheadR (L.take (i + 1)) := by
            have e1 : S.take i = S := List.take_of_length_le (by rw [HSl.out]; omega)
            have e2 : L.take (i + 1) = L.take i ++ [r] := by rw [List.take_succ_eq_append_getElem hiL, HRr.out]
            have hsr : St.Srd Rp.aheadR S := by rw [HS.out]; exact St.srd_isort swoR _
            rw [e1, ← HS1.out, List.drop_zero, e2, St.isort_snoc, ← HS.out]
            exact (insert_at swoR hsr k (by rw [HSl.out]; exact hki) HK.out HK2.out).symm
          have HF := Lib.hid hF
          have HFl : Hid ((S1 ++ [r] ++ (S.take i).drop k).length = i + 1) := by show _ = _; rw [List.length_append, hS1l, hpm]; omega
          clear hpl hpc hpn hpr hpm hS1l hF
          go_upto_region 9 with fail
          go_wp2_with (at_builtin; go_loud (refine wpList_plain rfl (fun _ hK => wp_app_cells (.tmp 42) (.tmp 45) rfl wk.heap.size (fun b => ok b ∧ b < w.heap.size) _ ys3 (S1 ++ [r]) (by rfl) HO3.out _ (i - k) (c - k) ((xs.take i).drop k) ((S.take i).drop k) (by rfl) HPm.out.symm HPl.out HPc.out HPn.out HPr.out (fun b hb e => by have h2 := hb.2; have h3 := (HO3.out.row.lt b e).1; omega) (i + 1) (by rw [HS1l.out, HPm.out]; omega) (by omega) HBW3.out.size (fun ad4 c4 w4 ho4 hg4 => hK _ _ ?_))); have HO4 := Lib.hid ho4; have HB4 := Lib.hid (Below.grown HBW3.out hg4 HBW3.out.size (fun k hk => (HO3.out.row.lt k hk).1)); clear ho4 hg4)
          have HO5 : Hid (OwnR (fun b => ok b ∧ b < w.heap.size) w4 w.heap.size (.slice ad4 (i + 1) c4) (ys3 ++ (xs.take i).drop k) (S1 ++ [r] ++ (S.take i).drop k)) := HO4.out.le hwc
          have HB5 : Hid (Below w.heap.size w w4) := HBc.out.trans (HB4.out.mono hwc)
          have hf5 := ownsSt_formR HO5.out.row
          go_roundw
          case rel => exact ⟨i + 1, ad4, c4, _, S1 ++ [r] ++ (S.take i).drop k, by first | rfl | go_num, rfl, by omega, hf5.1, hf5.2, HF, HFl, HO5, HB5⟩
          case measure => simp [intOf]; omega
    · have HF : Hid (S = St.isort Rp.aheadR L) := by
        show _ = _
        rw [HS.out, List.take_of_length_le (by have := HN.out; omega)]
      go_wp2_with fail
      go_ret
      refine ⟨_, rfl, ?_, HB.out⟩
      rw [← HF.out]
      exact HO.out.toRds'
end Go.Proofs.YtlamhpiiikcpiaaGreatDoor
