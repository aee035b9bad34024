/-
  A region that draws its order and stores nothing that it loads: what it loads is held all along; what is held may become more.
-/
import Derived.Test.YtlamhpiiikcpiaaGreatDoorRgC
import Derived.Test.YtlamhpiiikcpiaaGreatDoorRgO
import Derived.Test.YtlamhpiiikcpiaaGreatDoorShelfC
import Derived.Test.YtlamhpiiikcpiaaGreatDoorRgE
import Derived.Test.YtlamhpiiikcpiaaGreatDoorRgI
import Derived.Lib.AppendIntMem
namespace Go
section
variable {P : Program} {ops : Array Oper} {Q : Exit → Act → World → Prop} {md : Region.Mode} {S : World → Prop} {z : Nat}
/-- An operation that yields its value in every world that meets S; number z is none. -/
theorem wpAnyG_firstA {i : Nat} {oi : Oper} {v : Value} (hi : ops[i]? = some oi) (hz : ops[z]? = none) (hsel : ∀ (j : Nat) (o : Oper) cs b, ops[j]? = some o → o.op ≠ .select cs b)
    (hQ : ∀ c a w, Q (.panic c) (a.put oi.dst v) w → Q (.panic c) a w) :
    ∀ (fuel : Nat) (listed : Array Bool) (a : Act) (w : World), listed.getD z false = false →
      (∀ j oj, ops[j]? = some oj → j ≠ i → listed.getD j true = false → (∀ e ∈ oj.after, Region.binds md e = true → e.on ≠ i) → oi.apart ops oj = true) →
      i ∈ Region.ready md ops listed → YieldsIf P ops S oi v a → S w →
      wpAnyG P md ops Q S z fuel (listed.setIfInBounds i true) (a.put oi.dst v) w → wpAnyG P md ops Q S z (fuel + 1) listed a w := by
  have hiz : i ≠ z := by
    intro e
    subst e
    rw [hz] at hi
    cases hi
  intro fuel
  induction fuel with
  | zero =>
    intro listed a w _ _ hr hy hS H
    refine ⟨fun h => (by rw [h] at hr; cases hr), fun j hj => ?_⟩
    by_cases hji : j = i
    · subst hji; exact hy.wpOp hi hS ⟨fun _ => hS, H⟩
    · have := ready_mono hj hji
      rw [H.1] at this
      cases this
  | succ fuel ih =>
    intro listed a w hz0 hfree hr hy hS H
    refine ⟨fun h => (by rw [h] at hr; cases hr), fun j hj => ?_⟩
    by_cases hji : j = i
    · subst hji; exact hy.wpOp hi hS ⟨fun _ => hS, H⟩
    · have h1 := H.2 j (ready_mono hj hji)
      obtain ⟨hjun, oj, hoj, hall⟩ := mem_ready.1 hj
      have hnot := not_ready_of (mem_ready.1 hr).1 hall
      have hjz : j ≠ z := by
        intro e
        subst e
        rw [hz] at hoj
        cases hoj
      have h2 := wpOp_putIf hoj (hfree j oj hoj hji hjun hnot) (fun cs b => hsel i oi cs b hi) (fun cs b => hsel j oj cs b hoj) hQ hy h1
      have hfree' : ∀ k ok, ops[k]? = some ok → k ≠ i → (listed.setIfInBounds j true).getD k true = false →
          (∀ e ∈ ok.after, Region.binds md e = true → e.on ≠ i) → oi.apart ops ok = true := fun k ok hk hki hun hno => by
        refine hfree k ok hk hki ?_ hno
        by_cases hjk : j = k
        · subst hjk; exact hjun
        · rw [getD_set_ne true hjk] at hun; exact hun
      have hc : (listed.setIfInBounds j true).setIfInBounds i true = (listed.setIfInBounds i true).setIfInBounds j true := Array.setIfInBounds_comm _ _ hji
      have hzj : (listed.setIfInBounds j true).getD z false = false := by rw [getD_set_ne false hjz]; exact hz0
      have hzij : ((listed.setIfInBounds i true).setIfInBounds j true).getD z false = false := by rw [← hc, getD_set_ne false hiz]; exact hzj
      refine wpOp_mono (fun a' w' h3 => ⟨fun _ => h3.2.1 hzij, ih (listed.setIfInBounds j true) a' w' hzj hfree' (ready_mono hr (Ne.symm hji)) h3.1 (h3.2.1 hzij) ?_⟩) h2
      rw [hc]
      exact h3.2.2
def Region.okA (md : Region.Mode) (ops : Array Oper) (z : Nat) (listed : Array Bool) (i : Nat) : Bool :=
  Region.okP md ops z listed i && ops[z]?.isNone && !listed.getD z false
/-- Take number i first: a load of what S tells. -/
theorem wpAnyG_takeA (i : Nat) {oi : Oper} {v : Value} {fuel : Nat} {listed : Array Bool} {a : Act} {w : World} (hi : ops[i]? = some oi) (hb : Region.okA md ops z listed i = true)
    (hQ : ∀ c a w, Q (.panic c) (a.put oi.dst v) w → Q (.panic c) a w) (hw : Region.wanted oi (yielded ops a.tmps) = true) (hy : ∀ w, S w → (execOp a.eval oi).run P w = .ok (.value v) w) (hS : S w)
    (h : wpAnyG P md ops Q S z fuel (listed.setIfInBounds i true) (a.put oi.dst v) w) : wpAnyG P md ops Q S z (fuel + 1) listed a w := by
  simp only [Region.okA, Region.okP, Bool.and_eq_true, bne_iff_ne, Bool.not_eq_true', Option.isNone_iff_eq_none] at hb
  obtain ⟨⟨⟨⟨⟨h1, h2⟩, h3⟩, h4⟩, h5⟩, h6⟩ := hb
  exact wpAnyG_firstA hi h5 (Region.noSelect_spec h1) hQ fuel listed a w h6 (Region.free_spec hi h2) (by simpa using h3) (.inl ⟨hw, hy⟩) hS h
end
end Go
/-
  Walks over package rules: an action's words; a rule's words and its line, as plain data.
-/
namespace Go
section
variable {P : Program} {ops : Array Oper} {Q : Exit → Act → World → Prop} {md : Region.Mode} {S : World → Prop} {z : Nat}
/-- Two operations may come up: each is carried out. -/
theorem wpAnyG_two (i j : Nat) {oi oj : Oper} {fuel : Nat} {listed : Array Bool} {a : Act} {w : World} (hi : ops[i]? = some oi) (hj : ops[j]? = some oj) (hr : Region.ready md ops listed = [i, j])
    (h1 : ∀ K : Act → World → Prop, (∀ a w, ((listed.setIfInBounds i true).getD z false = false → S w) → wpAnyG P md ops Q S z fuel (listed.setIfInBounds i true) a w → K a w) → if Region.wanted oi (yielded ops a.tmps) = true then Oper.wp P oi a w K Q else K (a.put oi.dst undef) w)
    (h2 : ∀ K : Act → World → Prop, (∀ a w, ((listed.setIfInBounds j true).getD z false = false → S w) → wpAnyG P md ops Q S z fuel (listed.setIfInBounds j true) a w → K a w) → if Region.wanted oj (yielded ops a.tmps) = true then Oper.wp P oj a w K Q else K (a.put oj.dst undef) w) :
    wpAnyG P md ops Q S z (fuel + 1) listed a w := by
  refine ⟨fun h0 => (by rw [hr] at h0; cases h0), fun k hk => ?_⟩
  rw [hr] at hk
  rcases List.mem_cons.1 hk with e | hk
  · subst e
    exact wpOp_step hi (fun K' hK => h1 K' (fun a w h1 h2 => hK a w ⟨h1, h2⟩))
  · obtain rfl : k = j := by simpa using hk
    exact wpOp_step hj (fun K' hK => h2 K' (fun a w h1 h2 => hK a w ⟨h1, h2⟩))
end
end Go
namespace Go.Proofs.YtlamhpiiikcpiaaGreatDoor
open Go.RowKit Go.Shelf Go.Lib Go.Sort
set_option linter.unusedVariables false
set_option linter.unusedSectionVars false
set_option linter.unusedSimpArgs false
namespace Pr
/-- Ports with marks ahead of them. -/
def mks : ByteArray → List ByteArray → List ByteArray
  | _, [] => []
  | m, p :: ps => m :: p :: mks ⟨#[44]⟩ ps
theorem mks_snoc : ∀ (m : ByteArray) (l : List ByteArray) (p : ByteArray), mks m (l ++ [p]) = mks m l ++ [if l = [] then m else ⟨#[44]⟩, p]
  | m, [], p => rfl
  | m, a :: l, p => by
    show m :: a :: mks ⟨#[44]⟩ (l ++ [p]) = _
    rw [mks_snoc ⟨#[44]⟩ l p]
    simp [mks]
theorem mks_len : ∀ (m : ByteArray) (l : List ByteArray), (mks m l).length = 2 * l.length
  | m, [] => rfl
  | m, a :: l => by simp only [mks, List.length_cons, mks_len ⟨#[44]⟩ l]; omega
def nameOf (k : Int) : ByteArray := names.getD k.toNat ⟨#[]⟩
/-- An action's words. -/
def saidL (k : Int) (ps : List ByteArray) : List ByteArray := nameOf k :: mks ⟨#[40]⟩ ps ++ (if ps = [] then [] else [⟨#[41]⟩])
theorem saidL_len (k : Int) (ps : List ByteArray) : (saidL k ps).length = 2 * ps.length + (if ps = [] then 1 else 2) := by
  unfold saidL
  split <;> simp [mks_len] <;> omega
end Pr
theorem rds_lit2 (W : World) (u v : Value) (t : TypeId) : Rds (W.alloc (.cells #[u, v] t)) (.slice (some ⟨W.heap.size, 0, none⟩) 2 2) [u, v] :=
  .inr ⟨W.heap.size, 0, 2, rfl, Nat.le_refl _, by unfold maxLen; omega, by simp, fun i hi => by
    have h : i = 0 ∨ i = 1 := by simp at hi; omega
    rcases h with rfl | rfl <;> simp [go_sem]⟩
theorem row_rdsO {w : World} {base n : Nat} {e : TypeId} {v : Value} {L : List ByteArray} (h : w.ownsRow base e 1 v n (L.map Value.string)) : RdsO (fun b => base ≤ b) w v L :=
  ⟨ownsRow_rds h, fun a n c hv hn => by subst hv; exact (own_ge h a.block rfl).1⟩
set_option maxHeartbeats 1600000 in
set_option maxRecDepth 20000 in
theorem said_any (k : Int) (a : Option Addr) (n c : Nat) (ps : List ByteArray) (w : World) (hr : RdsS w (.slice a n c) ps) (hk : 0 ≤ k) (hk4 : k ≤ 4) (hps : ps.length ≤ 64) :
    Calls Tryz.prog 75 #[.agg #[.int .i64 k, .slice a n c]] w fun e w' => ∃ ad m cap, e = .returned (.slice ad m cap) ∧ (Pr.saidL k ps).length = m ∧ RdsO (fun b => w.heap.size ≤ b) w' (.slice ad m cap) (Pr.saidL k ps) ∧ Below w.heap.size w w' := by
  obtain ⟨kk, hkk⟩ : ∃ kk : Nat, k = kk := ⟨k.toNat, by omega⟩
  subst hkk
  have hk5 : kk < 5 := by omega
  have hl5 : Pr.names.length = 5 := rfl
  have hnm : Pr.nameOf (kk : Int) = Pr.names[kk]'(by rw [hl5]; exact hk5) := by
    unfold Pr.nameOf
    rw [Int.toNat_natCast, List.getD_eq_getElem?_getD, List.getElem?_eq_getElem (by rw [hl5]; exact hk5)]
    rfl
  have hn : n = ps.length := by
    rcases hr with ⟨_, _, he, hps0, _⟩ | ⟨_, _, _, he, _⟩
    · injection he with _ e _; rw [e, List.map_eq_nil_iff.1 hps0]; rfl
    · injection he with _ e _; rw [e, List.length_map]
  obtain ⟨W0, hW0⟩ : ∃ W0, W0 = w.alloc (.cells #[.int .i64 (kk : Int), .slice a n c] 45) := ⟨_, rfl⟩
  have hb0 : Below w.heap.size w W0 := by rw [hW0]; exact (Below.refl _ _).alloc (Nat.le_refl _) _
  have hh0 : W0.heap[w.heap.size]? = some (.cells #[.int .i64 (kk : Int), .slice a n c] 45 (0, 0)) := by rw [hW0]; exact heap_alloc_new _ _
  have z0 : W0.cell? ⟨w.heap.size, 0, none⟩ = some (.int .i64 kk) := by simp [World.cell?, hh0]
  have z1 : W0.cell? ⟨w.heap.size, 1, none⟩ = some (.slice a n c) := by simp [World.cell?, hh0]
  have hl0 : w.heap.size < W0.heap.size := heapLt hh0
  have HRw := Lib.hid hr
  have HB0 := Lib.hid hb0
  have HW0 := Lib.hid hW0
  have HN := Lib.hid hn
  have HNm := Lib.hid hnm
  clear hr hn hb0 hh0 hW0 hnm
  go_enter Tryz.func75, Tryz.ntmps75
  go_upto_region 1 with fail
  rw [← HW0.out]
  clear HW0
  have hS0 : (fun W : World => W.cell? ⟨w.heap.size, 0, none⟩ = some (.int .i64 kk)) W0.drew := z0
  have HNs := Lib.hid (names_any W0.drew)
  refine wp_region_heldG (fun W : World => W.cell? ⟨w.heap.size, 0, none⟩ = some (.int .i64 kk)) 99 (by kernel_rfl) ?_
  refine wpAnyG_takeP 1 (v := ?v1) rfl (by kernel_rfl) (fun _ _ _ h => h) (by rfl) ?h1 hS0 ?_
  case h1 => (intro wl; go_simp; try with_reducible rfl)
  try simp only [Act.put, List.setIfInBounds_toArray, List.set_cons_zero, List.set_cons_succ]
  refine wpAnyG_takeA 2 (v := ?v2) rfl (by kernel_rfl) (fun _ _ _ h => h) (by rfl) ?h2 hS0 ?_
  case h2 => (intro wl hl; have l0 := hl; go_simp; try with_reducible rfl)
  try simp only [Act.put, List.setIfInBounds_toArray, List.set_cons_zero, List.set_cons_succ]
  refine wpAnyG_one 0 rfl (by kernel_rfl) (fun K hK => ?_)
  go_simp
  go_at_call 106
  refine HNs.out.mono ?_
  rintro e w1 ⟨rfl, hr1, hb1⟩
  have hbo : Below W0.heap.size W0 w1 := ((Below.refl _ _).drew).trans hb1
  have hS1 : (fun W : World => W.cell? ⟨w.heap.size, 0, none⟩ = some (.int .i64 kk)) w1 := (hbo.cell (p := ⟨w.heap.size, 0, none⟩) hl0).trans z0
  refine hK _ _ (fun _ => hS1) ?_
  clear hK K
  try simp only [Act.put, List.setIfInBounds_toArray, List.set_cons_zero, List.set_cons_succ]
  obtain ⟨g, hg⟩ : ∃ g, W0.drew.heap.size = g := ⟨_, rfl⟩
  rw [hg] at hr1 ⊢
  obtain ⟨nm, hnm⟩ : ∃ nm, Pr.names[kk]'(by rw [hl5]; exact hk5) = nm := ⟨_, rfl⟩
  rw [hnm] at HNm
  have hcn : w1.cell? ⟨g, kk, none⟩ = some (.string nm) := by
    obtain ⟨ad, len, cap, e, _, _, hf⟩ := rdsS_form hr1
    injection e with e _ _
    subst e
    obtain ⟨b, off, e2, _, hc⟩ := hf kk (by rw [hl5]; exact hk5)
    injection e2 with e2
    injection e2 with e2 e3 _
    subst e2 e3
    rw [Nat.zero_add, hnm] at hc
    exact hc
  have hcn0 : w1.cell? ⟨g, 0 + kk, none⟩ = some (.string nm) := by rw [Nat.zero_add]; exact hcn
  have hki : (0 : Int) ≤ (kk : Int) := by omega
  have hki5 : (kk : Int) < 5 := by omega
  have HBo := Lib.hid (HB0.out.trans (hbo.mono HB0.out.size))
  have z11 := (hbo.cell (p := ⟨w.heap.size, 1, none⟩) hl0).trans z1
  have hl1 : w.heap.size < w1.heap.size := by have := hbo.size; omega
  clear hg hr1 hb1 hbo HNs hnm z1
  refine wpAnyG_one 3 rfl (by kernel_rfl) (fun K hK => ?_)
  go_simp
  refine hK _ _ (fun _ => hS1) ?_
  clear hK K
  try simp only [Act.put, List.setIfInBounds_toArray, List.set_cons_zero, List.set_cons_succ]
  refine wpAnyG_one 4 rfl (by kernel_rfl) (fun K hK => ?_)
  go_simp
  refine hK _ _ (fun _ => hS1) ?_
  clear hK K
  try simp only [Act.put, List.setIfInBounds_toArray, List.set_cons_zero, List.set_cons_succ]
  obtain ⟨w2, hw2⟩ : ∃ w2, w2 = w1.alloc (.cells #[.string nm] 9) := ⟨_, rfl⟩
  have hb2 : Below w1.heap.size w1 w2 := by rw [hw2]; exact (Below.refl _ _).alloc (Nat.le_refl _) _
  have hS2 : (fun W : World => W.cell? ⟨w.heap.size, 0, none⟩ = some (.int .i64 kk)) (w1.alloc (.cells #[.string nm] 9)) := by rw [← hw2]; exact (hb2.cell (p := ⟨w.heap.size, 0, none⟩) hl1).trans hS1
  refine wpAnyG_one 5 rfl (by kernel_rfl) (fun K hK => ?_)
  go_simp
  refine hK _ _ (fun _ => hS2) ?_
  clear hK K
  try simp only [Act.put, List.setIfInBounds_toArray, List.set_cons_zero, List.set_cons_succ]
  refine wpAnyG_one 6 rfl (by kernel_rfl) (fun K hK => ?_)
  go_simp
  refine hK _ _ (fun _ => hS2) ?_
  clear hK K
  try simp only [Act.put, List.setIfInBounds_toArray, List.set_cons_zero, List.set_cons_succ]
  refine wpAnyG_done (by kernel_rfl) ?_ _
  rw [← hw2]
  have hrow : w2.ownsRow w1.heap.size 9 1 (.slice (some ⟨w1.heap.size, 0, none⟩) 1 1) 1 ([nm].map Value.string) := by rw [hw2]; exact lit_row rfl (Nat.le_refl _)
  obtain ⟨g1, hg1⟩ : ∃ g1, w1.heap.size = g1 := ⟨_, rfl⟩
  rw [hg1] at hrow ⊢
  have HO2 := Lib.hid hrow
  have HB2 := Lib.hid (HBo.out.trans (hb2.mono HBo.out.size))
  have Z1 := Lib.hid ((hb2.cell (p := ⟨w.heap.size, 1, none⟩) hl1).trans z11)
  have z12 := Z1.out
  have HG1 : Hid (w.heap.size < g1) := by show _ < _; omega
  have hg2 : g1 ≤ w2.heap.size := by have := hb2.size; omega
  obtain ⟨i0, hii, hz0, hz1, hz2⟩ := info_parts infoS
  have hn64 : n ≤ 64 := by have := HN.out; omega
  clear hw2 hb2 hS2 hrow hg1 hS1 hcn hcn0 hS0 z0 z11 HBo
  go_wp2_with fail
  go_loopw [3, 16] (fun s3 s16 wr => ∃ (i m : Nat) (ad : Option Addr) (cap : Nat), s16 = .int .i64 i ∧ s3 = .slice ad m cap ∧ i ≤ n ∧ Hid (m = 1 + 2 * i) ∧ Hid (wr.ownsRow g1 9 1 (.slice ad m cap) m ((nm :: Pr.mks ⟨#[40]⟩ (ps.take i)).map Value.string)) ∧ Hid (Below g1 w2 wr)) (fun _ s16 _ => n - (intOf s16).toNat)
  case atStart => exact ⟨0, 1, some ⟨g1, 0, none⟩, 1, rfl, rfl, Nat.zero_le _, (rfl : (1 : Nat) = 1 + 2 * 0), HO2, Below.refl _ _⟩
  case round =>
    clear z12 HO2
    obtain ⟨wo, rfl⟩ : ∃ wo : World, wo = wr := ⟨wr, rfl⟩
    obtain ⟨i, m, ad, cap, rfl, rfl, hin, Hm, HO, HB⟩ := hrel
    have hbw : Below w.heap.size w wo := HB2.out.trans (HB.out.mono (by have := HG1.out; omega))
    have HBw := Lib.hid hbw
    have hgo : g1 ≤ wo.heap.size := by have := HB.out.size; omega
    have y1 := (HB.out.cell (p := ⟨w.heap.size, 1, none⟩) HG1.out).trans Z1.out
    by_cases hlt : i < n
    · have hip : i < ps.length := by rw [← HN.out]; exact hlt
      obtain ⟨ad1, len1, cap1, e1, hl1', _, hf⟩ := rdsS_form (HRw.out.below hbw)
      injection e1 with e1 e2 e3
      subst e1
      clear e2 e3
      obtain ⟨b, off, rfl, hbl, hc⟩ := hf i hip
      obtain ⟨x, hx⟩ : ∃ x, ps[i] = x := ⟨_, rfl⟩
      rw [hx] at hc
      have htk : ps.take (i + 1) = ps.take i ++ [x] := by rw [List.take_succ_eq_append_getElem hip, hx]
      have hi0 : (0 : Int) ≤ (i : Int) := by omega
      have hin' : (i : Int) < (n : Int) := by omega
      have hm130 : m ≤ 200 := by have := Hm.out; omega
      by_cases hz : i = 0
      · have q : ((i : Int) == 0) = true := by simp [hz]
        have HE : Hid (nm :: Pr.mks ⟨#[40]⟩ (ps.take (i + 1)) = (nm :: Pr.mks ⟨#[40]⟩ (ps.take i)) ++ [⟨#[40]⟩, x]) := by
          show _ = _
          rw [htk, Pr.mks_snoc, if_pos (by rw [hz]; rfl)]
          rfl
        clear hz htk hbw hx hf hl1'
        go_wp2_with (at_builtin; go_loud (refine wpList_plain rfl (fun _ hK => wp_append_rds (.tmp 23) (.tmp 26) _ rfl g1 9 i0 _ 16 Tryz.underlying43 hii hz0 hz1 hz2 rfl (.slice ad m cap) m _ (by rfl) (HO.out.alloc _) _ [.string ⟨#[40]⟩, .string x] (by rfl) (rds_lit2 wo _ _ _) (by simp [Value.oneCell']) (m + 2) rfl (by unfold maxLen; omega) (by omega) (by simp; omega) (fun ad4 cap4 w4 hown4 hgrow4 => hK _ _ ?_))); have HO4 := Lib.hid hown4; have HB4 := Lib.hid (grown_bel (HB.out.alloc hgo (.cells #[.string ⟨#[40]⟩, .string x] 9)) hg2 (HO.out.alloc (.cells #[.string ⟨#[40]⟩, .string x] 9)) hgrow4); clear hown4 hgrow4 hK)
        go_roundw
        case rel =>
          refine ⟨i + 1, m + 2, ad4, cap4, by first | rfl | go_num, rfl, by omega, (by have := Hm.out; show _ = _; omega), ?_, HB4.out⟩
          show World.ownsRow _ _ _ _ _ _ _
          rw [HE.out, List.map_append]
          exact HO4.out
        case measure => simp [intOf]; omega
      · have q : ((i : Int) == 0) = false := by simp [hz]
        have HE : Hid (nm :: Pr.mks ⟨#[40]⟩ (ps.take (i + 1)) = (nm :: Pr.mks ⟨#[40]⟩ (ps.take i)) ++ [⟨#[44]⟩, x]) := by
          show _ = _
          rw [htk, Pr.mks_snoc, if_neg (fun e => by have h1 : (ps.take i).length = 0 := (by rw [e]; rfl); rw [List.length_take] at h1; omega)]
          rfl
        clear hz htk hbw hx hf hl1'
        go_wp2_with (at_builtin; go_loud (refine wpList_plain rfl (fun _ hK => wp_append_rds (.tmp 23) (.tmp 26) _ rfl g1 9 i0 _ 16 Tryz.underlying43 hii hz0 hz1 hz2 rfl (.slice ad m cap) m _ (by rfl) (HO.out.alloc _) _ [.string ⟨#[44]⟩, .string x] (by rfl) (rds_lit2 wo _ _ _) (by simp [Value.oneCell']) (m + 2) rfl (by unfold maxLen; omega) (by omega) (by simp; omega) (fun ad4 cap4 w4 hown4 hgrow4 => hK _ _ ?_))); have HO4 := Lib.hid hown4; have HB4 := Lib.hid (grown_bel (HB.out.alloc hgo (.cells #[.string ⟨#[44]⟩, .string x] 9)) hg2 (HO.out.alloc (.cells #[.string ⟨#[44]⟩, .string x] 9)) hgrow4); clear hown4 hgrow4 hK)
        go_roundw
        case rel =>
          refine ⟨i + 1, m + 2, ad4, cap4, by first | rfl | go_num, rfl, by omega, (by have := Hm.out; show _ = _; omega), ?_, HB4.out⟩
          show World.ownsRow _ _ _ _ _ _ _
          rw [HE.out, List.map_append]
          exact HO4.out
        case measure => simp [intOf]; omega
    · have hie : i = ps.length := by rw [← HN.out]; omega
      rw [hie, List.take_length] at HO
      have HOe := HO
      have hm2 : m ≤ 200 := by have := Hm.out; omega
      clear hie HO hbw
      by_cases hz : n = 0
      · have q : decide ((0 : Int) < (n : Int)) = false := by simp; omega
        have q2 : decide (0 < n) = false := by simp; omega
        have q3 : ¬ 0 < n := by omega
        have HE : Hid (Pr.saidL (kk : Int) ps = nm :: Pr.mks ⟨#[40]⟩ ps) := by
          show _ = _
          unfold Pr.saidL
          rw [HNm.out, if_pos (List.eq_nil_of_length_eq_zero (by rw [← HN.out]; exact hz)), List.append_nil]
        have HL : Hid ((Pr.saidL (kk : Int) ps).length = m) := by
          show _ = _
          have h1 := HOe.out.1
          rw [HE.out]
          simpa using h1
        clear hz
        go_wp2_with fail
        go_ret
        refine ⟨ad, m, cap, rfl, HL.out, ?_, HBw.out⟩
        rw [HE.out]
        exact (row_rdsO HOe.out).mono fun b hb => by have := HG1.out; omega
      · have q : (0 : Int) < (n : Int) := by omega
        have q2 : 0 < n := by omega
        have HE : Hid (Pr.saidL (kk : Int) ps = (nm :: Pr.mks ⟨#[40]⟩ ps) ++ [⟨#[41]⟩]) := by
          show _ = _
          unfold Pr.saidL
          rw [HNm.out, if_neg (fun e => hz (by rw [HN.out, e]; rfl))]
        clear hz
        go_wp2_with (at_builtin; go_loud (refine wpList_plain rfl (fun _ hK => wp_append_rds (.tmp 33) (.tmp 34) _ rfl g1 9 i0 _ 16 Tryz.underlying43 hii hz0 hz1 hz2 rfl (.slice ad m cap) m _ (by rfl) (HOe.out.alloc _) _ [.string ⟨#[41]⟩] (by rfl) (rds_lit1 wo _ _) (by simp [Value.oneCell']) (m + 1) rfl (by unfold maxLen; omega) (by omega) (by simp; omega) (fun ad4 cap4 w4 hown4 hgrow4 => hK _ _ ?_))); have HO4 := Lib.hid hown4; have HB4 := Lib.hid (grown_bel (HB.out.alloc hgo (.cells #[.string ⟨#[41]⟩] 9)) hg2 (HOe.out.alloc (.cells #[.string ⟨#[41]⟩] 9)) hgrow4); clear hown4 hgrow4 hK)
        go_wp2_with fail
        go_ret
        have hO : w4.ownsRow g1 9 1 (.slice ad4 (m + 1) cap4) (m + 1) ((Pr.saidL (kk : Int) ps).map Value.string) := by
          rw [HE.out, List.map_append]
          exact HO4.out
        have hL := hO.1
        refine ⟨ad4, m + 1, cap4, rfl, by simpa using hL, (row_rdsO hO).mono fun b hb => by have := HG1.out; omega, HB2.out.trans (HB4.out.mono (by have := HG1.out; omega))⟩
/-- The table of powers of ten. -/
abbrev Tab10 (W : World) : Prop := Lib.TabIs Tryz.prog W "internal/strconv.uint64pow10" .u64 Lib.pow10Tab
theorem tab10_below {w w' : World} (h : Tab10 w) (hb : Below w.heap.size w w') : Tab10 w' := Lib.tabBelow_of_tabIs h w' hb
namespace Pr
/-- A rule's words. -/
def ruleL (r : Rl) : List ByteArray := [⟨#[114, 117, 108, 101]⟩, Wd.mkB (Lib.decDigits r.p.toNat), r.m] ++ saidL r.k r.ps
/-- A rule's line. -/
def lineT (r : Rl) : List UInt8 := Wd.jn ((ruleL r).map fun x => x.data.toList)
theorem letters_word {a : List UInt8} (hne : a ≠ []) (h : a.all Rp.isLetter = true) : Wd.wordB a = true := by
  have hl : ∀ l : List UInt8, l.all Rp.isLetter = true → Wd.lets l = l.length := by
    intro l
    induction l with
    | nil => intro _; rfl
    | cons c t ih =>
      intro h
      rw [List.all_cons, Bool.and_eq_true] at h
      have ha : Wd.arrow (c :: t) = false := by
        unfold Wd.arrow
        cases t with
        | nil => simp
        | cons d t =>
          have hd : Rp.isLetter d = true := by
            have := h.2
            rw [List.all_cons, Bool.and_eq_true] at this
            exact this.1
          have hne : d ≠ 62 := fun e => by subst e; exact absurd hd (by decide)
          simp [hne]
      simp only [Wd.lets, h.1, ha, Bool.not_false, Bool.and_self, if_true, List.length_cons]
      rw [ih h.2]
  cases a with
  | nil => exact absurd rfl hne
  | cons c t =>
    have hc : Rp.isLetter c = true := by
      rw [List.all_cons, Bool.and_eq_true] at h
      exact h.1
    have h1 : c ≠ 35 := fun e => by subst e; exact absurd hc (by decide)
    have h2 : c ≠ 32 := fun e => by subst e; exact absurd hc (by decide)
    have h3 : c ≠ 9 := fun e => by subst e; exact absurd hc (by decide)
    have hp : Wd.isPair ((c :: t).take 2) = false := by
      unfold Wd.isPair
      cases t with
      | nil => simp
      | cons d t =>
        have hd : Rp.isLetter d = true := by
          rw [List.all_cons, List.all_cons, Bool.and_eq_true, Bool.and_eq_true] at h
          exact h.2.1
        have e1 : d ≠ 61 := fun e => by subst e; exact absurd hd (by decide)
        have e2 : d ≠ 62 := fun e => by subst e; exact absurd hd (by decide)
        simp [e1, e2]
    have hs : Wd.isSingle c = false := by
      unfold Wd.isSingle Wd.singles
      simp only [List.contains_eq_mem, decide_eq_false_iff_not, List.mem_cons, List.not_mem_nil, or_false, not_or]
      refine ⟨?_, ?_, ?_, ?_, ?_, ?_, ?_, ?_, ?_, ?_, ?_, ?_⟩ <;> exact fun e => by subst e; exact absurd hc (by decide)
    unfold Wd.wordB
    have hsz : Wd.size (c :: t) = (c :: t).length := by
      unfold Wd.size
      rw [hp]
      simp only [List.headD_cons, hs, if_false, Bool.false_eq_true]
      exact hl _ h
    rw [hsz]
    simp [h1, h2, h3]
theorem dg_digit (i : Nat) (h : i < 10) : Rp.isDigit (UInt8.ofNat (48 + i)) = true := by
  have : ∀ i : Fin 10, Rp.isDigit (UInt8.ofNat (48 + i.val)) = true := by decide
  exact this ⟨i, h⟩
theorem digits_all (n : Nat) : ∀ c ∈ Lib.decDigits n, Rp.isDigit c = true := by
  induction n using Nat.strongRecOn with
  | ind n ih =>
    rw [Lib.decDigits]
    split
    · rename_i h
      intro c hc
      simp only [List.mem_singleton] at hc
      rw [hc]
      exact dg_digit n h
    · intro c hc
      rcases List.mem_append.1 hc with h1 | h1
      · exact ih _ (by omega) c h1
      · simp only [List.mem_singleton] at h1
        rw [h1]
        exact dg_digit _ (Nat.mod_lt _ (by omega))
theorem digits_ne (n : Nat) : Lib.decDigits n ≠ [] := by
  have h := Lib.decDigits_length n
  have h2 := Lib.nDigits_pos n
  intro e
  rw [e] at h
  simp at h
  omega
theorem digits_word (n : Nat) : Wd.wordB (Lib.decDigits n) = true := letters_word (digits_ne n) (List.all_eq_true.2 fun c hc => by
  have := digits_all n c hc
  unfold Rp.isLetter
  simp [this])
theorem name_word {a : List UInt8} (h : Rp.nameB a = true) : Wd.wordB a = true := by
  unfold Rp.nameB at h
  simp only [Bool.and_eq_true, decide_eq_true_eq] at h
  refine letters_word (fun e => ?_) h.2
  have h1 := h.1.1.1.1
  rw [e] at h1
  simp at h1
theorem cube_word {a : List UInt8} (h : Cb.isCube a = true) : Wd.wordB a = true := by
  unfold Cb.isCube Cb.ofB at h
  simp only [Bool.and_eq_true, decide_eq_true_eq] at h
  refine letters_word (fun e => ?_) (List.all_eq_true.2 fun c hc => ?_)
  · rw [e] at h
    simp at h
  · have h1 := List.all_eq_true.1 h.2 c hc
    simp only [List.contains_eq_mem, decide_eq_true_eq, List.mem_cons, List.not_mem_nil, or_false] at h1
    rcases h1 with rfl | rfl | rfl <;> decide
theorem mks_words : ∀ (m : ByteArray) (l : List ByteArray), Wd.wordB m.data.toList = true → (∀ x ∈ l, Rp.nameB x.data.toList = true) → ∀ x ∈ mks m l, Wd.wordB x.data.toList = true
  | m, [], _, _, x, hx => by cases hx
  | m, p :: l, hm, hl, x, hx => by
    rcases List.mem_cons.1 hx with e | hx
    · rw [e]; exact hm
    · rcases List.mem_cons.1 hx with e | hx
      · rw [e]; exact name_word (hl p (by simp))
      · exact mks_words ⟨#[44]⟩ l (by decide) (fun y hy => hl y (by simp [hy])) x hx
theorem action_names {k : Int} {ps : List ByteArray} (h : Rp.actionB k ps = true) : (k = 1 ∨ k = 2 ∨ k = 3 ∨ k = 4) ∧ ∀ x ∈ ps, Rp.nameB x.data.toList = true := by
  unfold Rp.actionB at h
  split at h
  · rename_i hk
    have hl : ps = [] := List.eq_nil_of_length_eq_zero (by simpa using h)
    subst hl
    exact ⟨by omega, by simp⟩
  · split at h
    · rename_i hk
      refine ⟨by omega, fun x hx => ?_⟩
      obtain ⟨i, hi, rfl⟩ := List.getElem_of_mem hx
      unfold Rp.portsB at h
      simp only [Bool.and_eq_true] at h
      have h1 := List.all_eq_true.1 h.1.1 i (List.mem_range.2 hi)
      unfold Rp.okAt at h1
      rw [Bool.and_eq_true] at h1
      have e : ps.getD i ⟨#[]⟩ = ps[i] := by rw [List.getD_eq_getElem?_getD, List.getElem?_eq_getElem hi]; rfl
      rw [e] at h1
      exact h1.1
    · cases h
theorem said_words {k : Int} {ps : List ByteArray} (h : Rp.actionB k ps = true) : ∀ x ∈ saidL k ps, Wd.wordB x.data.toList = true := by
  obtain ⟨hk, hp⟩ := action_names h
  intro x hx
  unfold saidL at hx
  rcases List.mem_append.1 hx with hx | hx
  · rcases List.mem_cons.1 hx with e | hx
    · rw [e]
      rcases hk with rfl | rfl | rfl | rfl <;> decide
    · exact mks_words _ _ (by decide) hp x hx
  · split at hx
    · cases hx
    · simp only [List.mem_singleton] at hx
      rw [hx]; decide
/-- What checkR tells of a rule that may be. -/
theorem check_ok {r : Rl} {width : Int} (h : Rp.checkR r width = 0) : 1 ≤ width ∧ width ≤ 128 ∧ 0 ≤ r.p ∧ r.p ≤ 2147483647 ∧ Cb.isCube r.m.data.toList = true ∧ (r.m.size : Int) = width ∧ Rp.actionB r.k r.ps = true := by
  rcases checkR_cases r width 0 h with ⟨h1, _⟩ | ⟨⟨h1, h2, h3, h4⟩, ⟨h5, _⟩ | ⟨h5, ⟨h6, _⟩ | ⟨h6, ⟨h7, _⟩ | ⟨_, h7⟩⟩⟩⟩
  · cases h1
  · cases h5
  · cases h6
  · cases h7
  · exact ⟨h1, h2, h3, h4, h5, h6, h7⟩
theorem rule_words {r : Rl} {width : Int} (h : Rp.checkR r width = 0) : ∀ x ∈ ruleL r, Wd.wordB x.data.toList = true := by
  obtain ⟨_, _, _, _, hc, _, ha⟩ := check_ok h
  intro x hx
  unfold ruleL at hx
  rcases List.mem_append.1 hx with hx | hx
  · simp only [List.mem_cons, List.not_mem_nil, or_false] at hx
    rcases hx with e | e | e
    · rw [e]; decide
    · rw [e, Wd.mkB_list]; exact digits_word _
    · rw [e]; exact cube_word hc
  · exact said_words ha x hx
theorem rule_say {r : Rl} {width : Int} (h : Rp.checkR r width = 0) : Wd.say ((ruleL r).map fun x => x.data.toList) = some (lineT r) := by
  unfold Wd.say lineT
  rw [if_pos (List.all_eq_true.2 fun a ha => by
    obtain ⟨x, hx, rfl⟩ := List.mem_map.1 ha
    exact rule_words h x hx)]
theorem mks_small : ∀ (M : Nat) (m : ByteArray) (l : List ByteArray), 1 ≤ M → m.size ≤ M → (∀ x ∈ l, x.size ≤ M) → ∀ x ∈ mks m l, x.size ≤ M
  | M, m, [], _, _, _, x, hx => by cases hx
  | M, m, p :: l, h1, hm, hl, x, hx => by
    rcases List.mem_cons.1 hx with e | hx
    · rw [e]; exact hm
    · rcases List.mem_cons.1 hx with e | hx
      · rw [e]; exact hl p (by simp)
      · exact mks_small M ⟨#[44]⟩ l h1 h1 (fun y hy => hl y (by simp [hy])) x hx
theorem name_le {x : ByteArray} (h : Rp.nameB x.data.toList = true) : x.size ≤ 64 := by
  unfold Rp.nameB at h
  simp only [Bool.and_eq_true, decide_eq_true_eq] at h
  exact h.1.1.1.2
theorem said_small {k : Int} {ps : List ByteArray} (hk : k = 1 ∨ k = 2 ∨ k = 3 ∨ k = 4) (hp : ∀ x ∈ ps, Rp.nameB x.data.toList = true) : ∀ x ∈ saidL k ps, x.size ≤ 64 := by
  intro x hx
  unfold saidL at hx
  rcases List.mem_append.1 hx with hx | hx
  · rcases List.mem_cons.1 hx with e | hx
    · rw [e]
      rcases hk with rfl | rfl | rfl | rfl <;> decide
    · exact mks_small 64 _ _ (by omega) (by decide) (fun y hy => name_le (hp y hy)) x hx
  · split at hx
    · cases hx
    · simp only [List.mem_singleton] at hx
      rw [hx]; decide
end Pr
theorem nDigits_le : ∀ {k u : Nat}, u < 10 ^ (k + 1) → Lib.nDigits u ≤ k + 1
  | 0, u, h => by rw [Lib.nDigits_small (by simpa using h)]; omega
  | k + 1, u, h => by
    by_cases hu : u < 10
    · rw [Lib.nDigits_small hu]; omega
    · rw [Lib.nDigits_big hu]
      have := nDigits_le (k := k) (u := u / 10) (by rw [Nat.pow_succ] at h; omega)
      omega
theorem itoa_any (p : Int) (h0 : 0 ≤ p) (h1 : p ≤ 2147483647) (w : World) (ht : p < 100 ∨ Tab10 w) :
    Calls Tryz.prog 74 #[.int .i64 p] w fun e w' => e = .returned (.string (Wd.mkB (Lib.decDigits p.toNat))) ∧ Below w.heap.size w w' := by
  obtain ⟨n, rfl⟩ : ∃ n : Nat, p = n := ⟨p.toNat, by omega⟩
  by_cases hs : (n : Int) < 100
  · refine (Tryz.strconv_Itoa_small n (by omega) w).mono ?_
    rintro e w' ⟨rfl, rfl⟩
    exact ⟨rfl, Below.refl _ _⟩
  · have ht' : Tab10 w := ht.elim (fun h => absurd h hs) id
    refine (Tryz.strconv_Itoa n (by omega) (by omega) w ht').mono ?_
    rintro e w' ⟨rfl, k, os, rfl⟩
    exact ⟨by rw [Lib.itoa_nonneg]; rfl, Lib.below_grow _ w (Nat.le_refl _) k os⟩
theorem lit_row3 {w : World} {x y z : Value} {e : TypeId} {g b : Nat} (hg : g = w.heap.size) (hb : b ≤ g) : (w.alloc (.cells #[x, y, z] e)).ownsRow b e 1 (.slice (some ⟨g, 0, none⟩) 3 3) 3 [x, y, z] := by
  subst hg
  exact World.ownsRow_lit w #[x, y, z] 3 hb (by unfold maxLen; omega) (by simp)
set_option maxHeartbeats 3200000 in
set_option maxRecDepth 20000 in
theorem line_any {ok : Nat → Prop} {x : RC} {r : Rl} {w : World} (hr : RdC ok w x r) (hq : Rp.checkR r (r.m.size : Int) = 0) (ht : r.p < 100 ∨ Tab10 w) :
    Calls Tryz.prog 40 #[.agg #[.int .i64 x.p, .string x.m, .int .i64 x.k, .slice x.a x.n x.c]] w fun e w' => e = .returned (.tuple #[.string (Wd.mkB (Pr.lineT r)), .int .i64 0]) ∧ Below w.heap.size w w' := by
  obtain ⟨c1, c2, c3, c4, c5, c6, c7⟩ := Pr.check_ok hq
  obtain ⟨hk4, hpn⟩ := Pr.action_names c7
  have hpl : r.ps.length ≤ 64 := by
    unfold Rp.actionB at c7
    split at c7
    · have : r.ps.length = 0 := by simpa using c7
      omega
    · split at c7
      · unfold Rp.portsB at c7
        simp only [Bool.and_eq_true, decide_eq_true_eq] at c7
        exact c7.2
      · cases c7
  obtain ⟨p, m, k, a, n, c⟩ := x
  obtain ⟨rp, rm, rk, rps⟩ := r
  obtain ⟨ep, em, ek, hs, hz⟩ := hr
  simp only at ep em ek hs c1 c2 c3 c4 c5 c6 c7 hk4 hpn hpl hq ht
  subst ep em ek
  obtain ⟨W0, hW0⟩ : ∃ W0, W0 = w.alloc (.cells #[.int .i64 p, .string m, .int .i64 k, .slice a n c] 47) := ⟨_, rfl⟩
  have hb0 : Below w.heap.size w W0 := by rw [hW0]; exact (Below.refl _ _).alloc (Nat.le_refl _) _
  have hh0 : W0.heap[w.heap.size]? = some (.cells #[.int .i64 p, .string m, .int .i64 k, .slice a n c] 47 (0, 0)) := by rw [hW0]; exact heap_alloc_new _ _
  have z0 : W0.cell? ⟨w.heap.size, 0, none⟩ = some (.int .i64 p) := by simp [World.cell?, hh0]
  have z1 : W0.cell? ⟨w.heap.size, 1, none⟩ = some (.string m) := by simp [World.cell?, hh0]
  have z2 : W0.cell? ⟨w.heap.size, 2, none⟩ = some (.int .i64 k) := by simp [World.cell?, hh0]
  have z3 : W0.cell? ⟨w.heap.size, 3, none⟩ = some (.slice a n c) := by simp [World.cell?, hh0]
  have hl0 : w.heap.size < W0.heap.size := heapLt hh0
  have hmin : min (m.size : Int) 128 = (m.size : Int) := by omega
  have hmax : max (1 : Int) (m.size : Int) = (m.size : Int) := by omega
  have HCk := Lib.hid (check_any ok ⟨p, m, k, a, n, c⟩ ⟨p, m, k, rps⟩ (m.size : Int) W0 ⟨rfl, rfl, rfl, hs.below hb0, hz⟩ 0 hq)
  have HS : Hid (∀ W, Below W0.heap.size W0 W → W.cell? ⟨w.heap.size, 0, none⟩ = some (.int .i64 p) ∧ W.cell? ⟨w.heap.size, 1, none⟩ = some (.string m) ∧ W.cell? ⟨w.heap.size, 2, none⟩ = some (.int .i64 k) ∧ W.cell? ⟨w.heap.size, 3, none⟩ = some (.slice a n c)) := fun W hW =>
    ⟨(hW.cell (p := ⟨w.heap.size, 0, none⟩) hl0).trans z0, (hW.cell (p := ⟨w.heap.size, 1, none⟩) hl0).trans z1, (hW.cell (p := ⟨w.heap.size, 2, none⟩) hl0).trans z2, (hW.cell (p := ⟨w.heap.size, 3, none⟩) hl0).trans z3⟩
  have HIt : Hid (∀ W, Below W0.heap.size W0 W → Calls Tryz.prog 74 #[.int .i64 p] W fun e w' => e = .returned (.string (Wd.mkB (Lib.decDigits p.toNat))) ∧ Below W0.heap.size W0 w' ∧ Below W.heap.size W w') := fun W hW =>
    (itoa_any p c3 c4 W (ht.imp id fun h => tab10_below (tab10_below h hb0) hW)).mono fun e w' ⟨h1, h2⟩ => ⟨h1, hW.trans (h2.mono hW.size), h2⟩
  have HSd : Hid (∀ W, Below W0.heap.size W0 W → Calls Tryz.prog 75 #[.agg #[.int .i64 k, .slice a n c]] W fun e w' => ∃ ad l cap, e = .returned (.slice ad l cap) ∧ (Pr.saidL k rps).length = l ∧ RdsS w' (.slice ad l cap) (Pr.saidL k rps) ∧ Below W0.heap.size W0 w' ∧ Below W.heap.size W w') := fun W hW =>
    (said_any k a n c rps W ((hs.below hb0).below hW).1 (by omega) (by omega) hpl).mono fun e w' ⟨ad, l, cap, h1, h2, h3, h4⟩ => ⟨ad, l, cap, h1, h2, h3.1, hW.trans (h4.mono hW.size), h4⟩
  have hrl : ∀ y ∈ Pr.ruleL ⟨p, m, k, rps⟩, y.size ≤ 500000 := by
    intro y hy
    have hsay := Pr.rule_words hq y hy
    unfold Pr.ruleL at hy
    rcases List.mem_append.1 hy with hy | hy
    · simp only [List.mem_cons, List.not_mem_nil, or_false] at hy
      rcases hy with e | e | e
      · rw [e]; decide
      · rw [e, Wd.mkB_size, Lib.decDigits_length]
        have h9 : p.toNat < 10 ^ 10 := by omega
        have := nDigits_le h9
        omega
      · rw [e]; show m.size ≤ _; omega
    · exact Nat.le_trans (Pr.said_small (Pr.action_names c7).1 hpn y hy) (by omega)
  have hsl := Pr.saidL_len k rps
  have HSay : Hid (∀ (v : Value) (W : World), RdsS W v (Pr.ruleL ⟨p, m, k, rps⟩) → Calls Tryz.prog 73 #[v] W fun e w' => e = .returned (.tuple #[.string (Wd.mkB (Pr.lineT ⟨p, m, k, rps⟩)), .int .i64 0]) ∧ Below W.heap.size W w') := fun v W hv =>
    (say_any v _ W hv hrl (by unfold Pr.ruleL; rw [List.length_append, hsl]; simp; split <;> omega)).mono fun e w' h => by
      unfold SayPost at h
      rw [Pr.rule_say hq] at h
      exact h
  obtain ⟨sl, hsl2⟩ : ∃ sl, (Pr.saidL k rps).length = sl := ⟨_, rfl⟩
  have hsl3 : sl ≤ 200 := by rw [← hsl2, hsl]; split <;> omega
  have HSl := Lib.hid hsl2
  have HW0 := Lib.hid hW0
  have HB0 := Lib.hid hb0
  obtain ⟨i0, hii, hz0, hz1, hz2⟩ := info_parts infoS
  clear hq hs hz hb0 hh0 hW0 c1 c2 c3 c4 c5 c6 c7 hk4 hpn hpl ht hrl hsl hsl2
  go_enter Tryz.func40, Tryz.ntmps40
  go_upto_region 1 with fail
  rw [← HW0.out]
  clear HW0
  go_wp2_with fail
  refine HCk.out.mono ?_
  rintro e w1 ⟨rfl, hb1⟩
  have HB1 := Lib.hid hb1
  obtain ⟨s0, s1, s2, s3⟩ := HS.out w1 hb1
  clear hb1 HCk z0 z1 z2 z3
  go_upto_region 4 with fail
  have hS0 : (fun W : World => W.cell? ⟨w.heap.size, 0, none⟩ = some (.int .i64 p) ∧ W.cell? ⟨w.heap.size, 1, none⟩ = some (.string m) ∧ W.cell? ⟨w.heap.size, 2, none⟩ = some (.int .i64 k) ∧ W.cell? ⟨w.heap.size, 3, none⟩ = some (.slice a n c)) w1.drew := ⟨s0, s1, s2, s3⟩
  refine wp_region_heldG (fun W : World => W.cell? ⟨w.heap.size, 0, none⟩ = some (.int .i64 p) ∧ W.cell? ⟨w.heap.size, 1, none⟩ = some (.string m) ∧ W.cell? ⟨w.heap.size, 2, none⟩ = some (.int .i64 k) ∧ W.cell? ⟨w.heap.size, 3, none⟩ = some (.slice a n c)) 99 (by kernel_rfl) ?_
  refine wpAnyG_takeP 0 (v := ?v0) rfl (by kernel_rfl) (fun _ _ _ h => h) (by rfl) ?h0 hS0 ?_
  case h0 => (intro wl; go_simp; try with_reducible rfl)
  try simp only [Act.put, List.setIfInBounds_toArray, List.set_cons_zero, List.set_cons_succ]
  refine wpAnyG_takeA 1 (v := ?v1) rfl (by kernel_rfl) (fun _ _ _ h => h) (by rfl) ?h1 hS0 ?_
  case h1 => (intro wl hl; obtain ⟨l0, l1, l2, l3⟩ := hl; go_simp; try with_reducible rfl)
  try simp only [Act.put, List.setIfInBounds_toArray, List.set_cons_zero, List.set_cons_succ]
  refine wpAnyG_takeP 3 (v := ?v3) rfl (by kernel_rfl) (fun _ _ _ h => h) (by rfl) ?h3 hS0 ?_
  case h3 => (intro wl; go_simp; try with_reducible rfl)
  try simp only [Act.put, List.setIfInBounds_toArray, List.set_cons_zero, List.set_cons_succ]
  refine wpAnyG_takeA 4 (v := ?v4) rfl (by kernel_rfl) (fun _ _ _ h => h) (by rfl) ?h4 hS0 ?_
  case h4 => (intro wl hl; obtain ⟨l0, l1, l2, l3⟩ := hl; go_simp; try with_reducible rfl)
  try simp only [Act.put, List.setIfInBounds_toArray, List.set_cons_zero, List.set_cons_succ]
  refine wpAnyG_takeP 6 (v := ?v6) rfl (by kernel_rfl) (fun _ _ _ h => h) (by rfl) ?h6 hS0 ?_
  case h6 => (intro wl; go_simp; try with_reducible rfl)
  try simp only [Act.put, List.setIfInBounds_toArray, List.set_cons_zero, List.set_cons_succ]
  refine wpAnyG_takeA 7 (v := ?v7) rfl (by kernel_rfl) (fun _ _ _ h => h) (by rfl) ?h7 hS0 ?_
  case h7 => (intro wl hl; obtain ⟨l0, l1, l2, l3⟩ := hl; go_simp; try with_reducible rfl)
  try simp only [Act.put, List.setIfInBounds_toArray, List.set_cons_zero, List.set_cons_succ]
  have hbd : Below W0.heap.size W0 w1.drew := HB1.out.drew
  have HBd := Lib.hid hbd
  clear hbd s0 s1 s2 s3
  refine wpAnyG_one 2 rfl (by kernel_rfl) (fun K hK => ?_)
  · go_simp
    go_at_call 74
    refine (HIt.out _ HBd.out).mono ?_
    rintro e w2 ⟨rfl, hb2, _⟩
    have hS1 := HS.out w2 hb2
    have HB2 := Lib.hid hb2
    refine hK _ _ (fun _ => hS1) ?_
    clear hK K hb2
    try simp only [Act.put, List.setIfInBounds_toArray, List.set_cons_zero, List.set_cons_succ]
    refine wpAnyG_two 5 8 rfl rfl (by kernel_rfl) (fun K hK => ?_) (fun K hK => ?_)
    · obtain ⟨w3, hw3⟩ : ∃ w3, w3 = w2.alloc (.cells #[.string ⟨#[114, 117, 108, 101]⟩, .string (Wd.mkB (Lib.decDigits p.toNat)), .string m] 9) := ⟨_, rfl⟩
      have hrow : w3.ownsRow W0.heap.size 9 1 (.slice (some ⟨w2.heap.size, 0, none⟩) 3 3) 3 [.string ⟨#[114, 117, 108, 101]⟩, .string (Wd.mkB (Lib.decDigits p.toNat)), .string m] := by rw [hw3]; exact lit_row3 rfl HB2.out.size
      have hb3 : Below W0.heap.size W0 w3 := by rw [hw3]; exact HB2.out.alloc HB2.out.size _
      have hS2 := HS.out w3 hb3
      go_simp
      rw [hw3] at hS2
      refine hK _ _ (fun _ => hS2) ?_
      clear hK K hS2
      rw [← hw3]
      have hS2 := HS.out w3 hb3
      have HB3 := Lib.hid hb3
      have HRow := Lib.hid hrow
      clear hw3 hb3 hrow
      try simp only [Act.put, List.setIfInBounds_toArray, List.set_cons_zero, List.set_cons_succ]
      refine wpAnyG_one 8 rfl (by kernel_rfl) (fun K hK => ?_)
      go_simp
      go_at_call 75
      refine (HSd.out _ HB3.out).mono ?_
      rintro e w4 ⟨ad, l, cap, rfl, hl, hr4, hb4, hb34⟩
      obtain rfl : l = sl := hl.symm.trans HSl.out
      have hS4 := HS.out w4 hb4
      have HB4 := Lib.hid hb4
      have HR4 := Lib.hid hr4
      have HRow4 := Lib.hid (ownsRow_below HRow.out hb34)
      refine hK _ _ (fun _ => hS4) ?_
      clear hK K hr4 hb4 hb34 HRow hl hS1 hS2
      try simp only [Act.put, List.setIfInBounds_toArray, List.set_cons_zero, List.set_cons_succ]
      obtain ⟨g, hg⟩ : ∃ g, w2.heap.size = g := ⟨_, rfl⟩
      rw [hg] at HRow4 ⊢
      clear hg
      refine wpAnyG_one 9 rfl (by kernel_rfl) (fun K hK => ?_)
      (refine step_append_rds (by rfl) (.tmp 20) (.tmp 23) _ (by rfl) W0.heap.size 9 i0 _ 16 Tryz.underlying43 hii hz0 hz1 hz2 rfl _ 3 _ (by rfl) HRow4.out _ ((Pr.saidL k rps).map Value.string) (by rfl) HR4.out str_one (3 + l) (by rw [List.length_map, HSl.out]) (by unfold maxLen; omega) (by omega) HB4.out.size ?_; intro ad5 cap5 w5 hown5 hgrow5)
      have hb5 : Below W0.heap.size W0 w5 := grown_bel HB4.out (Nat.le_refl _) HRow4.out hgrow5
      have hS5 := HS.out w5 hb5
      refine hK _ _ (fun _ => hS5) ?_
      clear hK K
      have HR5 : Hid (RdsS w5 (.slice ad5 (3 + l) cap5) (Pr.ruleL ⟨p, m, k, rps⟩)) := by
        show Rds _ _ _
        exact ownsRow_rds hown5
      have HB5 := Lib.hid hb5
      clear hb5 hown5 hgrow5 HR4 HRow4 hS4
      try simp only [Act.put, List.setIfInBounds_toArray, List.set_cons_zero, List.set_cons_succ]
      refine wpAnyG_one 10 rfl (by kernel_rfl) (fun K hK => ?_)
      go_simp
      go_at_call 73
      refine (HSay.out _ _ HR5.out).mono ?_
      rintro e w6 ⟨rfl, hb6⟩
      have hb06 := HB5.out.trans (hb6.mono HB5.out.size)
      have hS6 := HS.out w6 hb06
      have HB6 := Lib.hid hb06
      refine hK _ _ (fun _ => hS6) ?_
      clear hK K hb6 hb06 hS5 HR5
      try simp only [Act.put, List.setIfInBounds_toArray, List.set_cons_zero, List.set_cons_succ]
      refine wpAnyG_takeP 11 (v := ?v11a) rfl (by kernel_rfl) (fun _ _ _ h => h) (by rfl) ?h11a hS6 ?_
      case h11a => (intro wl; go_simp; try with_reducible rfl)
      try simp only [Act.put, List.setIfInBounds_toArray, List.set_cons_zero, List.set_cons_succ]
      refine wpAnyG_takeP 12 (v := ?v12a) rfl (by kernel_rfl) (fun _ _ _ h => h) (by rfl) ?h12a hS6 ?_
      case h12a => (intro wl; go_simp; try with_reducible rfl)
      try simp only [Act.put, List.setIfInBounds_toArray, List.set_cons_zero, List.set_cons_succ]
      refine wpAnyG_one 13 rfl (by kernel_rfl) (fun K hK => ?_)
      go_simp
      refine hK _ _ (fun _ => hS6) ?_
      clear hK K
      try simp only [Act.put, List.setIfInBounds_toArray, List.set_cons_zero, List.set_cons_succ]
      refine wpAnyG_one 14 rfl (by kernel_rfl) (fun K hK => ?_)
      go_simp
      refine hK _ _ (fun _ => hS6) ?_
      clear hK K
      try simp only [Act.put, List.setIfInBounds_toArray, List.set_cons_zero, List.set_cons_succ]
      refine wpAnyG_done (by kernel_rfl) ?_ _
      go_wp2_with fail
      go_ret2
      exact ⟨rfl, HB0.out.trans (HB6.out.mono HB0.out.size)⟩
    · go_simp
      go_at_call 75
      refine (HSd.out _ HB2.out).mono ?_
      rintro e w3 ⟨ad, l, cap, rfl, hl, hr3, hb3, _⟩
      obtain rfl : l = sl := hl.symm.trans HSl.out
      have hS2 := HS.out w3 hb3
      have HB3 := Lib.hid hb3
      have HR3 := Lib.hid hr3
      refine hK _ _ (fun _ => hS2) ?_
      clear hK K hr3 hb3 hl hS1
      try simp only [Act.put, List.setIfInBounds_toArray, List.set_cons_zero, List.set_cons_succ]
      obtain ⟨w4, hw4⟩ : ∃ w4, w4 = w3.alloc (.cells #[.string ⟨#[114, 117, 108, 101]⟩, .string (Wd.mkB (Lib.decDigits p.toNat)), .string m] 9) := ⟨_, rfl⟩
      have hrow : w4.ownsRow W0.heap.size 9 1 (.slice (some ⟨w3.heap.size, 0, none⟩) 3 3) 3 [.string ⟨#[114, 117, 108, 101]⟩, .string (Wd.mkB (Lib.decDigits p.toNat)), .string m] := by rw [hw4]; exact lit_row3 rfl HB3.out.size
      have hb4 : Below W0.heap.size W0 w4 := by rw [hw4]; exact HB3.out.alloc HB3.out.size _
      have hb34 : Below w3.heap.size w3 w4 := by rw [hw4]; exact (Below.refl _ _).alloc (Nat.le_refl _) _
      have hS4 := HS.out w4 hb4
      rw [hw4] at hS4
      refine wpAnyG_one 5 rfl (by kernel_rfl) (fun K hK => ?_)
      go_simp
      refine hK _ _ (fun _ => hS4) ?_
      clear hK K
      rw [← hw4] at hS4 ⊢
      have HB4 := Lib.hid hb4
      have HR4 := Lib.hid (HR3.out.below hb34)
      have HRow4 := Lib.hid hrow
      clear hw4 hrow hb4 hb34
      try simp only [Act.put, List.setIfInBounds_toArray, List.set_cons_zero, List.set_cons_succ]
      obtain ⟨g, hg⟩ : ∃ g, w3.heap.size = g := ⟨_, rfl⟩
      rw [hg] at HRow4 ⊢
      clear hg
      refine wpAnyG_one 9 rfl (by kernel_rfl) (fun K hK => ?_)
      (refine step_append_rds (by rfl) (.tmp 20) (.tmp 23) _ (by rfl) W0.heap.size 9 i0 _ 16 Tryz.underlying43 hii hz0 hz1 hz2 rfl _ 3 _ (by rfl) HRow4.out _ ((Pr.saidL k rps).map Value.string) (by rfl) HR4.out str_one (3 + l) (by rw [List.length_map, HSl.out]) (by unfold maxLen; omega) (by omega) HB4.out.size ?_; intro ad5 cap5 w5 hown5 hgrow5)
      have hb5 : Below W0.heap.size W0 w5 := grown_bel HB4.out (Nat.le_refl _) HRow4.out hgrow5
      have hS5 := HS.out w5 hb5
      refine hK _ _ (fun _ => hS5) ?_
      clear hK K
      have HR5 : Hid (RdsS w5 (.slice ad5 (3 + l) cap5) (Pr.ruleL ⟨p, m, k, rps⟩)) := by
        show Rds _ _ _
        exact ownsRow_rds hown5
      have HB5 := Lib.hid hb5
      clear hb5 hown5 hgrow5 HR4 HRow4 hS4
      try simp only [Act.put, List.setIfInBounds_toArray, List.set_cons_zero, List.set_cons_succ]
      refine wpAnyG_one 10 rfl (by kernel_rfl) (fun K hK => ?_)
      go_simp
      go_at_call 73
      refine (HSay.out _ _ HR5.out).mono ?_
      rintro e w6 ⟨rfl, hb6⟩
      have hb06 := HB5.out.trans (hb6.mono HB5.out.size)
      have hS6 := HS.out w6 hb06
      have HB6 := Lib.hid hb06
      refine hK _ _ (fun _ => hS6) ?_
      clear hK K hb6 hb06 hS5 HR5
      try simp only [Act.put, List.setIfInBounds_toArray, List.set_cons_zero, List.set_cons_succ]
      refine wpAnyG_takeP 11 (v := ?v11b) rfl (by kernel_rfl) (fun _ _ _ h => h) (by rfl) ?h11b hS6 ?_
      case h11b => (intro wl; go_simp; try with_reducible rfl)
      try simp only [Act.put, List.setIfInBounds_toArray, List.set_cons_zero, List.set_cons_succ]
      refine wpAnyG_takeP 12 (v := ?v12b) rfl (by kernel_rfl) (fun _ _ _ h => h) (by rfl) ?h12b hS6 ?_
      case h12b => (intro wl; go_simp; try with_reducible rfl)
      try simp only [Act.put, List.setIfInBounds_toArray, List.set_cons_zero, List.set_cons_succ]
      refine wpAnyG_one 13 rfl (by kernel_rfl) (fun K hK => ?_)
      go_simp
      refine hK _ _ (fun _ => hS6) ?_
      clear hK K
      try simp only [Act.put, List.setIfInBounds_toArray, List.set_cons_zero, List.set_cons_succ]
      refine wpAnyG_one 14 rfl (by kernel_rfl) (fun K hK => ?_)
      go_simp
      refine hK _ _ (fun _ => hS6) ?_
      clear hK K
      try simp only [Act.put, List.setIfInBounds_toArray, List.set_cons_zero, List.set_cons_succ]
      refine wpAnyG_done (by kernel_rfl) ?_ _
      go_wp2_with fail
      go_ret2
      exact ⟨rfl, HB0.out.trans (HB6.out.mono HB0.out.size)⟩
end Go.Proofs.YtlamhpiiikcpiaaGreatDoor
