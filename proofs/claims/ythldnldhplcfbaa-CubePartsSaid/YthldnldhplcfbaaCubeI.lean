/-
  Walks over package cube: Apart, with its closure and slices.ContainsFunc.
-/
import Derived.Test.YthldnldhplcfbaaCubeH
namespace Go.Proofs.Ythldnldhplcfbaa
open Go.RowKit

set_option maxHeartbeats 400000 in
theorem apart1_any (a b : ByteArray) (p : Addr) (w : World) (hc : w.cell? p = some (.string a)) (ha : a.size ≤ maxLen) (hb : b.size = a.size) (r : Bool) (hr : (Cb.meet a.data.toList b.data.toList).isSome = r) :
    Calls Try.prog 35 #[.string b, .pointer (some p)] w fun e w' => e = .returned (.bool r) ∧ Below w.heap.size w w' := by
  have HB := Lib.hid hb
  cases hm : Cb.meet a.data.toList b.data.toList with
  | none =>
    obtain rfl : false = r := by rw [← hr, hm]; rfl
    have HM := Lib.hid hm
    clear hm hb
    try clear hr
    go_enter Try.func35, Try.ntmps35
    go_wp2_with fail
    refine (meet_no _ HB.out ha HM.out).mono ?_
    rintro e w' ⟨rfl, hb1⟩
    have HB1 := Lib.hid hb1
    clear hb1
    go_wp2_with fail
    go_ret
    exact ⟨rfl, HB1.out⟩
  | some m =>
    obtain rfl : true = r := by rw [← hr, hm]; rfl
    have HM : Hid (Cb.meet a.data.toList b.data.toList = some (bs m).data.toList) := hm
    clear hm hb
    try clear hr
    go_enter Try.func35, Try.ntmps35
    go_wp2_with fail
    refine (meet_yes (m := bs m) _ HB.out ha HM.out).mono ?_
    rintro e w' ⟨rfl, hb1⟩
    have HB1 := Lib.hid hb1
    clear hb1
    go_wp2_with fail
    go_ret
    exact ⟨rfl, HB1.out⟩

set_option maxHeartbeats 800000 in
theorem IndexFunc_go (a : ByteArray) (pb po : Nat) (v : Value) (ss : List ByteArray) (w : World) (hr : RdsS w v ss) (hp : pb < w.heap.size) (hc : w.cell? ⟨pb, po, none⟩ = some (.string a)) (ha : a.size ≤ maxLen) (hs : ∀ s ∈ ss, s.size = a.size)
    (m : Nat) (hm : m ≤ ss.length) (h1 : ∀ i (hi : i < m), (Cb.meet a.data.toList (ss[i]'(by omega)).data.toList).isSome = false) (h2 : ∀ (h : m < ss.length), (Cb.meet a.data.toList ss[m].data.toList).isSome = true) (q : Int) (hq : q = if m < ss.length then (m : Int) else -1) :
    Calls Try.prog 38 #[v, .func (.func 35) #[] #[.pointer (some ⟨pb, po, none⟩)]] w fun e w' => e = .returned (.int .i64 q) ∧ Below w.heap.size w w' := by
  obtain ⟨ad, len, cap, rfl, hl, hlm, hel⟩ := rdsS_form hr
  have HL := Lib.hid hl
  have HEL := Lib.hid hel
  have HS := Lib.hid hs
  have H1 := Lib.hid h1
  have H2 := Lib.hid h2
  have HC := Lib.hid hc
  have HQ := Lib.hid hq
  have hml : m ≤ len := by omega
  unfold maxLen at hlm
  clear hr hl hel hs h1 h2 hc hq
  go_enter Try.func38, Try.ntmps38
  go_wp2_with fail
  go_loopw [5, 8] (fun _ k wr => ∃ n : Nat, n ≤ m ∧ k = .int .i64 n ∧ Hid (Below w.heap.size w wr)) (fun _ k _ => len - (intOf k).toNat)
  case atStart => exact ⟨0, Nat.zero_le _, rfl, Below.refl _ _⟩
  case round =>
    obtain ⟨n, hn, rfl, HB⟩ := hrel
    by_cases hlt : n < len
    · have hn' : n < ss.length := by rw [← HL.out]; exact hlt
      obtain ⟨b, off, rfl, hb, hcell⟩ := HEL.out n hn'
      have hcell2 : wr.cell? ⟨b, off + n, none⟩ = some (.string ss[n]) := (HB.out.cell (p := ⟨b, off + n, none⟩) hb).trans hcell
      have hcp : Hid (wr.cell? ⟨pb, po, none⟩ = some (.string a)) := (HB.out.cell (p := ⟨pb, po, none⟩) hp).trans HC.out
      have hwb := HB.out.size
      clear hcell
      by_cases hnm : n < m
      · go_wp2_with fail
        refine (apart1_any a ss[n] _ _ hcp.out ha (HS.out _ (List.getElem_mem hn')) false (H1.out n hnm)).mono ?_
        rintro e w1 ⟨rfl, hb1⟩
        have HB1 := Lib.hid (HB.out.trans (hb1.mono hwb))
        clear hb1
        go_wp2_with fail
        go_roundw
        case rel => exact ⟨n + 1, by omega, by go_num, HB1⟩
        case measure => simp [intOf]; omega
      · obtain rfl : n = m := by omega
        go_wp2_with fail
        refine (apart1_any a ss[n] _ _ hcp.out ha (HS.out _ (List.getElem_mem hn')) true (H2.out hn')).mono ?_
        rintro e w1 ⟨rfl, hb1⟩
        have HB1 := Lib.hid (HB.out.trans (hb1.mono hwb))
        clear hb1
        go_wp2_with fail
        go_ret
        have := HQ.out
        rw [if_pos hn'] at this
        exact ⟨by rw [this]; rfl, HB1.out⟩
    · go_wp2_with fail
      go_ret
      have := HQ.out
      rw [if_neg (by have := HL.out; omega)] at this
      exact ⟨by rw [this]; rfl, HB.out⟩

theorem ContainsFunc_any (a : ByteArray) (pb po : Nat) (v : Value) (ss : List ByteArray) (w : World) (hr : RdsS w v ss) (hp : pb < w.heap.size) (hc : w.cell? ⟨pb, po, none⟩ = some (.string a)) (ha : a.size ≤ maxLen) (hs : ∀ s ∈ ss, s.size = a.size)
    (r : Bool) (hr2 : (ss.all fun s => (Cb.meet a.data.toList s.data.toList).isNone) = !r) :
    Calls Try.prog 34 #[v, .func (.func 35) #[] #[.pointer (some ⟨pb, po, none⟩)]] w fun e w' => e = .returned (.bool r) ∧ Below w.heap.size w w' := by
  have hI : ∃ q : Int, (0 ≤ q ↔ r = true) ∧ -1 ≤ q ∧ q ≤ maxLen ∧ Calls Try.prog 38 #[v, .func (.func 35) #[] #[.pointer (some ⟨pb, po, none⟩)]] w fun e w' => e = .returned (.int .i64 q) ∧ Below w.heap.size w w' := by
    have hlen : ss.length ≤ maxLen := by
      obtain ⟨_, _, _, _, h1, h2, _⟩ := rdsS_form hr
      omega
    cases r with
    | false =>
      refine ⟨-1, by simp, by omega, by unfold maxLen; omega, IndexFunc_go a pb po v ss w hr hp hc ha hs ss.length (Nat.le_refl _) (fun i hi => ?_) (fun h => absurd h (Nat.lt_irrefl _)) _ (by rw [if_neg (Nat.lt_irrefl _)])⟩
      have := List.all_eq_true.1 hr2 _ (List.getElem_mem hi)
      simpa using this
    | true =>
      obtain ⟨m, hm, h1, h2⟩ := Cb.first_false _ _ hr2
      refine ⟨m, by simp, by omega, by omega, IndexFunc_go a pb po v ss w hr hp hc ha hs m (by omega) (fun i hi => ?_) (fun h => ?_) _ (by rw [if_pos hm])⟩
      · have := h2 i hi; simpa using this
      · simpa using h1
  obtain ⟨q, hq, hq1, hq2, hI⟩ := hI
  have HI := Lib.hid hI
  have HQ := Lib.hid hq
  unfold maxLen at hq2
  clear hI hq hr hr2 hs hc
  cases r with
  | false =>
    have h0 : q < 0 := by
      have := HQ.out
      simp at this
      exact this
    go_enter Try.func34, Try.ntmps34
    go_wp2_with fail
    refine HI.out.mono ?_
    rintro e w' ⟨rfl, hb⟩
    have HB := Lib.hid hb
    clear hb
    go_wp2_with fail
    go_ret
    exact ⟨ret_bool (by first | rfl | (simp; omega)), HB.out⟩
  | true =>
    have h0 : 0 ≤ q := by have := HQ.out; simpa using this
    go_enter Try.func34, Try.ntmps34
    go_wp2_with fail
    refine HI.out.mono ?_
    rintro e w' ⟨rfl, hb⟩
    have HB := Lib.hid hb
    clear hb
    go_wp2_with fail
    go_ret
    exact ⟨ret_bool (by first | rfl | (simp; omega)), HB.out⟩

/-- What holds of the world while a code's cell waits. -/
structure CodeInv (B : Nat) (w wr : World) : Prop where
  bel : Below B w wr
  size : B < wr.heap.size
  cell : wr.cell? ⟨B, 0, none⟩ = some (.int .i64 0)
  free : wr.frozen? ⟨B, 0, none⟩ = false

theorem CodeInv.start (w : World) : CodeInv w.heap.size w (w.alloc (.cells #[.int .i64 0] 23)) :=
  ⟨(Below.refl _ _).alloc (Nat.le_refl _) _, by simp, by simp [go_sem], by simp [go_sem]⟩

theorem CodeInv.below {B : Nat} {w wr w' : World} (h : CodeInv B w wr) (hb : Below wr.heap.size wr w') : CodeInv B w w' :=
  ⟨h.bel.trans (hb.mono (Nat.le_of_lt h.size)), Nat.lt_of_lt_of_le h.size hb.size, (hb.cell (p := ⟨B, 0, none⟩) h.size).trans h.cell, (hb.frozen (p := ⟨B, 0, none⟩) h.size).trans h.free⟩

theorem apartAt_lb (ss : List ByteArray) (n : Nat) (h : n < ss.length) : Cb.apartAt (lb ss) n = ((ss.take n).all fun s => (Cb.meet ss[n].data.toList s.data.toList).isNone) := by
  unfold Cb.apartAt
  have e : (lb ss).getD n [] = ss[n].data.toList := by
    rw [List.getD_eq_getElem?_getD, List.getElem?_eq_getElem (by simpa using h)]; simp
  rw [e, ← List.map_take, List.all_map]
  rfl

theorem rdsS_take {w : World} {v : Value} {ss : List ByteArray} (h : RdsS w v ss) (n : Nat) (hn : n < ss.length) :
    ∃ b off cap, v = .slice (some ⟨b, off, none⟩) ss.length cap ∧ ss.length ≤ cap ∧ cap ≤ maxLen ∧ b < w.heap.size ∧ w.cell? ⟨b, off + n, none⟩ = some (.string ss[n]) ∧ RdsS w (.slice (some ⟨b, off, none⟩) n cap) (ss.take n) := by
  rcases rdsS_cases h with ⟨a, c, rfl, rfl⟩ | ⟨b, off, len, cap, rfl, h1, h2, h3, h4, h5⟩
  · simp at hn
  · subst h1
    refine ⟨b, off, cap, rfl, h2, h3, h4, h5 n hn, ?_⟩
    have hl : (ss.take n).length = n := by simp; omega
    have := rdsS_mk (ss := ss.take n) (b := b) (off := off) (cap := cap) (w := w) (by omega) h3 h4 (fun i hi => by rw [h5 i (by omega)]; simp)
    rw [hl] at this
    exact this

set_option maxHeartbeats 800000 in
theorem Apart_go (v : Value) (ss : List ByteArray) (w : World) (hr : RdsS w v ss) (hsz : ∀ s ∈ ss, s.size ≤ maxLen) (hw : Cb.wrong (lb ss) = 0)
    (m : Nat) (hm : m ≤ ss.length) (h1 : ∀ i (_ : i < m), Cb.apartAt (lb ss) i = true) (h2 : m < ss.length → Cb.apartAt (lb ss) m = false) (q : Bool) (hq : q = decide (m = ss.length)) :
    Calls Try.prog 21 #[v] w fun e w' => e = .returned (.tuple #[.bool q, .int .i64 0]) ∧ Below w.heap.size w w' := by
  have HR := Lib.hid hr
  have HW := Lib.hid hw
  have HSZ := Lib.hid hsz
  obtain ⟨ad, len, cap, rfl, hl, hlm, hel⟩ := rdsS_form hr
  have HL := Lib.hid hl
  have hml : m ≤ len := by omega
  have HWI : Hid (∀ s ∈ ss, ∀ t ∈ ss, s.size = t.size) := fun s hs t ht => by
    have h := (Cb.wrong_zero hw).2
    have a1 := h s.data.toList (List.mem_map.2 ⟨s, hs, rfl⟩)
    have a2 := h t.data.toList (List.mem_map.2 ⟨t, ht, rfl⟩)
    have : s.data.toList.length = t.data.toList.length := a1.trans a2.symm
    simpa using this
  have H1 := Lib.hid h1
  have H2 := Lib.hid h2
  have HQ := Lib.hid hq
  unfold maxLen at hlm
  clear hr hw hsz hl hel hm h1 h2 hq
  go_enter_defers Try.func21, Try.ntmps21
  go_wp2_with fail
  refine (must_ok (HR.out.below ((Below.refl _ _).alloc (Nat.le_refl _) _)) HSZ.out HW.out).mono ?_
  rintro e w' ⟨rfl, rfl⟩
  have HI := Lib.hid (CodeInv.start w)
  generalize w.alloc (.cells #[.int .i64 0] 23) = w1 at *
  go_wp2_with fail
  go_loopw [4, 5, 10] (fun _ _ k wr => ∃ n : Nat, n ≤ m ∧ k = .int .i64 n ∧ Hid (CodeInv w.heap.size w wr)) (fun _ _ k _ => len - (intOf k).toNat)
  case atStart => exact ⟨0, Nat.zero_le _, rfl, HI⟩
  case round =>
    obtain ⟨n, hn, rfl, HV⟩ := hrel
    clear HI
    by_cases hlt : n < len
    · have hn' : n < ss.length := by rw [← HL.out]; exact hlt
      obtain ⟨b, off, cap', hv, hcap, hcm, hb, hcell, hrt⟩ := rdsS_take HR.out n hn'
      injection hv with e1 e2 e3
      subst e1 e3
      have hbw := HV.out.size
      have hbb := HV.out.bel
      have hsle : w.heap.size ≤ wr.heap.size := Nat.le_of_lt hbw
      have hcell2 : wr.cell? ⟨b, off + n, none⟩ = some (.string ss[n]) := (hbb.cell (p := ⟨b, off + n, none⟩) hb).trans hcell
      have hi0 : (0 : Int) ≤ (n : Int) := by omega
      have hi1 : (n : Int) ≤ (cap : Int) := by omega
      have HRT : Hid (RdsS (wr.alloc (.cells #[.string ss[n]] 9)) (.slice (some ⟨b, off, none⟩) n cap) (ss.take n)) :=
        hrt.below (hbb.trans ((Below.refl _ _).alloc hsle _))
      have hss : Hid (∀ s ∈ ss.take n, s.size = ss[n].size) := fun s hs => HWI.out s (List.mem_of_mem_take hs) _ (List.getElem_mem hn')
      have hmx := HSZ.out _ (List.getElem_mem hn')
      have HA := Lib.hid (apartAt_lb ss n hn')
      have e2' := Lib.hid e2
      unfold maxLen at hcm
      clear hcell hrt hb hbb e2 hcap hcm
      by_cases hnm : n < m
      · go_wp2_with fail
        refine (ContainsFunc_any ss[n] wr.heap.size 0 _ (ss.take n) _ HRT.out (by simp) (by simp [go_sem]) hmx hss.out false (by rw [← HA.out, H1.out n hnm]; rfl)).mono ?_
        rintro e w2 ⟨rfl, hb2⟩
        have HV2 := Lib.hid ((HV.out.below ((Below.refl _ _).alloc (Nat.le_refl _) _)).below hb2)
        clear hb2
        go_wp2_with fail
        go_roundw
        case rel => exact ⟨n + 1, by omega, by go_num, HV2⟩
        case measure => simp [intOf]; omega
      · obtain rfl : n = m := by omega
        go_wp2_with fail
        refine (ContainsFunc_any ss[n] wr.heap.size 0 _ (ss.take n) _ HRT.out (by simp) (by simp [go_sem]) hmx hss.out true (by rw [← HA.out, H2.out hn']; rfl)).mono ?_
        rintro e w2 ⟨rfl, hb2⟩
        have HV2 := Lib.hid ((HV.out.below ((Below.refl _ _).alloc (Nat.le_refl _) _)).below hb2)
        have hc0 := HV2.out.cell
        have hf0 := HV2.out.free
        clear hb2
        go_wp2_with fail
        have hc1 := cell_set_same (.int .i64 0) hc0
        have hqf : q = false := by rw [HQ.out]; simp; omega
        refine door_ret ⟨.tuple #[.bool false, .int .i64 0], by simp [results, Try.results21, go_sem, hc1], by rw [hqf], HV2.out.bel.setCell (Nat.le_refl _) _⟩
    · have hc0 := HV.out.cell
      have hf0 := HV.out.free
      go_wp2_with fail
      have hc1 := cell_set_same (.int .i64 0) hc0
      have hqt : q = true := by rw [HQ.out]; have := HL.out; simp; omega
      refine door_ret ⟨.tuple #[.bool true, .int .i64 0], by simp [results, Try.results21, go_sem, hc1], by rw [hqt], HV.out.bel.setCell (Nat.le_refl _) _⟩

set_option maxHeartbeats 400000 in
theorem Apart_bad (v : Value) (ss : List ByteArray) (w : World) (hr : RdsS w v ss) (hsz : ∀ s ∈ ss, s.size ≤ maxLen) (hw : ¬ Cb.wrong (lb ss) = 0) (q : Int) (hq : Cb.wrong (lb ss) = q) :
    Calls Try.prog 21 #[v] w fun e w' => e = .returned (.tuple #[.bool false, .int .i64 q]) ∧ Below w.heap.size w w' := by
  have HR := Lib.hid hr
  have HW := Lib.hid hw
  have HSZ := Lib.hid hsz
  have HQ := Lib.hid hq
  clear hr hw hsz hq
  go_enter_defers Try.func21, Try.ntmps21
  go_wp2_with fail
  refine (must_bad (HR.out.below ((Below.refl _ _).alloc (Nat.le_refl _) _)) HSZ.out HW.out).mono ?_
  rintro e w' ⟨rfl, rfl⟩
  rw [HQ.out]
  have HI := CodeInv.start w
  go_wp2_with fail
  refine door_fault (p := ⟨w.heap.size, 0, none⟩) q 0 HI.size HI.cell HI.free fun W' hB hC => ?_
  exact ⟨.tuple #[.bool false, .int .i64 q], by simp [results, Try.results21, go_sem, hC], rfl, HI.bel.trans hB⟩

/-- What Apart answers, program and reference alike. -/
def ApartPost (fnum : Nat) : Prop := ∀ (v : Value) (ss : List ByteArray) (w : World), RdsS w v ss → (∀ s ∈ ss, s.size ≤ maxLen) →
    Calls Try.prog fnum #[v] w fun e w' => e = .returned (.tuple #[.bool (Cb.ApartS (lb ss)).1, .int .i64 (Cb.ApartS (lb ss)).2]) ∧ Below w.heap.size w w'

theorem apart_first (ss : List ByteArray) : ∃ m, m ≤ ss.length ∧ (∀ i (_ : i < m), Cb.apartAt (lb ss) i = true) ∧ (m < ss.length → Cb.apartAt (lb ss) m = false) ∧ Cb.apartS (lb ss) = decide (m = ss.length) := by
  cases h : Cb.apartS (lb ss) with
  | true =>
    refine ⟨ss.length, Nat.le_refl _, fun i hi => ?_, fun h => absurd h (Nat.lt_irrefl _), by simp⟩
    unfold Cb.apartS at h
    exact List.all_eq_true.1 h i (List.mem_range.2 (by simpa using hi))
  | false =>
    unfold Cb.apartS at h
    obtain ⟨m, hm, h1, h2⟩ := Cb.first_false _ _ h
    have hm' : m < ss.length := by simpa using hm
    refine ⟨m, Nat.le_of_lt hm', fun i hi => by simpa using h2 i hi, fun _ => by simpa using h1, by simp; omega⟩

theorem Apart_any : ApartPost 21 := by
  intro v ss w hr hsz
  by_cases hw : Cb.wrong (lb ss) = 0
  · obtain ⟨m, hm, h1, h2, h3⟩ := apart_first ss
    refine (Apart_go v ss w hr hsz hw m hm (fun i hi => h1 i hi) h2 _ rfl).mono fun e w' h => ⟨?_, h.2⟩
    rw [h.1]; unfold Cb.ApartS; rw [if_pos hw, h3]
  · refine (Apart_bad v ss w hr hsz hw _ rfl).mono fun e w' h => ⟨?_, h.2⟩
    rw [h.1]; unfold Cb.ApartS; rw [if_neg hw]
end Go.Proofs.Ythldnldhplcfbaa
