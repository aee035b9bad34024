/-
  Walks over package words and the reference: Sign; and the law WordsKinds.
-/
import Derived.Test.YtlamhpiiikcpiaaGreatDoorRgF
import Derived.Test.YtlamhpiiikcpiaaGreatDoorRgP
import Derived.Test.YtlamhpiiikcpiaaGreatDoorRgI
namespace Go.Proofs.YtlamhpiiikcpiaaGreatDoor
open Go.RowKit Go.Shelf
set_option linter.unusedVariables false
set_option linter.unusedSimpArgs false
/-- Is a text a sign? -/
def Wd.signB (l : List UInt8) : Bool := isPair l || l.length == 1 && isSingle (l.headD 0)
theorem signB_pair {s : ByteArray} (h : Wd.isPair s.data.toList = true) : Wd.signB s.data.toList = true := by unfold Wd.signB; rw [h]; rfl
theorem signB_one {s : ByteArray} (h : Wd.isPair s.data.toList = false) (h1 : s.size = 1) : Wd.signB s.data.toList = Wd.isSingle s[0] := by
  unfold Wd.signB; rw [h, size_list, head_byte s (by omega), show (s.size == 1) = true by simp [h1]]; rfl
theorem signB_no {s : ByteArray} (h : Wd.isPair s.data.toList = false) (h1 : ¬ s.size = 1) : Wd.signB s.data.toList = false := by
  unfold Wd.signB; rw [h, size_list]; simp [h1]
set_option maxHeartbeats 1600000 in
set_option maxRecDepth 20000 in
theorem rSign_any (s : ByteArray) (w : World) : Calls Tryz.prog 132 #[.string s] w fun e w' => e = .returned (.bool (Wd.signB s.data.toList)) ∧ w = w' := by
  obtain ⟨p, hp⟩ : ∃ p, Wd.isPair s.data.toList = p := ⟨_, rfl⟩
  have HP := Lib.hid (fun W => rdouble_is s p hp W)
  cases p with
  | true =>
    rw [signB_pair hp]
    clear hp
    go_enter Tryz.func132, Tryz.ntmps132
    go_wp2_with ((with_reducible refine (HP.out _).mono ?_); rintro e w' ⟨rfl, rfl⟩)
    go_ret
    exact ⟨rfl, rfl⟩
  | false =>
    by_cases h1 : s.size = 1
    · rw [signB_one hp h1]
      have hz : ((s.size : Int) == 1) = true := by simp [h1]
      have hs0 : (0 : Int) < (s.size : Int) := by omega
      obtain ⟨q, hq⟩ : ∃ q, Wd.isSingle s[0] = q := ⟨_, rfl⟩
      have HI := Lib.hid (fun W => rsingle_is s[0] q hq W)
      rw [hq]
      clear hp hq
      go_enter Tryz.func132, Tryz.ntmps132
      go_wp2_with (first | ((with_reducible refine (HP.out _).mono ?_); rintro e w' ⟨rfl, rfl⟩) | ((with_reducible refine (HI.out _).mono ?_); rintro e w' ⟨rfl, rfl⟩))
      go_ret
      exact ⟨rfl, rfl⟩
    · rw [signB_no hp h1]
      have hz : ((s.size : Int) == 1) = false := by simp; omega
      clear hp
      go_enter Tryz.func132, Tryz.ntmps132
      go_wp2_with ((with_reducible refine (HP.out _).mono ?_); rintro e w' ⟨rfl, rfl⟩)
      go_ret
      exact ⟨rfl, rfl⟩
def fewB (ss : List ByteArray) : List ByteArray := (ss.take 60).map cutB
/-- What few tells. -/
def FewPost (ss : List ByteArray) (w : World) (e : Ending) (w' : World) : Prop :=
  ∃ ad c, e = .returned (.slice ad (fewB ss).length c) ∧ RdsS w' (.slice ad (fewB ss).length c) (fewB ss) ∧ Below w.heap.size w w'
theorem rline_err (s : ByteArray) (w : World) (hs : s.size ≤ 1048576) (p : Nat) (h : Wd.line 1 s.data.toList 0 = .error p) :
    Calls Tryz.prog 92 #[.string s, .int .i64 1] w fun e w' => e = .returned (.tuple #[.slice none 0 0, .int .i64 p]) ∧ Below w.heap.size w w' :=
  (rline_any 1 s w hs).mono fun e w' hp => by unfold RLinePost at hp; rw [h] at hp; exact hp
theorem rline_ok (s : ByteArray) (w : World) (hs : s.size ≤ 1048576) (ws : List Wrd) (h : Wd.line 1 s.data.toList 0 = .ok ws) :
    Calls Tryz.prog 92 #[.string s, .int .i64 1] w fun e w' => ∃ ad c, e = .returned (.tuple #[.slice ad ws.length c, .int .i64 (-1)]) ∧ RdsW (fun _ => True) w' (.slice ad ws.length c) ws ∧ Below w.heap.size w w' :=
  (rline_any 1 s w hs).mono fun e w' hp => by
    unfold RLinePost at hp
    rw [h] at hp
    obtain ⟨⟨ad, c, rfl, ho⟩, hb⟩ := hp
    exact ⟨ad, c, rfl, (ownsRow_rdsW ho).mono fun _ _ _ => trivial, hb⟩
theorem line_place {s : ByteArray} {p : Nat} (h : Wd.line 1 s.data.toList 0 = .error p) : p ≤ s.size := by
  have := line_err 1 _ _ _ _ h
  rw [size_list] at this
  omega
theorem str_ne3 {a b : ByteArray} (h : ¬ a = b) : (a.toList == b.toList) = false ∧ (!a.toList == b.toList) = true := by
  have : ¬ a.toList = b.toList := fun e => h (by rw [ByteArray.toList_eq, ByteArray.toList_eq] at e; exact ba_inj e)
  constructor <;> simpa using this
set_option maxHeartbeats 3200000 in
set_option maxRecDepth 20000 in
theorem r3word_any (s : ByteArray) (w : World) (hs : s.size ≤ 1048576) : Calls Tryz.prog 109 #[.string s] w fun e w' => e = .returned (.bool (Wd.wordB s.data.toList)) ∧ Below w.heap.size w w' := by
  obtain ⟨d, hd⟩ : ∃ d, Wd.signB s.data.toList = d := ⟨_, rfl⟩
  have HS := Lib.hid (fun W => rSign_any s W)
  rw [hd] at HS
  cases d with
  | true =>
    have hw : Hid (Wd.wordB s.data.toList = true) := by
      show _ = _
      refine Wd.sign_word ?_
      unfold Wd.signB at hd
      simpa using hd
    clear hd
    go_enter Tryz.func109, Tryz.ntmps109
    go_wp2_with ((with_reducible refine (HS.out _).mono ?_); rintro e w' ⟨rfl, rfl⟩)
    go_ret
    exact ⟨ret_bool hw.out.symm, Below.refl _ _⟩
  | false =>
    clear hd
    have h1 := Wd.oneB_eq 1 s.data.toList
    unfold Wd.oneB at h1
    cases hl : Wd.line 1 s.data.toList 0 with
    | error p =>
      rw [hl] at h1
      have H1 := Lib.hid h1
      have HL := Lib.hid (fun W => rline_err s W hs p hl)
      have hp : (0 : Int) ≤ (p : Int) := by omega
      have hp2 := line_place hl
      have hp3 : decide ((p : Int) < 0) = false := by simp
      clear hl h1
      go_enter Tryz.func109, Tryz.ntmps109
      go_wp2_with ((with_reducible refine (HS.out _).mono ?_); rintro e w' ⟨rfl, rfl⟩)
      refine (HL.out _).mono ?_
      rintro e w1 ⟨rfl, hb⟩
      have HB := Lib.hid hb
      clear hb
      go_wp2_with fail
      go_ret
      exact ⟨ret_bool H1.out, HB.out⟩
    | ok ws =>
      rw [hl] at h1
      have H1 : Hid (decide (ws.map Wrd.t = [s]) = Wd.wordB s.data.toList) := by show _ = _; rw [← h1, Wd.mkB_of]
      have HL := Lib.hid (fun W => rline_ok s W hs ws hl)
      clear hl h1
      by_cases hlen : ws.length = 1
      · match ws, hlen with
        | [x], _ =>
          by_cases hx : x.t = s
          · have H2 : Hid (Wd.wordB s.data.toList = true) := by show _ = _; rw [← H1.out]; simp [hx]
            go_enter Tryz.func109, Tryz.ntmps109
            go_wp2_with ((with_reducible refine (HS.out _).mono ?_); rintro e w' ⟨rfl, rfl⟩)
            refine (HL.out _).mono ?_
            rintro e w1 ⟨ad, c, rfl, hr, hb⟩
            obtain ⟨b, off, rfl, hbl, k0, k1, k2⟩ := hr.at_ 0 (by simp)
            have k0' : w1.cell? ⟨b, off, none⟩ = some (.string s) := by rw [← hx]; exact k0
            have HB := Lib.hid hb
            clear hb hr k0 k1 k2 hx
            go_wp2_with fail
            go_ret
            exact ⟨ret_bool H2.out.symm, HB.out⟩
          · have H2 : Hid (Wd.wordB s.data.toList = false) := by show _ = _; rw [← H1.out]; simp [hx]
            obtain ⟨hx1, hx2⟩ := str_ne3 hx
            go_enter Tryz.func109, Tryz.ntmps109
            go_wp2_with ((with_reducible refine (HS.out _).mono ?_); rintro e w' ⟨rfl, rfl⟩)
            refine (HL.out _).mono ?_
            rintro e w1 ⟨ad, c, rfl, hr, hb⟩
            obtain ⟨b, off, rfl, hbl, k0, k1, k2⟩ := hr.at_ 0 (by simp)
            have k0' : w1.cell? ⟨b, off, none⟩ = some (.string x.t) := k0
            have HB := Lib.hid hb
            clear hb hr k0 k1 k2 hx
            go_wp2_with fail
            go_ret
            exact ⟨ret_bool H2.out.symm, HB.out⟩
      · have H2 : Hid (Wd.wordB s.data.toList = false) := by
          show _ = _
          rw [← H1.out, decide_eq_false_iff_not]
          intro e
          exact hlen (by have := congrArg List.length e; simpa using this)
        have hz : ((ws.length : Int) == 1) = false := by simp; omega
        have hz2 : (ws.length == 1) = false := by simpa using hlen
        go_enter Tryz.func109, Tryz.ntmps109
        go_wp2_with ((with_reducible refine (HS.out _).mono ?_); rintro e w' ⟨rfl, rfl⟩)
        refine (HL.out _).mono ?_
        rintro e w1 ⟨ad, c, rfl, hr, hb⟩
        have HB := Lib.hid hb
        clear hb hr
        go_wp2_with fail
        go_ret
        exact ⟨ret_bool H2.out.symm, HB.out⟩
set_option maxHeartbeats 6400000 in
set_option maxRecDepth 20000 in
theorem rglued_any (a b : ByteArray) (w : World) (hs : a.size + b.size ≤ 1048576) (ha : Wd.wordB a.data.toList = true) (hb : Wd.wordB b.data.toList = true) :
    Calls Tryz.prog 110 #[.string a, .string b] w fun e w' => e = .returned (.bool (Wd.gluedB a.data.toList b.data.toList)) ∧ Below w.heap.size w w' := by
  have h1 := Wd.twoB_eq 1 ha hb
  unfold Wd.twoB at h1
  rw [← Joins.data_append] at h1
  have hsz : (a ++ b).size ≤ 1048576 := by rw [ByteArray.size_append]; exact hs
  have hsum : ¬ (9223372036854775807 < a.size + b.size) := by omega
  obtain ⟨q, hq⟩ : ∃ q, Wd.gluedB a.data.toList b.data.toList = q := ⟨_, rfl⟩
  rw [hq] at h1 ⊢
  clear hq ha hb
  cases hl : Wd.line 1 (a ++ b).data.toList 0 with
  | error p =>
    rw [hl] at h1
    have H1 : Hid (q = true) := by show _ = _; simpa using h1.symm
    have HL := Lib.hid (fun W => rline_err (a ++ b) W hsz p hl)
    have hp2 := line_place hl
    have hp3 : (0 : Int) ≤ (p : Int) := by omega
    clear hl h1
    go_enter Tryz.func110, Tryz.ntmps110
    go_wp2_with fail
    refine (HL.out _).mono ?_
    rintro e w1 ⟨rfl, hb⟩
    have HB := Lib.hid hb
    clear hb
    go_wp2_with fail
    go_ret
    exact ⟨ret_bool H1.out.symm, HB.out⟩
  | ok ws =>
    rw [hl] at h1
    have H1 : Hid (decide (ws.map Wrd.t = [a, b]) = !q) := by show _ = _; rw [← h1, Wd.mkB_of, Wd.mkB_of]
    have HL := Lib.hid (fun W => rline_ok (a ++ b) W hsz ws hl)
    clear hl h1
    by_cases hlen : ws.length = 2
    · match ws, hlen with
      | [x, y], _ =>
        have HX : Hid (q = !(decide (x.t = a) && decide (y.t = b))) := by
          show _ = _
          have := H1.out
          simp only [List.map_cons, List.map_nil, List.cons.injEq, and_true] at this
          rw [← Bool.decide_and, this, Bool.not_not]
        by_cases hx : x.t = a
        · by_cases hy : y.t = b
          · have H2 : Hid (q = false) := by show _ = _; rw [HX.out, hx, hy]; simp
            go_enter Tryz.func110, Tryz.ntmps110
            go_wp2_with fail
            refine (HL.out _).mono ?_
            rintro e w1 ⟨ad, c, rfl, hr, hb⟩
            obtain ⟨b1, o1, rfl, hbl, k0, k1, k2⟩ := hr.at_ 0 (by simp)
            obtain ⟨b2, o2, e2, hbl2, j0, j1, j2⟩ := hr.at_ 1 (by simp)
            injection e2 with e2
            injection e2 with e2 e3 _
            subst e2 e3
            have k0' : w1.cell? ⟨b1, o1, none⟩ = some (.string a) := by rw [← hx]; exact k0
            have j0' : w1.cell? ⟨b1, o1 + 3, none⟩ = some (.string b) := by rw [← hy]; exact j0
            have HB := Lib.hid hb
            clear hb hr k0 k1 k2 hx hy j0 j1 j2
            go_wp2_with fail
            go_ret
            exact ⟨ret_bool H2.out.symm, HB.out⟩
          · have H2 : Hid (q = true) := by show _ = _; rw [HX.out]; simp [hy]
            obtain ⟨hy1, hy2⟩ := str_ne3 hy
            go_enter Tryz.func110, Tryz.ntmps110
            go_wp2_with fail
            refine (HL.out _).mono ?_
            rintro e w1 ⟨ad, c, rfl, hr, hb⟩
            obtain ⟨b1, o1, rfl, hbl, k0, k1, k2⟩ := hr.at_ 0 (by simp)
            obtain ⟨b2, o2, e2, hbl2, j0, j1, j2⟩ := hr.at_ 1 (by simp)
            injection e2 with e2
            injection e2 with e2 e3 _
            subst e2 e3
            have k0' : w1.cell? ⟨b1, o1, none⟩ = some (.string a) := by rw [← hx]; exact k0
            have j0' : w1.cell? ⟨b1, o1 + 3, none⟩ = some (.string y.t) := j0
            have HB := Lib.hid hb
            clear hb hr k0 k1 k2 hx hy j0 j1 j2
            go_wp2_with fail
            go_ret
            exact ⟨ret_bool H2.out.symm, HB.out⟩
        · have H2 : Hid (q = true) := by show _ = _; rw [HX.out]; simp [hx]
          obtain ⟨hx1, hx2⟩ := str_ne3 hx
          go_enter Tryz.func110, Tryz.ntmps110
          go_wp2_with fail
          refine (HL.out _).mono ?_
          rintro e w1 ⟨ad, c, rfl, hr, hb⟩
          obtain ⟨b1, o1, rfl, hbl, k0, k1, k2⟩ := hr.at_ 0 (by simp)
          have k0' : w1.cell? ⟨b1, o1, none⟩ = some (.string x.t) := k0
          have HB := Lib.hid hb
          clear hb hr k0 k1 k2 hx
          go_wp2_with fail
          go_ret
          exact ⟨ret_bool H2.out.symm, HB.out⟩
    · have H2 : Hid (q = true) := by
        show _ = _
        have h2 := H1.out
        rw [decide_eq_false (fun e => hlen (by have := congrArg List.length e; simpa using this))] at h2
        simpa using h2.symm
      have hz : ((ws.length : Int) == 2) = false := by simp; omega
      have hz2 : ((ws.length : Int) != 2) = true := by simp; omega
      have hz3 : (ws.length != 2) = true := by simpa using hlen
      have hz4 : (ws.length == 2) = false := by simpa using hlen
      go_enter Tryz.func110, Tryz.ntmps110
      go_wp2_with fail
      refine (HL.out _).mono ?_
      rintro e w1 ⟨ad, c, rfl, hr, hb⟩
      have HB := Lib.hid hb
      clear hb hr
      go_wp2_with fail
      go_ret
      exact ⟨ret_bool H2.out.symm, HB.out⟩
set_option maxHeartbeats 6400000 in
set_option maxRecDepth 20000 in
theorem rsay_any (v : Value) (ss : List ByteArray) (w : World) (hr : RdsS w v ss) (hm : ∀ x ∈ ss, x.size ≤ 500000) (hl : ss.length ≤ 1000000) :
    Calls Tryz.prog 79 #[v] w (SayPost ss w) := by
  obtain ⟨ad, n, cp, rfl, hn, hnm, hcell⟩ := rdsS_form hr
  have HC := Lib.hid hcell
  have HM := Lib.hid hm
  have HN := Lib.hid hn
  have hnl : n ≤ 1000000 := by omega
  clear hr hcell hm hn hnm hl
  go_enter Tryz.func79, Tryz.ntmps79
  go_wp2_with fail
  go_loopw [4] (fun i wr => ∃ k : Nat, k ≤ n ∧ i = .int .i64 k ∧ Hid (∀ j (h : j < ss.length), j < k → Wd.wordB ss[j].data.toList = true) ∧ Hid (Below w.heap.size w wr)) (fun i wr => n - (intOf i).toNat)
  case atStart => exact ⟨0, Nat.zero_le _, rfl, fun j h h0 => absurd h0 (Nat.not_lt_zero _), Below.refl _ _⟩
  case round =>
    obtain ⟨k, hk, rfl, hall, hbw⟩ := hrel
    by_cases hlt : k < n
    · have hks : k < ss.length := by have := HN.out; omega
      have hkz : (k : Int) < (n : Int) := by omega
      obtain ⟨x, hx⟩ : ∃ x, ss[k] = x := ⟨_, rfl⟩
      obtain ⟨bl, ol, rfl, hbl, hc0⟩ := HC.out k hks
      rw [hx] at hc0
      have hxm : x.size ≤ 500000 := by rw [← hx]; exact HM.out _ (List.getElem_mem hks)
      have c1 := (hbw.out.cell (p := ⟨bl, ol + k, none⟩) hbl).trans hc0
      obtain ⟨q, hq⟩ : ∃ q, Wd.wordB x.data.toList = q := ⟨_, rfl⟩
      have HQ := Lib.hid hq
      have HX := Lib.hid hx
      have HA := Lib.hid (fun W => r3word_any x W (by omega))
      rw [hq] at HA
      clear hc0 hx hq
      cases q with
      | true =>
        have HAll : Hid (∀ j (h : j < ss.length), j < k + 1 → Wd.wordB ss[j].data.toList = true) := fun j h h1 => by
          by_cases hj : j = k
          · subst hj; rw [HX.out]; exact HQ.out
          · exact hall.out j h (by omega)
        go_wp2_with fail
        refine (HA.out _).mono ?_
        rintro e w1 ⟨rfl, hb1⟩
        have HB1 : Hid (Below w.heap.size w w1) := hbw.out.trans (hb1.mono hbw.out.size)
        clear hb1
        go_wp2_with fail
        go_roundw
        case rel => exact ⟨k + 1, by omega, by go_num, HAll, HB1⟩
        case measure => simp [intOf]; omega
      | false =>
        have HG : Hid (Wd.say (ss.map fun x => x.data.toList) = none) := say_bad hks (by rw [HX.out]; exact HQ.out)
        go_wp2_with fail
        refine (HA.out _).mono ?_
        rintro e w1 ⟨rfl, hb1⟩
        have HB1 : Hid (Below w.heap.size w w1) := hbw.out.trans (hb1.mono hbw.out.size)
        clear hb1
        go_wp2_with fail
        go_ret2
        unfold SayPost
        rw [HG.out]
        exact ⟨rfl, HB1.out⟩
    · have hkz : decide ((k : Int) < (n : Int)) = false := by simp; omega
      have HG : Hid (Wd.say (ss.map fun x => x.data.toList) = some (Wd.jn (ss.map fun x => x.data.toList))) := say_good fun j hj => hall.out j hj (by have := HN.out; omega)
      have HAll : Hid (∀ j (h : j < ss.length), Wd.wordB ss[j].data.toList = true) := fun j h => hall.out j h (by have := HN.out; omega)
      obtain ⟨wo, rfl⟩ : ∃ wo : World, wo = wr := ⟨wr, rfl⟩
      go_wp2_with fail
      go_loopw [5, 6] (fun o i wr => ∃ (k : Nat) (t : ByteArray), k ≤ n ∧ i = .int .i64 k ∧ o = .string t ∧ t.size ≤ 600000000000 ∧ Hid (t.data.toList = Wd.jn ((ss.map fun x => x.data.toList).take k)) ∧ Hid (Below w.heap.size w wr)) (fun _ i wr => n - (intOf i).toNat)
      case atStart => exact ⟨0, ⟨#[]⟩, Nat.zero_le _, rfl, rfl, by decide, rfl, hbw.out⟩
      case round =>
        clear hbw hall hk hkz hlt
        obtain ⟨k, t, hk, rfl, rfl, htm, ht, hbw⟩ := hrel
        by_cases hlt : k < n
        · have hks : k < ss.length := by have := HN.out; omega
          have hkz : (k : Int) < (n : Int) := by omega
          obtain ⟨x, hx⟩ : ∃ x, ss[k] = x := ⟨_, rfl⟩
          obtain ⟨bl, ol, rfl, hbl, hc0⟩ := HC.out k hks
          rw [hx] at hc0
          have hxm : x.size ≤ 500000 := by rw [← hx]; exact HM.out _ (List.getElem_mem hks)
          have c1 := (hbw.out.cell (p := ⟨bl, ol + k, none⟩) hbl).trans hc0
          have hbl1 : bl < wr.heap.size := Nat.lt_of_lt_of_le hbl hbw.out.size
          have hwx : Wd.wordB x.data.toList = true := by rw [← hx]; exact HAll.out k hks
          have HLen : Hid ((Wd.jn ((ss.map fun x => x.data.toList).take (k + 1))).length ≤ 600000000000) := by
            have h1 := Wd.jn_len 500000 ((ss.map fun x => x.data.toList).take (k + 1)) (fun y hy => by
              obtain ⟨z, hz, rfl⟩ := List.mem_map.1 (List.mem_of_mem_take hy)
              rw [← Lib.size_eq]; exact HM.out z hz)
            have h2 : ((ss.map fun x => x.data.toList).take (k + 1)).length ≤ 1000000 := by rw [List.length_take]; omega
            have h3 := Nat.mul_le_mul_right (500000 + 1) h2
            show _ ≤ _
            omega
          have hsum : ¬ (9223372036854775807 < t.size + x.size) := by omega
          have HX := Lib.hid hx
          have HWx := Lib.hid hwx
          clear hc0 hx hwx
          by_cases hk0 : k = 0
          · have HT : Hid ((t ++ x).data.toList = Wd.jn ((ss.map fun x => x.data.toList).take (k + 1))) := by
              show _ = _
              rw [Joins.data_append, ht.out]
              subst hk0
              rw [map_take_succ hks, HX.out]
              simp [Wd.jn]
            subst hk0
            have c0 : wr.cell? ⟨bl, ol, none⟩ = some (.string x) := c1
            clear c1
            go_wp2_with fail
            go_quiet (fail)
            go_wp2_with fail
            go_roundw
            case rel => exact ⟨1, t ++ x, by omega, by go_num, rfl, by have := HLen.out; rw [← HT.out, size_list] at this; exact this, HT, below_dN hbw.out _⟩
            case measure => simp [intOf]; omega
          · obtain ⟨p, hp⟩ : ∃ p : Nat, k = p + 1 := ⟨k - 1, by omega⟩
            have hps : p < ss.length := by omega
            obtain ⟨y, hy⟩ : ∃ y, ss[p] = y := ⟨_, rfl⟩
            obtain ⟨b2, o2, e2, hb2l, hc2⟩ := HC.out p hps
            injection e2 with e2
            injection e2 with e3 e4 _
            subst e3 e4
            rw [hy] at hc2
            have c9 := (hbw.out.cell (p := ⟨bl, ol + p, none⟩) hbl).trans hc2
            have hym : y.size ≤ 500000 := by rw [← hy]; exact HM.out _ (List.getElem_mem hps)
            have hwy : Wd.wordB y.data.toList = true := by rw [← hy]; exact HAll.out p hps
            have HG2 := Lib.hid (fun W => rglued_any y x W (by omega) hwy HWx.out)
            obtain ⟨q, hq⟩ : ∃ q, Wd.gluedB y.data.toList x.data.toList = q := ⟨_, rfl⟩
            rw [hq] at HG2
            have hT : Wd.jn ((ss.map fun x => x.data.toList).take (k + 1)) = Wd.jn ((ss.map fun x => x.data.toList).take k) ++ ((if q then [32] else []) ++ x.data.toList) := by
              rw [map_take_succ hks, HX.out, ← hq]
              have : (ss.map fun x => x.data.toList).take k = (ss.map fun x => x.data.toList).take p ++ [y.data.toList] := by
                subst hp
                rw [map_take_succ hps, hy]
              rw [this]
              exact Wd.jn_snoc _ _ _
            have HTT := Lib.hid hT
            have hw1 : IntKind.i64.wrap ((k : Int) - 1) = (p : Int) := by
              have : (k : Int) - 1 = (p : Int) := by omega
              rw [this]; exact IntWalk.i64_in _ (by omega)
            have hp0 : (0 : Int) ≤ (p : Int) := by omega
            have hp1 : (p : Int) < (n : Int) := by omega
            have hp2 : (k : Int) - 1 = (p : Int) := by omega
            have hw2 : IntKind.i64.wrap (p : Int) = (p : Int) := IntWalk.i64_in _ (by omega)
            have hpn : p < n := by omega
            have hkg : (0 : Int) < (k : Int) := by omega
            have hkg2 : 0 < k := by omega
            have HP := Lib.hid hp
            clear hq hT hwy hy hc2 hb2l hp hk0
            go_wp2_with fail
            go_still_tail 12, (by kernel_rfl)
            go_wp2_with fail
            refine (HG2.out _).mono ?_
            rintro e w2 ⟨rfl, hb2⟩
            have hb3 : Below wr.heap.size wr w2 := ((Below.refl wr.heap.size wr).drew).trans hb2
            have x1 := (hb3.cell (p := ⟨bl, ol + k, none⟩) hbl1).trans c1
            have HB3 : Hid (Below w.heap.size w w2) := hbw.out.trans (hb3.mono hbw.out.size)
            have hkc : 0 < k := hkg2
            clear hb2 hb3 c1 c9
            cases q with
            | false =>
              have HT : Hid ((t ++ x).data.toList = Wd.jn ((ss.map fun x => x.data.toList).take (k + 1))) := by
                show _ = _
                rw [Joins.data_append, ht.out, HTT.out]
                simp
              go_wp2_with fail
              go_roundw
              case rel => exact ⟨k + 1, t ++ x, by omega, by go_num, rfl, by have := HLen.out; rw [← HT.out, size_list] at this; exact this, HT, HB3.out⟩
              case measure => simp [intOf]; omega
            | true =>
              have HT : Hid ((t ++ ⟨#[32]⟩ ++ x).data.toList = Wd.jn ((ss.map fun x => x.data.toList).take (k + 1))) := by
                show _ = _
                rw [Joins.data_append, Joins.data_append, ht.out, HTT.out]
                simp
              have hsum2 : ¬ (9223372036854775807 < t.size + 1) := by omega
              have hsum3 : ¬ (9223372036854775807 < t.size + 1 + x.size) := by omega
              go_wp2_with fail
              go_roundw
              case rel => exact ⟨k + 1, t ++ ⟨#[32]⟩ ++ x, by omega, by go_num, rfl, by have := HLen.out; rw [← HT.out, size_list] at this; exact this, HT, HB3.out⟩
              case measure => simp [intOf]; omega
        · have hkz : decide ((k : Int) < (n : Int)) = false := by simp; omega
          have HP : Hid (SayPost ss w (.returned (.tuple #[.string t, .int .i64 0])) wr) := by
            show SayPost _ _ _ _
            unfold SayPost
            rw [HG.out]
            have h2 := ht.out
            rw [List.take_of_length_le (by rw [List.length_map]; have := HN.out; omega)] at h2
            exact ⟨by rw [← h2]; show Ending.returned (.tuple #[.string t, .int .i64 0]) = Ending.returned (.tuple #[.string (Wd.mkB t.data.toList), .int .i64 0]); rw [Wd.mkB_of], hbw.out⟩
          go_wp2_with fail
          go_ret2
          exact HP.out
end Go.Proofs.YtlamhpiiikcpiaaGreatDoor
/-
  Walks over the reference of rules: an action's words; a rule's line (printed by wip/gen_rpx.py).
-/
namespace Go.Proofs.YtlamhpiiikcpiaaGreatDoor
open Go.RowKit Go.Shelf Go.Lib Go.Sort
set_option linter.unusedVariables false
set_option linter.unusedSectionVars false
set_option linter.unusedSimpArgs false
namespace Pr
/-- Ports with commas between. -/
def sep : List ByteArray → List ByteArray
  | [] => []
  | p :: ps => p :: mks ⟨#[44]⟩ ps
theorem mks_sep (m : ByteArray) {ps : List ByteArray} (h : ps ≠ []) : mks m ps = m :: sep ps := by
  cases ps with
  | nil => exact absurd rfl h
  | cons p ps => rfl
theorem sep_snoc (l : List ByteArray) (p : ByteArray) : sep (l ++ [p]) = sep l ++ (if l = [] then [p] else [⟨#[44]⟩, p]) := by
  cases l with
  | nil => rfl
  | cons a l =>
    show a :: mks ⟨#[44]⟩ (l ++ [p]) = _
    rw [mks_snoc]
    simp [sep]
end Pr
theorem lit2_set {w : World} {g : Nat} {a b u : Value} {e : TypeId} (h : w.heap[g]? = some (.cells #[a, b] e (0, 0))) : (w.setCell ⟨g, 0, none⟩ u).heap[g]? = some (.cells #[u, b] e (0, 0)) := by
  simp [World.setCell, Array.getElem?_modify, h]
theorem row_heap2 {w : World} {g base : Nat} {a b : Value} {e : TypeId} (hg : base ≤ g) (h : w.heap[g]? = some (.cells #[a, b] e (0, 0))) : w.ownsRow base e 1 (.slice (some ⟨g, 0, none⟩) 2 2) 2 [a, b] :=
  ⟨by simp, .inr ⟨g, 2, #[a, b], rfl, hg, h, Nat.le_refl _, by unfold maxLen; omega, rfl, rfl⟩⟩
theorem slice_len {w : World} {a : Option Addr} {n c : Nat} {ps : List ByteArray} (hr : RdsS w (.slice a n c) ps) : n = ps.length := by
  rcases hr with ⟨_, _, he, hps0, _⟩ | ⟨_, _, _, he, _⟩
  · injection he with _ e _; rw [e, List.map_eq_nil_iff.1 hps0]; rfl
  · injection he with _ e _; rw [e, List.length_map]
set_option maxHeartbeats 3200000 in
set_option maxRecDepth 20000 in
theorem rwords_any (k : Int) (a : Option Addr) (n c : Nat) (ps : List ByteArray) (w : World) (hr : RdsS w (.slice a n c) ps) (ha : Rp.actionB k ps = true) (hps : ps.length ≤ 64) :
    Calls Tryz.prog 80 #[.agg #[.int .i64 k, .slice a n c]] w fun e w' => ∃ ad m cap, e = .returned (.slice ad m cap) ∧ (Pr.saidL k ps).length = m ∧ RdsO (fun b => w.heap.size ≤ b) w' (.slice ad m cap) (Pr.saidL k ps) ∧ Below w.heap.size w w' := by
  have hn := slice_len hr
  have hcs : (k = 1 ∧ ps = []) ∨ (k = 2 ∧ ps = []) ∨ (k = 3 ∧ ps ≠ []) ∨ (k = 4 ∧ ps ≠ []) := by
    unfold Rp.actionB at ha
    split at ha
    · rename_i hk
      have hl : ps = [] := List.eq_nil_of_length_eq_zero (by simpa using ha)
      rcases hk with e | e
      · exact .inl ⟨e, hl⟩
      · exact .inr (.inl ⟨e, hl⟩)
    · split at ha
      · rename_i hk
        unfold Rp.portsB at ha
        simp only [Bool.and_eq_true, decide_eq_true_eq] at ha
        have hl : ps ≠ [] := fun e => by rw [e] at ha; simp at ha
        rcases hk with e | e
        · exact .inr (.inr (.inl ⟨e, hl⟩))
        · exact .inr (.inr (.inr ⟨e, hl⟩))
      · cases ha
  obtain ⟨W0, hW0⟩ : ∃ W0, W0 = w.alloc (.cells #[.int .i64 k, .slice a n c] 45) := ⟨_, rfl⟩
  have hb0 : Below w.heap.size w W0 := by rw [hW0]; exact (Below.refl _ _).alloc (Nat.le_refl _) _
  have hh0 : W0.heap[w.heap.size]? = some (.cells #[.int .i64 k, .slice a n c] 45 (0, 0)) := by rw [hW0]; exact heap_alloc_new _ _
  have z0 : W0.cell? ⟨w.heap.size, 0, none⟩ = some (.int .i64 k) := by simp [World.cell?, hh0]
  have z1 : W0.cell? ⟨w.heap.size, 1, none⟩ = some (.slice a n c) := by simp [World.cell?, hh0]
  have hl0 : w.heap.size < W0.heap.size := heapLt hh0
  have hs0 : W0.heap.size = w.heap.size + 1 := by rw [hW0]; simp
  obtain ⟨w1, hw1⟩ : ∃ w1, w1 = W0.alloc (.cells #[.string ⟨#[97, 110, 121]⟩, .string ⟨#[40]⟩] 9) := ⟨_, rfl⟩
  have hb1 : Below W0.heap.size W0 w1 := by rw [hw1]; exact (Below.refl _ _).alloc (Nat.le_refl _) _
  have hh1 : w1.heap[W0.heap.size]? = some (.cells #[.string ⟨#[97, 110, 121]⟩, .string ⟨#[40]⟩] 9 (0, 0)) := by rw [hw1]; exact heap_alloc_new _ _
  have hl1 : W0.heap.size < w1.heap.size := heapLt hh1
  have y0 := (hb1.cell (p := ⟨w.heap.size, 0, none⟩) hl0).trans z0
  have y1 := (hb1.cell (p := ⟨w.heap.size, 1, none⟩) hl0).trans z1
  have HRw := Lib.hid hr
  have HB0 := Lib.hid hb0
  have HW0 := Lib.hid hW0
  have HN := Lib.hid hn
  obtain ⟨i0, hii, hz0, hz1, hz2⟩ := info_parts infoS
  have hn64 : n ≤ 64 := by omega
  rcases hcs with ⟨rfl, rfl⟩ | ⟨rfl, rfl⟩ | ⟨rfl, hne⟩ | ⟨rfl, hne⟩
  · have HS0 := Lib.hid hs0
    clear hw1 hb1 hh1 hl1 y0 y1 hr hb0 hh0 hW0 hn ha hs0
    go_enter Tryz.func80, Tryz.ntmps80
    go_upto_region 1 with fail
    rw [← HW0.out]
    clear HW0
    go_wp2_with fail
    go_ret
    exact ⟨_, 1, 1, rfl, rfl, row_rdsO (L := Pr.saidL 1 []) (lit_row rfl (by have := HS0.out; omega)), HB0.out.trans (((Below.refl _ _).alloc (Nat.le_refl _) _).mono (by have := HS0.out; omega))⟩
  · have HS0 := Lib.hid hs0
    clear hw1 hb1 hh1 hl1 y0 y1 hr hb0 hh0 hW0 hn ha hs0
    go_enter Tryz.func80, Tryz.ntmps80
    go_upto_region 1 with fail
    rw [← HW0.out]
    clear HW0
    go_wp2_with fail
    go_ret
    exact ⟨_, 1, 1, rfl, rfl, row_rdsO (L := Pr.saidL 2 []) (lit_row rfl (by have := HS0.out; omega)), HB0.out.trans (((Below.refl _ _).alloc (Nat.le_refl _) _).mono (by have := HS0.out; omega))⟩
  · have HSa : Hid (Pr.saidL 3 ps = ((⟨#[97, 108, 108]⟩ : ByteArray) :: ⟨#[40]⟩ :: Pr.sep ps) ++ [⟨#[41]⟩]) := by
      show _ = _
      unfold Pr.saidL
      rw [Pr.mks_sep _ hne, if_neg hne]
      rfl
    clear hn
    obtain ⟨w2, hw2⟩ : ∃ w2, w2 = w1.setCell ⟨W0.heap.size, 0, none⟩ (.string ⟨#[97, 108, 108]⟩) := ⟨_, rfl⟩
    have hh2 : w2.heap[W0.heap.size]? = some (.cells #[.string ⟨#[97, 108, 108]⟩, .string ⟨#[40]⟩] 9 (0, 0)) := by rw [hw2]; exact lit2_set hh1
    have hb2 : Below W0.heap.size W0 w2 := by rw [hw2]; exact hb1.setCell (p := ⟨W0.heap.size, 0, none⟩) (Nat.le_refl _) _
    have hl2 : W0.heap.size < w2.heap.size := heapLt hh2
    have x0 : w1.cell? ⟨W0.heap.size, 0, none⟩ = some (.string ⟨#[97, 110, 121]⟩) := by simp [World.cell?, hh1]
    have xf : w1.frozen? ⟨W0.heap.size, 0, none⟩ = false := by simp [World.frozen?, hh1]
    have HW1 := Lib.hid hw1
    have HW2 := Lib.hid hw2
    have HS0 := Lib.hid hs0
    clear hW0 hw1 hw2 hs0
    go_enter Tryz.func80, Tryz.ntmps80
    go_upto_region 1 with fail
    rw [← HW0.out]
    clear HW0
    go_upto_region 7 with fail
    rw [← HW1.out]
    clear HW1
    go_upto_region 9 with fail
    rw [← HW2.out]
    clear HW2 x0 xf
    have HO2 : Hid (w2.ownsRow W0.heap.size 9 1 (.slice (some ⟨W0.heap.size, 0, none⟩) 2 2) 2 (((⟨#[97, 108, 108]⟩ : ByteArray) :: ⟨#[40]⟩ :: Pr.sep []).map Value.string)) := row_heap2 (Nat.le_refl _) hh2
    have hs0 := HS0.out
    have hg2 : W0.heap.size ≤ w2.heap.size := by omega
    have HB2 : Hid (Below w.heap.size w w2) := HB0.out.trans (hb2.mono (by omega))
    have Z1 := Lib.hid ((hb2.cell (p := ⟨w.heap.size, 1, none⟩) hl0).trans z1)
    obtain ⟨g1, hg1⟩ : ∃ g1, W0.heap.size = g1 := ⟨_, rfl⟩
    rw [hg1] at HO2 hg2 ⊢
    have HG1 : Hid (w.heap.size < g1) := by show _ < _; omega
    clear hr hb0 hh0 hs0 ha hne hg1 hb1 hh1 hl1 y0 y1 hb2 hh2 hl2
    go_wp2_with fail
    go_loopw [3, 4] (fun s3 s4 wr => ∃ (i m : Nat) (ad : Option Addr) (cap : Nat), s4 = .int .i64 i ∧ s3 = .slice ad m cap ∧ i ≤ n ∧ Hid (m ≤ 2 + 2 * i) ∧ Hid (wr.ownsRow g1 9 1 (.slice ad m cap) m (((⟨#[97, 108, 108]⟩ : ByteArray) :: ⟨#[40]⟩ :: Pr.sep (ps.take i)).map Value.string)) ∧ Hid (Below g1 w2 wr)) (fun _ s4 _ => n - (intOf s4).toNat)
    case atStart => exact ⟨0, 2, some ⟨g1, 0, none⟩, 2, rfl, rfl, Nat.zero_le _, Nat.le_refl _, HO2, Below.refl _ _⟩
    case round =>
      clear HO2
      obtain ⟨wo, rfl⟩ : ∃ wo : World, wo = wr := ⟨wr, rfl⟩
      obtain ⟨i, m, ad, cap, rfl, rfl, hin, Hm, HO, HB⟩ := hrel
      have hbw : Below w.heap.size w wo := HB2.out.trans (HB.out.mono (by have := HG1.out; omega))
      have HBw := Lib.hid hbw
      have hgo : g1 ≤ wo.heap.size := by have := HB.out.size; omega
      have y1 := (HB.out.cell (p := ⟨w.heap.size, 1, none⟩) HG1.out).trans Z1.out
      by_cases hlt : i < n
      · have hip : i < ps.length := by rw [← HN.out]; exact hlt
        obtain ⟨ad1, len1, cap1, e1, hl1', _, hf⟩ := rdsS_form (HRw.out.below hbw)
        injection e1 with e1 e2 e3
        subst e1
        clear e2 e3
        obtain ⟨b, off, rfl, hbl, hc⟩ := hf i hip
        obtain ⟨x, hx⟩ : ∃ x, ps[i] = x := ⟨_, rfl⟩
        rw [hx] at hc
        have htk : ps.take (i + 1) = ps.take i ++ [x] := by rw [List.take_succ_eq_append_getElem hip, hx]
        have hi0 : (0 : Int) ≤ (i : Int) := by omega
        have hin' : (i : Int) < (n : Int) := by omega
        have hm130 : m ≤ 200 := by have := Hm.out; omega
        by_cases hz : i = 0
        · have q : decide ((0 : Int) < (i : Int)) = false := by simp [hz]
          have q2 : decide (0 < i) = false := by simp [hz]
          have q3 : ¬ 0 < i := by omega
          have HE : Hid ((⟨#[97, 108, 108]⟩ : ByteArray) :: ⟨#[40]⟩ :: Pr.sep (ps.take (i + 1)) = ((⟨#[97, 108, 108]⟩ : ByteArray) :: ⟨#[40]⟩ :: Pr.sep (ps.take i)) ++ [x]) := by
            show _ = _
            rw [htk, Pr.sep_snoc, if_pos (by rw [hz]; rfl)]
            rfl
          clear hz htk hbw hx hf hl1'
          go_wp2_with (at_builtin; go_loud (refine wpList_plain rfl (fun _ hK => wp_append_rds (.tmp 31) (.tmp 37) _ rfl g1 9 i0 _ 16 Tryz.underlying43 hii hz0 hz1 hz2 rfl (.slice ad m cap) m _ (by rfl) (HO.out.alloc _) _ [.string x] (by rfl) (rds_lit1 wo _ _) (by simp [Value.oneCell']) (m + 1) rfl (by unfold maxLen; omega) (by omega) (by simp; omega) (fun ad4 cap4 w4 hown4 hgrow4 => hK _ _ ?_))); have HO4 := Lib.hid hown4; have HB4 := Lib.hid (grown_bel (HB.out.alloc hgo (.cells #[.string x] 9)) hg2 (HO.out.alloc (.cells #[.string x] 9)) hgrow4); clear hown4 hgrow4 hK)
          go_roundw
          case rel =>
            refine ⟨i + 1, m + 1, ad4, cap4, by first | rfl | go_num, rfl, by omega, (by have := Hm.out; show _ ≤ _; omega), ?_, HB4.out⟩
            show World.ownsRow _ _ _ _ _ _ _
            rw [HE.out, List.map_append]
            exact HO4.out
          case measure => simp [intOf]; omega
        · have q : (0 : Int) < (i : Int) := by omega
          have q2 : 0 < i := by omega
          have HE : Hid ((⟨#[97, 108, 108]⟩ : ByteArray) :: ⟨#[40]⟩ :: Pr.sep (ps.take (i + 1)) = (((⟨#[97, 108, 108]⟩ : ByteArray) :: ⟨#[40]⟩ :: Pr.sep (ps.take i)) ++ [⟨#[44]⟩]) ++ [x]) := by
            show _ = _
            rw [htk, Pr.sep_snoc, if_neg (fun e => by have h1 : (ps.take i).length = 0 := (by rw [e]; rfl); rw [List.length_take] at h1; omega)]
            simp
          have HCf : Hid (∀ W, Below g1 wo W → W.cell? ⟨w.heap.size, 1, none⟩ = some (.slice (some ⟨b, off, none⟩) n c) ∧ W.cell? ⟨b, off + i, none⟩ = some (.string x)) := fun W hW => by
            obtain ⟨ad9, len9, cap9, e9, _, _, hf9⟩ := rdsS_form (HRw.out.below (HBw.out.trans (hW.mono (by have := HG1.out; omega))))
            injection e9 with e9 _ _
            subst e9
            obtain ⟨b9, off9, e8, _, hc9⟩ := hf9 i hip
            injection e8 with e8
            injection e8 with e8 e7 _
            subst e8 e7
            rw [hx] at hc9
            exact ⟨(hW.cell (p := ⟨w.heap.size, 1, none⟩) HG1.out).trans y1, hc9⟩
          clear hz htk hbw hx hf hl1'
          go_wp2_with (at_builtin; first
            | (go_loud (refine wpList_plain rfl (fun _ hK => wp_append_rds (.tmp 28) (.tmp 29) _ rfl g1 9 i0 _ 16 Tryz.underlying43 hii hz0 hz1 hz2 rfl (.slice ad m cap) m _ (by rfl) (HO.out.alloc _) _ [.string ⟨#[44]⟩] (by rfl) (rds_lit1 wo _ _) (by simp [Value.oneCell']) (m + 1) rfl (by unfold maxLen; omega) (by omega) (by simp; omega) (fun ad4 cap4 w4 hown4 hgrow4 => hK _ _ ?_))); have HO4 := Lib.hid hown4; have HB4 := Lib.hid (grown_bel (HB.out.alloc hgo (.cells #[.string ⟨#[44]⟩] 9)) (Nat.le_trans hg2 HB.out.size |> fun _ => hg2) (HO.out.alloc (.cells #[.string ⟨#[44]⟩] 9)) hgrow4); have hso4 : Below g1 wo w4 := grown_bel ((Below.refl g1 wo).alloc hgo (.cells #[.string ⟨#[44]⟩] 9)) hgo (HO.out.alloc (.cells #[.string ⟨#[44]⟩] 9)) hgrow4; obtain ⟨v1, v2⟩ := HCf.out w4 hso4; have hgo4 : g1 ≤ w4.heap.size := Nat.le_trans hgo hso4.size; clear hown4 hgrow4 hK hso4)
            | (go_loud (refine wpList_plain rfl (fun _ hK => wp_append_rds (.tmp 31) (.tmp 37) _ rfl g1 9 i0 _ 16 Tryz.underlying43 hii hz0 hz1 hz2 rfl (.slice ad4 (m + 1) cap4) (m + 1) _ (by rfl) (HO4.out.alloc _) _ [.string x] (by rfl) (rds_lit1 w4 _ _) (by simp [Value.oneCell']) (m + 2) rfl (by unfold maxLen; omega) (by omega) (by simp; omega) (fun ad5 cap5 w5 hown5 hgrow5 => hK _ _ ?_))); have HO5 := Lib.hid hown5; have HB5 := Lib.hid (grown_bel (HB4.out.alloc hgo4 (.cells #[.string x] 9)) hg2 (HO4.out.alloc (.cells #[.string x] 9)) hgrow5); clear hown5 hgrow5 hK))
          go_roundw
          case rel =>
            refine ⟨i + 1, m + 2, ad5, cap5, by first | rfl | go_num, rfl, by omega, (by have := Hm.out; show _ ≤ _; omega), ?_, HB5.out⟩
            show World.ownsRow _ _ _ _ _ _ _
            rw [HE.out, List.map_append, List.map_append]
            exact HO5.out
          case measure => simp [intOf]; omega
      · have hie : i = ps.length := by rw [← HN.out]; omega
        rw [hie, List.take_length] at HO
        have HOe := HO
        have hm2 : m ≤ 200 := by have := Hm.out; omega
        clear hie HO hbw
        go_wp2_with (at_builtin; go_loud (refine wpList_plain rfl (fun _ hK => wp_append_rds (.tmp 39) (.tmp 40) _ rfl g1 9 i0 _ 16 Tryz.underlying43 hii hz0 hz1 hz2 rfl (.slice ad m cap) m _ (by rfl) (HOe.out.alloc _) _ [.string ⟨#[41]⟩] (by rfl) (rds_lit1 wo _ _) (by simp [Value.oneCell']) (m + 1) rfl (by unfold maxLen; omega) (by omega) (by simp; omega) (fun ad4 cap4 w4 hown4 hgrow4 => hK _ _ ?_))); have HO4 := Lib.hid hown4; have HB4 := Lib.hid (grown_bel (HB.out.alloc hgo (.cells #[.string ⟨#[41]⟩] 9)) hg2 (HOe.out.alloc (.cells #[.string ⟨#[41]⟩] 9)) hgrow4); clear hown4 hgrow4 hK)
        go_wp2_with fail
        go_ret
        have hO : w4.ownsRow g1 9 1 (.slice ad4 (m + 1) cap4) (m + 1) ((Pr.saidL 3 ps).map Value.string) := by
          rw [HSa.out, List.map_append]
          exact HO4.out
        have hL := hO.1
        refine ⟨ad4, m + 1, cap4, rfl, by simpa using hL, (row_rdsO hO).mono fun b hb => by have := HG1.out; omega, HB2.out.trans (HB4.out.mono (by have := HG1.out; omega))⟩
  · have HSa : Hid (Pr.saidL 4 ps = ((⟨#[97, 110, 121]⟩ : ByteArray) :: ⟨#[40]⟩ :: Pr.sep ps) ++ [⟨#[41]⟩]) := by
      show _ = _
      unfold Pr.saidL
      rw [Pr.mks_sep _ hne, if_neg hne]
      rfl
    clear hn
    obtain ⟨w2, hw2⟩ : ∃ w2, w2 = w1 := ⟨_, rfl⟩
    have hh2 : w2.heap[W0.heap.size]? = some (.cells #[.string ⟨#[97, 110, 121]⟩, .string ⟨#[40]⟩] 9 (0, 0)) := by rw [hw2]; exact hh1
    have hb2 : Below W0.heap.size W0 w2 := by rw [hw2]; exact hb1
    have hl2 : W0.heap.size < w2.heap.size := heapLt hh2
    have HW1 := Lib.hid hw1
    have HW2 := Lib.hid hw2
    have HS0 := Lib.hid hs0
    clear hW0 hw1 hw2 hs0
    go_enter Tryz.func80, Tryz.ntmps80
    go_upto_region 1 with fail
    rw [← HW0.out]
    clear HW0
    go_upto_region 7 with fail
    rw [← HW1.out]
    clear HW1
    go_upto_region 9 with fail
    rw [← HW2.out]
    clear HW2
    have HO2 : Hid (w2.ownsRow W0.heap.size 9 1 (.slice (some ⟨W0.heap.size, 0, none⟩) 2 2) 2 (((⟨#[97, 110, 121]⟩ : ByteArray) :: ⟨#[40]⟩ :: Pr.sep []).map Value.string)) := row_heap2 (Nat.le_refl _) hh2
    have hs0 := HS0.out
    have hg2 : W0.heap.size ≤ w2.heap.size := by omega
    have HB2 : Hid (Below w.heap.size w w2) := HB0.out.trans (hb2.mono (by omega))
    have Z1 := Lib.hid ((hb2.cell (p := ⟨w.heap.size, 1, none⟩) hl0).trans z1)
    obtain ⟨g1, hg1⟩ : ∃ g1, W0.heap.size = g1 := ⟨_, rfl⟩
    rw [hg1] at HO2 hg2 ⊢
    have HG1 : Hid (w.heap.size < g1) := by show _ < _; omega
    clear hr hb0 hh0 hs0 ha hne hg1 hb1 hh1 hl1 y0 y1 hb2 hh2 hl2
    go_wp2_with fail
    go_loopw [3, 4] (fun s3 s4 wr => ∃ (i m : Nat) (ad : Option Addr) (cap : Nat), s4 = .int .i64 i ∧ s3 = .slice ad m cap ∧ i ≤ n ∧ Hid (m ≤ 2 + 2 * i) ∧ Hid (wr.ownsRow g1 9 1 (.slice ad m cap) m (((⟨#[97, 110, 121]⟩ : ByteArray) :: ⟨#[40]⟩ :: Pr.sep (ps.take i)).map Value.string)) ∧ Hid (Below g1 w2 wr)) (fun _ s4 _ => n - (intOf s4).toNat)
    case atStart => exact ⟨0, 2, some ⟨g1, 0, none⟩, 2, rfl, rfl, Nat.zero_le _, Nat.le_refl _, HO2, Below.refl _ _⟩
    case round =>
      clear HO2
      obtain ⟨wo, rfl⟩ : ∃ wo : World, wo = wr := ⟨wr, rfl⟩
      obtain ⟨i, m, ad, cap, rfl, rfl, hin, Hm, HO, HB⟩ := hrel
      have hbw : Below w.heap.size w wo := HB2.out.trans (HB.out.mono (by have := HG1.out; omega))
      have HBw := Lib.hid hbw
      have hgo : g1 ≤ wo.heap.size := by have := HB.out.size; omega
      have y1 := (HB.out.cell (p := ⟨w.heap.size, 1, none⟩) HG1.out).trans Z1.out
      by_cases hlt : i < n
      · have hip : i < ps.length := by rw [← HN.out]; exact hlt
        obtain ⟨ad1, len1, cap1, e1, hl1', _, hf⟩ := rdsS_form (HRw.out.below hbw)
        injection e1 with e1 e2 e3
        subst e1
        clear e2 e3
        obtain ⟨b, off, rfl, hbl, hc⟩ := hf i hip
        obtain ⟨x, hx⟩ : ∃ x, ps[i] = x := ⟨_, rfl⟩
        rw [hx] at hc
        have htk : ps.take (i + 1) = ps.take i ++ [x] := by rw [List.take_succ_eq_append_getElem hip, hx]
        have hi0 : (0 : Int) ≤ (i : Int) := by omega
        have hin' : (i : Int) < (n : Int) := by omega
        have hm130 : m ≤ 200 := by have := Hm.out; omega
        by_cases hz : i = 0
        · have q : decide ((0 : Int) < (i : Int)) = false := by simp [hz]
          have q2 : decide (0 < i) = false := by simp [hz]
          have q3 : ¬ 0 < i := by omega
          have HE : Hid ((⟨#[97, 110, 121]⟩ : ByteArray) :: ⟨#[40]⟩ :: Pr.sep (ps.take (i + 1)) = ((⟨#[97, 110, 121]⟩ : ByteArray) :: ⟨#[40]⟩ :: Pr.sep (ps.take i)) ++ [x]) := by
            show _ = _
            rw [htk, Pr.sep_snoc, if_pos (by rw [hz]; rfl)]
            rfl
          clear hz htk hbw hx hf hl1'
          go_wp2_with (at_builtin; go_loud (refine wpList_plain rfl (fun _ hK => wp_append_rds (.tmp 31) (.tmp 37) _ rfl g1 9 i0 _ 16 Tryz.underlying43 hii hz0 hz1 hz2 rfl (.slice ad m cap) m _ (by rfl) (HO.out.alloc _) _ [.string x] (by rfl) (rds_lit1 wo _ _) (by simp [Value.oneCell']) (m + 1) rfl (by unfold maxLen; omega) (by omega) (by simp; omega) (fun ad4 cap4 w4 hown4 hgrow4 => hK _ _ ?_))); have HO4 := Lib.hid hown4; have HB4 := Lib.hid (grown_bel (HB.out.alloc hgo (.cells #[.string x] 9)) hg2 (HO.out.alloc (.cells #[.string x] 9)) hgrow4); clear hown4 hgrow4 hK)
          go_roundw
          case rel =>
            refine ⟨i + 1, m + 1, ad4, cap4, by first | rfl | go_num, rfl, by omega, (by have := Hm.out; show _ ≤ _; omega), ?_, HB4.out⟩
            show World.ownsRow _ _ _ _ _ _ _
            rw [HE.out, List.map_append]
            exact HO4.out
          case measure => simp [intOf]; omega
        · have q : (0 : Int) < (i : Int) := by omega
          have q2 : 0 < i := by omega
          have HE : Hid ((⟨#[97, 110, 121]⟩ : ByteArray) :: ⟨#[40]⟩ :: Pr.sep (ps.take (i + 1)) = (((⟨#[97, 110, 121]⟩ : ByteArray) :: ⟨#[40]⟩ :: Pr.sep (ps.take i)) ++ [⟨#[44]⟩]) ++ [x]) := by
            show _ = _
            rw [htk, Pr.sep_snoc, if_neg (fun e => by have h1 : (ps.take i).length = 0 := (by rw [e]; rfl); rw [List.length_take] at h1; omega)]
            simp
          have HCf : Hid (∀ W, Below g1 wo W → W.cell? ⟨w.heap.size, 1, none⟩ = some (.slice (some ⟨b, off, none⟩) n c) ∧ W.cell? ⟨b, off + i, none⟩ = some (.string x)) := fun W hW => by
            obtain ⟨ad9, len9, cap9, e9, _, _, hf9⟩ := rdsS_form (HRw.out.below (HBw.out.trans (hW.mono (by have := HG1.out; omega))))
            injection e9 with e9 _ _
            subst e9
            obtain ⟨b9, off9, e8, _, hc9⟩ := hf9 i hip
            injection e8 with e8
            injection e8 with e8 e7 _
            subst e8 e7
            rw [hx] at hc9
            exact ⟨(hW.cell (p := ⟨w.heap.size, 1, none⟩) HG1.out).trans y1, hc9⟩
          clear hz htk hbw hx hf hl1'
          go_wp2_with (at_builtin; first
            | (go_loud (refine wpList_plain rfl (fun _ hK => wp_append_rds (.tmp 28) (.tmp 29) _ rfl g1 9 i0 _ 16 Tryz.underlying43 hii hz0 hz1 hz2 rfl (.slice ad m cap) m _ (by rfl) (HO.out.alloc _) _ [.string ⟨#[44]⟩] (by rfl) (rds_lit1 wo _ _) (by simp [Value.oneCell']) (m + 1) rfl (by unfold maxLen; omega) (by omega) (by simp; omega) (fun ad4 cap4 w4 hown4 hgrow4 => hK _ _ ?_))); have HO4 := Lib.hid hown4; have HB4 := Lib.hid (grown_bel (HB.out.alloc hgo (.cells #[.string ⟨#[44]⟩] 9)) (Nat.le_trans hg2 HB.out.size |> fun _ => hg2) (HO.out.alloc (.cells #[.string ⟨#[44]⟩] 9)) hgrow4); have hso4 : Below g1 wo w4 := grown_bel ((Below.refl g1 wo).alloc hgo (.cells #[.string ⟨#[44]⟩] 9)) hgo (HO.out.alloc (.cells #[.string ⟨#[44]⟩] 9)) hgrow4; obtain ⟨v1, v2⟩ := HCf.out w4 hso4; have hgo4 : g1 ≤ w4.heap.size := Nat.le_trans hgo hso4.size; clear hown4 hgrow4 hK hso4)
            | (go_loud (refine wpList_plain rfl (fun _ hK => wp_append_rds (.tmp 31) (.tmp 37) _ rfl g1 9 i0 _ 16 Tryz.underlying43 hii hz0 hz1 hz2 rfl (.slice ad4 (m + 1) cap4) (m + 1) _ (by rfl) (HO4.out.alloc _) _ [.string x] (by rfl) (rds_lit1 w4 _ _) (by simp [Value.oneCell']) (m + 2) rfl (by unfold maxLen; omega) (by omega) (by simp; omega) (fun ad5 cap5 w5 hown5 hgrow5 => hK _ _ ?_))); have HO5 := Lib.hid hown5; have HB5 := Lib.hid (grown_bel (HB4.out.alloc hgo4 (.cells #[.string x] 9)) hg2 (HO4.out.alloc (.cells #[.string x] 9)) hgrow5); clear hown5 hgrow5 hK))
          go_roundw
          case rel =>
            refine ⟨i + 1, m + 2, ad5, cap5, by first | rfl | go_num, rfl, by omega, (by have := Hm.out; show _ ≤ _; omega), ?_, HB5.out⟩
            show World.ownsRow _ _ _ _ _ _ _
            rw [HE.out, List.map_append, List.map_append]
            exact HO5.out
          case measure => simp [intOf]; omega
      · have hie : i = ps.length := by rw [← HN.out]; omega
        rw [hie, List.take_length] at HO
        have HOe := HO
        have hm2 : m ≤ 200 := by have := Hm.out; omega
        clear hie HO hbw
        go_wp2_with (at_builtin; go_loud (refine wpList_plain rfl (fun _ hK => wp_append_rds (.tmp 39) (.tmp 40) _ rfl g1 9 i0 _ 16 Tryz.underlying43 hii hz0 hz1 hz2 rfl (.slice ad m cap) m _ (by rfl) (HOe.out.alloc _) _ [.string ⟨#[41]⟩] (by rfl) (rds_lit1 wo _ _) (by simp [Value.oneCell']) (m + 1) rfl (by unfold maxLen; omega) (by omega) (by simp; omega) (fun ad4 cap4 w4 hown4 hgrow4 => hK _ _ ?_))); have HO4 := Lib.hid hown4; have HB4 := Lib.hid (grown_bel (HB.out.alloc hgo (.cells #[.string ⟨#[41]⟩] 9)) hg2 (HOe.out.alloc (.cells #[.string ⟨#[41]⟩] 9)) hgrow4); clear hown4 hgrow4 hK)
        go_wp2_with fail
        go_ret
        have hO : w4.ownsRow g1 9 1 (.slice ad4 (m + 1) cap4) (m + 1) ((Pr.saidL 4 ps).map Value.string) := by
          rw [HSa.out, List.map_append]
          exact HO4.out
        have hL := hO.1
        refine ⟨ad4, m + 1, cap4, rfl, by simpa using hL, (row_rdsO hO).mono fun b hb => by have := HG1.out; omega, HB2.out.trans (HB4.out.mono (by have := HG1.out; omega))⟩
set_option maxHeartbeats 3200000 in
set_option maxRecDepth 20000 in
theorem rline5_any {ok : Nat → Prop} {x : RC} {r : Rl} {w : World} (hr : RdC ok w x r) (hq : Rp.checkR r (r.m.size : Int) = 0) (ht : r.p < 100 ∨ Tab10 w) :
    Calls Tryz.prog 46 #[.agg #[.int .i64 x.p, .string x.m, .int .i64 x.k, .slice x.a x.n x.c]] w fun e w' => e = .returned (.tuple #[.string (Wd.mkB (Pr.lineT r)), .int .i64 0]) ∧ Below w.heap.size w w' := by
  obtain ⟨c1, c2, c3, c4, c5, c6, c7⟩ := Pr.check_ok hq
  obtain ⟨hk4, hpn⟩ := Pr.action_names c7
  have hpl : r.ps.length ≤ 64 := by
    unfold Rp.actionB at c7
    split at c7
    · have : r.ps.length = 0 := by simpa using c7
      omega
    · split at c7
      · unfold Rp.portsB at c7
        simp only [Bool.and_eq_true, decide_eq_true_eq] at c7
        exact c7.2
      · cases c7
  obtain ⟨p, m, k, a, n, c⟩ := x
  obtain ⟨rp, rm, rk, rps⟩ := r
  obtain ⟨ep, em, ek, hs, hz⟩ := hr
  have hzs : ∀ y ∈ rps, y.size ≤ 140737488351232 := hz.s
  simp only at ep em ek hs c1 c2 c3 c4 c5 c6 c7 hk4 hpn hpl hq ht
  subst ep em ek
  obtain ⟨W0, hW0⟩ : ∃ W0, W0 = w.alloc (.cells #[.int .i64 p, .string m, .int .i64 k, .slice a n c] 47) := ⟨_, rfl⟩
  have hb0 : Below w.heap.size w W0 := by rw [hW0]; exact (Below.refl _ _).alloc (Nat.le_refl _) _
  have hh0 : W0.heap[w.heap.size]? = some (.cells #[.int .i64 p, .string m, .int .i64 k, .slice a n c] 47 (0, 0)) := by rw [hW0]; exact heap_alloc_new _ _
  have z0 : W0.cell? ⟨w.heap.size, 0, none⟩ = some (.int .i64 p) := by simp [World.cell?, hh0]
  have z1 : W0.cell? ⟨w.heap.size, 1, none⟩ = some (.string m) := by simp [World.cell?, hh0]
  have z2 : W0.cell? ⟨w.heap.size, 2, none⟩ = some (.int .i64 k) := by simp [World.cell?, hh0]
  have z3 : W0.cell? ⟨w.heap.size, 3, none⟩ = some (.slice a n c) := by simp [World.cell?, hh0]
  have hl0 : w.heap.size < W0.heap.size := heapLt hh0
  have HRg := Lib.hid (fun W => Right_true W (by unfold maxLen; omega : m.size ≤ maxLen) c5)
  have HRi := Lib.hid (fun W (hW : Below W0.heap.size W0 W) => rRight_any k a n c rps W ((hs.below hb0).below hW).1 hzs true c7)
  have hp1 : decide (p < 0) = false := by simp; omega
  have hp2 : decide ((2147483647 : Int) < p) = false := by simp; omega
  have HS : Hid (∀ W, Below W0.heap.size W0 W → W.cell? ⟨w.heap.size, 0, none⟩ = some (.int .i64 p) ∧ W.cell? ⟨w.heap.size, 1, none⟩ = some (.string m) ∧ W.cell? ⟨w.heap.size, 2, none⟩ = some (.int .i64 k) ∧ W.cell? ⟨w.heap.size, 3, none⟩ = some (.slice a n c)) := fun W hW =>
    ⟨(hW.cell (p := ⟨w.heap.size, 0, none⟩) hl0).trans z0, (hW.cell (p := ⟨w.heap.size, 1, none⟩) hl0).trans z1, (hW.cell (p := ⟨w.heap.size, 2, none⟩) hl0).trans z2, (hW.cell (p := ⟨w.heap.size, 3, none⟩) hl0).trans z3⟩
  have HIt : Hid (∀ W, Below W0.heap.size W0 W → Calls Tryz.prog 74 #[.int .i64 p] W fun e w' => e = .returned (.string (Wd.mkB (Lib.decDigits p.toNat))) ∧ Below W0.heap.size W0 w' ∧ Below W.heap.size W w') := fun W hW =>
    (itoa_any p c3 c4 W (ht.imp id fun h => tab10_below (tab10_below h hb0) hW)).mono fun e w' ⟨h1, h2⟩ => ⟨h1, hW.trans (h2.mono hW.size), h2⟩
  have HSd : Hid (∀ W, Below W0.heap.size W0 W → Calls Tryz.prog 80 #[.agg #[.int .i64 k, .slice a n c]] W fun e w' => ∃ ad l cap, e = .returned (.slice ad l cap) ∧ (Pr.saidL k rps).length = l ∧ RdsS w' (.slice ad l cap) (Pr.saidL k rps) ∧ Below W0.heap.size W0 w' ∧ Below W.heap.size W w') := fun W hW =>
    (rwords_any k a n c rps W ((hs.below hb0).below hW).1 c7 hpl).mono fun e w' ⟨ad, l, cap, h1, h2, h3, h4⟩ => ⟨ad, l, cap, h1, h2, h3.1, hW.trans (h4.mono hW.size), h4⟩
  have hrl : ∀ y ∈ Pr.ruleL ⟨p, m, k, rps⟩, y.size ≤ 500000 := by
    intro y hy
    have hsay := Pr.rule_words hq y hy
    unfold Pr.ruleL at hy
    rcases List.mem_append.1 hy with hy | hy
    · simp only [List.mem_cons, List.not_mem_nil, or_false] at hy
      rcases hy with e | e | e
      · rw [e]; decide
      · rw [e, Wd.mkB_size, Lib.decDigits_length]
        have h9 : p.toNat < 10 ^ 10 := by omega
        have := nDigits_le h9
        omega
      · rw [e]; show m.size ≤ _; omega
    · exact Nat.le_trans (Pr.said_small (Pr.action_names c7).1 hpn y hy) (by omega)
  have hsl := Pr.saidL_len k rps
  have HSay : Hid (∀ (v : Value) (W : World), RdsS W v (Pr.ruleL ⟨p, m, k, rps⟩) → Calls Tryz.prog 79 #[v] W fun e w' => e = .returned (.tuple #[.string (Wd.mkB (Pr.lineT ⟨p, m, k, rps⟩)), .int .i64 0]) ∧ Below W.heap.size W w') := fun v W hv =>
    (rsay_any v _ W hv hrl (by unfold Pr.ruleL; rw [List.length_append, hsl]; simp; split <;> omega)).mono fun e w' h => by
      unfold SayPost at h
      rw [Pr.rule_say hq] at h
      exact h
  obtain ⟨sl, hsl2⟩ : ∃ sl, (Pr.saidL k rps).length = sl := ⟨_, rfl⟩
  have hsl3 : sl ≤ 200 := by rw [← hsl2, hsl]; split <;> omega
  have HSl := Lib.hid hsl2
  have HW0 := Lib.hid hW0
  have HB0 := Lib.hid hb0
  obtain ⟨i0, hii, hz0, hz1, hz2⟩ := info_parts infoS
  clear hq hs hz hzs hb0 hh0 hW0 c1 c2 c3 c4 c5 c6 c7 hk4 hpn hpl ht hrl hsl hsl2
  go_enter Tryz.func46, Tryz.ntmps46
  go_upto_region 1 with fail
  rw [← HW0.out]
  clear HW0
  go_wp2_with fail
  refine (HRg.out _).mono ?_
  rintro e w1 ⟨rfl, rfl⟩
  go_wp2_with fail
  refine (HRi.out _ (Below.refl _ _)).mono ?_
  rintro e w1 ⟨rfl, hb1⟩
  have HB1 := Lib.hid hb1
  obtain ⟨s0, s1, s2, s3⟩ := HS.out w1 hb1
  clear hb1 z0 z1 z2 z3
  go_upto_region 7 with fail
  have hS0 : (fun W : World => W.cell? ⟨w.heap.size, 0, none⟩ = some (.int .i64 p) ∧ W.cell? ⟨w.heap.size, 1, none⟩ = some (.string m) ∧ W.cell? ⟨w.heap.size, 2, none⟩ = some (.int .i64 k) ∧ W.cell? ⟨w.heap.size, 3, none⟩ = some (.slice a n c)) w1.drew := ⟨s0, s1, s2, s3⟩
  refine wp_region_heldG (fun W : World => W.cell? ⟨w.heap.size, 0, none⟩ = some (.int .i64 p) ∧ W.cell? ⟨w.heap.size, 1, none⟩ = some (.string m) ∧ W.cell? ⟨w.heap.size, 2, none⟩ = some (.int .i64 k) ∧ W.cell? ⟨w.heap.size, 3, none⟩ = some (.slice a n c)) 99 (by kernel_rfl) ?_
  refine wpAnyG_takeP 0 (v := ?v0) rfl (by kernel_rfl) (fun _ _ _ h => h) (by rfl) ?h0 hS0 ?_
  case h0 => (intro wl; go_simp; try with_reducible rfl)
  try simp only [Act.put, List.setIfInBounds_toArray, List.set_cons_zero, List.set_cons_succ]
  refine wpAnyG_takeA 1 (v := ?v1) rfl (by kernel_rfl) (fun _ _ _ h => h) (by rfl) ?h1 hS0 ?_
  case h1 => (intro wl hl; obtain ⟨l0, l1, l2, l3⟩ := hl; go_simp; try with_reducible rfl)
  try simp only [Act.put, List.setIfInBounds_toArray, List.set_cons_zero, List.set_cons_succ]
  refine wpAnyG_takeP 3 (v := ?v3) rfl (by kernel_rfl) (fun _ _ _ h => h) (by rfl) ?h3 hS0 ?_
  case h3 => (intro wl; go_simp; try with_reducible rfl)
  try simp only [Act.put, List.setIfInBounds_toArray, List.set_cons_zero, List.set_cons_succ]
  refine wpAnyG_takeA 4 (v := ?v4) rfl (by kernel_rfl) (fun _ _ _ h => h) (by rfl) ?h4 hS0 ?_
  case h4 => (intro wl hl; obtain ⟨l0, l1, l2, l3⟩ := hl; go_simp; try with_reducible rfl)
  try simp only [Act.put, List.setIfInBounds_toArray, List.set_cons_zero, List.set_cons_succ]
  refine wpAnyG_takeP 6 (v := ?v6) rfl (by kernel_rfl) (fun _ _ _ h => h) (by rfl) ?h6 hS0 ?_
  case h6 => (intro wl; go_simp; try with_reducible rfl)
  try simp only [Act.put, List.setIfInBounds_toArray, List.set_cons_zero, List.set_cons_succ]
  refine wpAnyG_takeA 7 (v := ?v7) rfl (by kernel_rfl) (fun _ _ _ h => h) (by rfl) ?h7 hS0 ?_
  case h7 => (intro wl hl; obtain ⟨l0, l1, l2, l3⟩ := hl; go_simp; try with_reducible rfl)
  try simp only [Act.put, List.setIfInBounds_toArray, List.set_cons_zero, List.set_cons_succ]
  have hbd : Below W0.heap.size W0 w1.drew := HB1.out.drew
  have HBd := Lib.hid hbd
  clear hbd s0 s1 s2 s3
  refine wpAnyG_one 2 rfl (by kernel_rfl) (fun K hK => ?_)
  · go_simp
    go_at_call 74
    refine (HIt.out _ HBd.out).mono ?_
    rintro e w2 ⟨rfl, hb2, _⟩
    have hS1 := HS.out w2 hb2
    have HB2 := Lib.hid hb2
    refine hK _ _ (fun _ => hS1) ?_
    clear hK K hb2
    try simp only [Act.put, List.setIfInBounds_toArray, List.set_cons_zero, List.set_cons_succ]
    refine wpAnyG_two 5 8 rfl rfl (by kernel_rfl) (fun K hK => ?_) (fun K hK => ?_)
    · obtain ⟨w3, hw3⟩ : ∃ w3, w3 = w2.alloc (.cells #[.string ⟨#[114, 117, 108, 101]⟩, .string (Wd.mkB (Lib.decDigits p.toNat)), .string m] 9) := ⟨_, rfl⟩
      have hrow : w3.ownsRow W0.heap.size 9 1 (.slice (some ⟨w2.heap.size, 0, none⟩) 3 3) 3 [.string ⟨#[114, 117, 108, 101]⟩, .string (Wd.mkB (Lib.decDigits p.toNat)), .string m] := by rw [hw3]; exact lit_row3 rfl HB2.out.size
      have hb3 : Below W0.heap.size W0 w3 := by rw [hw3]; exact HB2.out.alloc HB2.out.size _
      have hS2 := HS.out w3 hb3
      go_simp
      rw [hw3] at hS2
      refine hK _ _ (fun _ => hS2) ?_
      clear hK K hS2
      rw [← hw3]
      have hS2 := HS.out w3 hb3
      have HB3 := Lib.hid hb3
      have HRow := Lib.hid hrow
      clear hw3 hb3 hrow
      try simp only [Act.put, List.setIfInBounds_toArray, List.set_cons_zero, List.set_cons_succ]
      refine wpAnyG_one 8 rfl (by kernel_rfl) (fun K hK => ?_)
      go_simp
      go_at_call 80
      refine (HSd.out _ HB3.out).mono ?_
      rintro e w4 ⟨ad, l, cap, rfl, hl, hr4, hb4, hb34⟩
      obtain rfl : l = sl := hl.symm.trans HSl.out
      have hS4 := HS.out w4 hb4
      have HB4 := Lib.hid hb4
      have HR4 := Lib.hid hr4
      have HRow4 := Lib.hid (ownsRow_below HRow.out hb34)
      refine hK _ _ (fun _ => hS4) ?_
      clear hK K hr4 hb4 hb34 HRow hl hS1 hS2
      try simp only [Act.put, List.setIfInBounds_toArray, List.set_cons_zero, List.set_cons_succ]
      obtain ⟨g, hg⟩ : ∃ g, w2.heap.size = g := ⟨_, rfl⟩
      rw [hg] at HRow4 ⊢
      clear hg
      refine wpAnyG_one 9 rfl (by kernel_rfl) (fun K hK => ?_)
      (refine step_append_rds (by rfl) (.tmp 28) (.tmp 31) _ (by rfl) W0.heap.size 9 i0 _ 16 Tryz.underlying43 hii hz0 hz1 hz2 rfl _ 3 _ (by rfl) HRow4.out _ ((Pr.saidL k rps).map Value.string) (by rfl) HR4.out str_one (3 + l) (by rw [List.length_map, HSl.out]) (by unfold maxLen; omega) (by omega) HB4.out.size ?_; intro ad5 cap5 w5 hown5 hgrow5)
      have hb5 : Below W0.heap.size W0 w5 := grown_bel HB4.out (Nat.le_refl _) HRow4.out hgrow5
      have hS5 := HS.out w5 hb5
      refine hK _ _ (fun _ => hS5) ?_
      clear hK K
      have HR5 : Hid (RdsS w5 (.slice ad5 (3 + l) cap5) (Pr.ruleL ⟨p, m, k, rps⟩)) := by
        show Rds _ _ _
        exact ownsRow_rds hown5
      have HB5 := Lib.hid hb5
      clear hb5 hown5 hgrow5 HR4 HRow4 hS4
      try simp only [Act.put, List.setIfInBounds_toArray, List.set_cons_zero, List.set_cons_succ]
      refine wpAnyG_one 10 rfl (by kernel_rfl) (fun K hK => ?_)
      go_simp
      go_at_call 79
      refine (HSay.out _ _ HR5.out).mono ?_
      rintro e w6 ⟨rfl, hb6⟩
      have hb06 := HB5.out.trans (hb6.mono HB5.out.size)
      have hS6 := HS.out w6 hb06
      have HB6 := Lib.hid hb06
      refine hK _ _ (fun _ => hS6) ?_
      clear hK K hb6 hb06 hS5 HR5
      try simp only [Act.put, List.setIfInBounds_toArray, List.set_cons_zero, List.set_cons_succ]
      refine wpAnyG_takeP 11 (v := ?v11a) rfl (by kernel_rfl) (fun _ _ _ h => h) (by rfl) ?h11a hS6 ?_
      case h11a => (intro wl; go_simp; try with_reducible rfl)
      try simp only [Act.put, List.setIfInBounds_toArray, List.set_cons_zero, List.set_cons_succ]
      refine wpAnyG_takeP 12 (v := ?v12a) rfl (by kernel_rfl) (fun _ _ _ h => h) (by rfl) ?h12a hS6 ?_
      case h12a => (intro wl; go_simp; try with_reducible rfl)
      try simp only [Act.put, List.setIfInBounds_toArray, List.set_cons_zero, List.set_cons_succ]
      refine wpAnyG_takeP 13 (v := ?v13a) rfl (by kernel_rfl) (fun _ _ _ h => h) (by rfl) ?h13a hS6 ?_
      case h13a => (intro wl; go_simp; try with_reducible rfl)
      try simp only [Act.put, List.setIfInBounds_toArray, List.set_cons_zero, List.set_cons_succ]
      refine wpAnyG_one 14 rfl (by kernel_rfl) (fun K hK => ?_)
      go_simp
      refine hK _ _ (fun _ => hS6) ?_
      clear hK K
      try simp only [Act.put, List.setIfInBounds_toArray, List.set_cons_zero, List.set_cons_succ]
      refine wpAnyG_one 15 rfl (by kernel_rfl) (fun K hK => ?_)
      go_simp
      refine hK _ _ (fun _ => hS6) ?_
      clear hK K
      try simp only [Act.put, List.setIfInBounds_toArray, List.set_cons_zero, List.set_cons_succ]
      refine wpAnyG_done (by kernel_rfl) ?_ _
      go_wp2_with fail
      go_ret2
      exact ⟨rfl, HB0.out.trans (HB6.out.mono HB0.out.size)⟩
    · go_simp
      go_at_call 80
      refine (HSd.out _ HB2.out).mono ?_
      rintro e w3 ⟨ad, l, cap, rfl, hl, hr3, hb3, _⟩
      obtain rfl : l = sl := hl.symm.trans HSl.out
      have hS2 := HS.out w3 hb3
      have HB3 := Lib.hid hb3
      have HR3 := Lib.hid hr3
      refine hK _ _ (fun _ => hS2) ?_
      clear hK K hr3 hb3 hl hS1
      try simp only [Act.put, List.setIfInBounds_toArray, List.set_cons_zero, List.set_cons_succ]
      obtain ⟨w4, hw4⟩ : ∃ w4, w4 = w3.alloc (.cells #[.string ⟨#[114, 117, 108, 101]⟩, .string (Wd.mkB (Lib.decDigits p.toNat)), .string m] 9) := ⟨_, rfl⟩
      have hrow : w4.ownsRow W0.heap.size 9 1 (.slice (some ⟨w3.heap.size, 0, none⟩) 3 3) 3 [.string ⟨#[114, 117, 108, 101]⟩, .string (Wd.mkB (Lib.decDigits p.toNat)), .string m] := by rw [hw4]; exact lit_row3 rfl HB3.out.size
      have hb4 : Below W0.heap.size W0 w4 := by rw [hw4]; exact HB3.out.alloc HB3.out.size _
      have hb34 : Below w3.heap.size w3 w4 := by rw [hw4]; exact (Below.refl _ _).alloc (Nat.le_refl _) _
      have hS4 := HS.out w4 hb4
      rw [hw4] at hS4
      refine wpAnyG_one 5 rfl (by kernel_rfl) (fun K hK => ?_)
      go_simp
      refine hK _ _ (fun _ => hS4) ?_
      clear hK K
      rw [← hw4] at hS4 ⊢
      have HB4 := Lib.hid hb4
      have HR4 := Lib.hid (HR3.out.below hb34)
      have HRow4 := Lib.hid hrow
      clear hw4 hrow hb4 hb34
      try simp only [Act.put, List.setIfInBounds_toArray, List.set_cons_zero, List.set_cons_succ]
      obtain ⟨g, hg⟩ : ∃ g, w3.heap.size = g := ⟨_, rfl⟩
      rw [hg] at HRow4 ⊢
      clear hg
      refine wpAnyG_one 9 rfl (by kernel_rfl) (fun K hK => ?_)
      (refine step_append_rds (by rfl) (.tmp 28) (.tmp 31) _ (by rfl) W0.heap.size 9 i0 _ 16 Tryz.underlying43 hii hz0 hz1 hz2 rfl _ 3 _ (by rfl) HRow4.out _ ((Pr.saidL k rps).map Value.string) (by rfl) HR4.out str_one (3 + l) (by rw [List.length_map, HSl.out]) (by unfold maxLen; omega) (by omega) HB4.out.size ?_; intro ad5 cap5 w5 hown5 hgrow5)
      have hb5 : Below W0.heap.size W0 w5 := grown_bel HB4.out (Nat.le_refl _) HRow4.out hgrow5
      have hS5 := HS.out w5 hb5
      refine hK _ _ (fun _ => hS5) ?_
      clear hK K
      have HR5 : Hid (RdsS w5 (.slice ad5 (3 + l) cap5) (Pr.ruleL ⟨p, m, k, rps⟩)) := by
        show Rds _ _ _
        exact ownsRow_rds hown5
      have HB5 := Lib.hid hb5
      clear hb5 hown5 hgrow5 HR4 HRow4 hS4
      try simp only [Act.put, List.setIfInBounds_toArray, List.set_cons_zero, List.set_cons_succ]
      refine wpAnyG_one 10 rfl (by kernel_rfl) (fun K hK => ?_)
      go_simp
      go_at_call 79
      refine (HSay.out _ _ HR5.out).mono ?_
      rintro e w6 ⟨rfl, hb6⟩
      have hb06 := HB5.out.trans (hb6.mono HB5.out.size)
      have hS6 := HS.out w6 hb06
      have HB6 := Lib.hid hb06
      refine hK _ _ (fun _ => hS6) ?_
      clear hK K hb6 hb06 hS5 HR5
      try simp only [Act.put, List.setIfInBounds_toArray, List.set_cons_zero, List.set_cons_succ]
      refine wpAnyG_takeP 11 (v := ?v11b) rfl (by kernel_rfl) (fun _ _ _ h => h) (by rfl) ?h11b hS6 ?_
      case h11b => (intro wl; go_simp; try with_reducible rfl)
      try simp only [Act.put, List.setIfInBounds_toArray, List.set_cons_zero, List.set_cons_succ]
      refine wpAnyG_takeP 12 (v := ?v12b) rfl (by kernel_rfl) (fun _ _ _ h => h) (by rfl) ?h12b hS6 ?_
      case h12b => (intro wl; go_simp; try with_reducible rfl)
      try simp only [Act.put, List.setIfInBounds_toArray, List.set_cons_zero, List.set_cons_succ]
      refine wpAnyG_takeP 13 (v := ?v13b) rfl (by kernel_rfl) (fun _ _ _ h => h) (by rfl) ?h13b hS6 ?_
      case h13b => (intro wl; go_simp; try with_reducible rfl)
      try simp only [Act.put, List.setIfInBounds_toArray, List.set_cons_zero, List.set_cons_succ]
      refine wpAnyG_one 14 rfl (by kernel_rfl) (fun K hK => ?_)
      go_simp
      refine hK _ _ (fun _ => hS6) ?_
      clear hK K
      try simp only [Act.put, List.setIfInBounds_toArray, List.set_cons_zero, List.set_cons_succ]
      refine wpAnyG_one 15 rfl (by kernel_rfl) (fun K hK => ?_)
      go_simp
      refine hK _ _ (fun _ => hS6) ?_
      clear hK K
      try simp only [Act.put, List.setIfInBounds_toArray, List.set_cons_zero, List.set_cons_succ]
      refine wpAnyG_done (by kernel_rfl) ?_ _
      go_wp2_with fail
      go_ret2
      exact ⟨rfl, HB0.out.trans (HB6.out.mono HB0.out.size)⟩
end Go.Proofs.YtlamhpiiikcpiaaGreatDoor
