/-
  Walks over the reference of words: word, glued.
-/
import Derived.Test.YtfnfmkejkgiclaaDoorWdQ
namespace Go.Proofs.YtfnfmkejkgiclaaDoor
open Go.RowKit Go.Shelf
set_option linter.unusedVariables false
set_option linter.unusedSimpArgs false

theorem rline_err (s : ByteArray) (w : World) (hs : s.size ≤ 1048576) (p : Nat) (h : Wd.line 1 s.data.toList 0 = .error p) :
    Calls Tryd.prog 25 #[.string s, .int .i64 1] w fun e w' => e = .returned (.tuple #[.slice none 0 0, .int .i64 p]) ∧ Below w.heap.size w w' :=
  (rline_any 1 s w hs).mono fun e w' hp => by unfold RLinePost at hp; rw [h] at hp; exact hp
theorem rline_ok (s : ByteArray) (w : World) (hs : s.size ≤ 1048576) (ws : List Wrd) (h : Wd.line 1 s.data.toList 0 = .ok ws) :
    Calls Tryd.prog 25 #[.string s, .int .i64 1] w fun e w' => ∃ ad c, e = .returned (.tuple #[.slice ad ws.length c, .int .i64 (-1)]) ∧ RdsW (fun _ => True) w' (.slice ad ws.length c) ws ∧ Below w.heap.size w w' :=
  (rline_any 1 s w hs).mono fun e w' hp => by
    unfold RLinePost at hp
    rw [h] at hp
    obtain ⟨⟨ad, c, rfl, ho⟩, hb⟩ := hp
    exact ⟨ad, c, rfl, (ownsRow_rdsW ho).mono fun _ _ _ => trivial, hb⟩
theorem line_place {s : ByteArray} {p : Nat} (h : Wd.line 1 s.data.toList 0 = .error p) : p ≤ s.size := by
  have := line_err 1 _ _ _ _ h
  rw [size_list] at this
  omega

theorem str_ne {a b : ByteArray} (h : ¬ a = b) : (a.toList == b.toList) = false ∧ (!a.toList == b.toList) = true := by
  have : ¬ a.toList = b.toList := fun e => h (by rw [ByteArray.toList_eq, ByteArray.toList_eq] at e; exact ba_inj e)
  constructor <;> simpa using this

set_option maxHeartbeats 3200000 in
set_option maxRecDepth 20000 in
theorem rword_any (s : ByteArray) (w : World) (hs : s.size ≤ 1048576) : Calls Tryd.prog 27 #[.string s] w fun e w' => e = .returned (.bool (Wd.wordB s.data.toList)) ∧ Below w.heap.size w w' := by
  obtain ⟨d, hd⟩ : ∃ d, Wd.signB s.data.toList = d := ⟨_, rfl⟩
  have HS := Lib.hid (fun W => rSign_any s W)
  rw [hd] at HS
  cases d with
  | true =>
    have hw : Hid (Wd.wordB s.data.toList = true) := by
      show _ = _
      refine Wd.sign_word ?_
      unfold Wd.signB at hd
      simpa using hd
    clear hd
    go_enter Tryd.func27, Tryd.ntmps27
    go_wp2_with ((with_reducible refine (HS.out _).mono ?_); rintro e w' ⟨rfl, rfl⟩)
    go_ret
    exact ⟨ret_bool hw.out.symm, Below.refl _ _⟩
  | false =>
    clear hd
    have h1 := Wd.oneB_eq 1 s.data.toList
    unfold Wd.oneB at h1
    cases hl : Wd.line 1 s.data.toList 0 with
    | error p =>
      rw [hl] at h1
      have H1 := Lib.hid h1
      have HL := Lib.hid (fun W => rline_err s W hs p hl)
      have hp : (0 : Int) ≤ (p : Int) := by omega
      have hp2 := line_place hl
      have hp3 : decide ((p : Int) < 0) = false := by simp
      clear hl h1
      go_enter Tryd.func27, Tryd.ntmps27
      go_wp2_with ((with_reducible refine (HS.out _).mono ?_); rintro e w' ⟨rfl, rfl⟩)
      refine (HL.out _).mono ?_
      rintro e w1 ⟨rfl, hb⟩
      have HB := Lib.hid hb
      clear hb
      go_wp2_with fail
      go_ret
      exact ⟨ret_bool H1.out, HB.out⟩
    | ok ws =>
      rw [hl] at h1
      have H1 : Hid (decide (ws.map Wrd.t = [s]) = Wd.wordB s.data.toList) := by show _ = _; rw [← h1, Wd.mkB_of]
      have HL := Lib.hid (fun W => rline_ok s W hs ws hl)
      clear hl h1
      by_cases hlen : ws.length = 1
      · match ws, hlen with
        | [x], _ =>
          by_cases hx : x.t = s
          · have H2 : Hid (Wd.wordB s.data.toList = true) := by show _ = _; rw [← H1.out]; simp [hx]
            go_enter Tryd.func27, Tryd.ntmps27
            go_wp2_with ((with_reducible refine (HS.out _).mono ?_); rintro e w' ⟨rfl, rfl⟩)
            refine (HL.out _).mono ?_
            rintro e w1 ⟨ad, c, rfl, hr, hb⟩
            obtain ⟨b, off, rfl, hbl, k0, k1, k2⟩ := hr.at_ 0 (by simp)
            have k0' : w1.cell? ⟨b, off, none⟩ = some (.string s) := by rw [← hx]; exact k0
            have HB := Lib.hid hb
            clear hb hr k0 k1 k2 hx
            go_wp2_with fail
            go_ret
            exact ⟨ret_bool H2.out.symm, HB.out⟩
          · have H2 : Hid (Wd.wordB s.data.toList = false) := by show _ = _; rw [← H1.out]; simp [hx]
            obtain ⟨hx1, hx2⟩ := str_ne hx
            go_enter Tryd.func27, Tryd.ntmps27
            go_wp2_with ((with_reducible refine (HS.out _).mono ?_); rintro e w' ⟨rfl, rfl⟩)
            refine (HL.out _).mono ?_
            rintro e w1 ⟨ad, c, rfl, hr, hb⟩
            obtain ⟨b, off, rfl, hbl, k0, k1, k2⟩ := hr.at_ 0 (by simp)
            have k0' : w1.cell? ⟨b, off, none⟩ = some (.string x.t) := k0
            have HB := Lib.hid hb
            clear hb hr k0 k1 k2 hx
            go_wp2_with fail
            go_ret
            exact ⟨ret_bool H2.out.symm, HB.out⟩
      · have H2 : Hid (Wd.wordB s.data.toList = false) := by
          show _ = _
          rw [← H1.out, decide_eq_false_iff_not]
          intro e
          exact hlen (by have := congrArg List.length e; simpa using this)
        have hz : ((ws.length : Int) == 1) = false := by simp; omega
        have hz2 : (ws.length == 1) = false := by simpa using hlen
        go_enter Tryd.func27, Tryd.ntmps27
        go_wp2_with ((with_reducible refine (HS.out _).mono ?_); rintro e w' ⟨rfl, rfl⟩)
        refine (HL.out _).mono ?_
        rintro e w1 ⟨ad, c, rfl, hr, hb⟩
        have HB := Lib.hid hb
        clear hb hr
        go_wp2_with fail
        go_ret
        exact ⟨ret_bool H2.out.symm, HB.out⟩
set_option maxHeartbeats 6400000 in
set_option maxRecDepth 20000 in
theorem rglued_any (a b : ByteArray) (w : World) (hs : a.size + b.size ≤ 1048576) (ha : Wd.wordB a.data.toList = true) (hb : Wd.wordB b.data.toList = true) :
    Calls Tryd.prog 28 #[.string a, .string b] w fun e w' => e = .returned (.bool (Wd.gluedB a.data.toList b.data.toList)) ∧ Below w.heap.size w w' := by
  have h1 := Wd.twoB_eq 1 ha hb
  unfold Wd.twoB at h1
  rw [← Joins.data_append] at h1
  have hsz : (a ++ b).size ≤ 1048576 := by rw [ByteArray.size_append]; exact hs
  have hsum : ¬ (9223372036854775807 < a.size + b.size) := by omega
  obtain ⟨q, hq⟩ : ∃ q, Wd.gluedB a.data.toList b.data.toList = q := ⟨_, rfl⟩
  rw [hq] at h1 ⊢
  clear hq ha hb
  cases hl : Wd.line 1 (a ++ b).data.toList 0 with
  | error p =>
    rw [hl] at h1
    have H1 : Hid (q = true) := by show _ = _; simpa using h1.symm
    have HL := Lib.hid (fun W => rline_err (a ++ b) W hsz p hl)
    have hp2 := line_place hl
    have hp3 : (0 : Int) ≤ (p : Int) := by omega
    clear hl h1
    go_enter Tryd.func28, Tryd.ntmps28
    go_wp2_with fail
    refine (HL.out _).mono ?_
    rintro e w1 ⟨rfl, hb⟩
    have HB := Lib.hid hb
    clear hb
    go_wp2_with fail
    go_ret
    exact ⟨ret_bool H1.out.symm, HB.out⟩
  | ok ws =>
    rw [hl] at h1
    have H1 : Hid (decide (ws.map Wrd.t = [a, b]) = !q) := by show _ = _; rw [← h1, Wd.mkB_of, Wd.mkB_of]
    have HL := Lib.hid (fun W => rline_ok (a ++ b) W hsz ws hl)
    clear hl h1
    by_cases hlen : ws.length = 2
    · match ws, hlen with
      | [x, y], _ =>
        have HX : Hid (q = !(decide (x.t = a) && decide (y.t = b))) := by
          show _ = _
          have := H1.out
          simp only [List.map_cons, List.map_nil, List.cons.injEq, and_true] at this
          rw [← Bool.decide_and, this, Bool.not_not]
        by_cases hx : x.t = a
        · by_cases hy : y.t = b
          · have H2 : Hid (q = false) := by show _ = _; rw [HX.out, hx, hy]; simp
            go_enter Tryd.func28, Tryd.ntmps28
            go_wp2_with fail
            refine (HL.out _).mono ?_
            rintro e w1 ⟨ad, c, rfl, hr, hb⟩
            obtain ⟨b1, o1, rfl, hbl, k0, k1, k2⟩ := hr.at_ 0 (by simp)
            obtain ⟨b2, o2, e2, hbl2, j0, j1, j2⟩ := hr.at_ 1 (by simp)
            injection e2 with e2
            injection e2 with e2 e3 _
            subst e2 e3
            have k0' : w1.cell? ⟨b1, o1, none⟩ = some (.string a) := by rw [← hx]; exact k0
            have j0' : w1.cell? ⟨b1, o1 + 3, none⟩ = some (.string b) := by rw [← hy]; exact j0
            have HB := Lib.hid hb
            clear hb hr k0 k1 k2 hx hy j0 j1 j2
            go_wp2_with fail
            go_ret
            exact ⟨ret_bool H2.out.symm, HB.out⟩
          · have H2 : Hid (q = true) := by show _ = _; rw [HX.out]; simp [hy]
            obtain ⟨hy1, hy2⟩ := str_ne hy
            go_enter Tryd.func28, Tryd.ntmps28
            go_wp2_with fail
            refine (HL.out _).mono ?_
            rintro e w1 ⟨ad, c, rfl, hr, hb⟩
            obtain ⟨b1, o1, rfl, hbl, k0, k1, k2⟩ := hr.at_ 0 (by simp)
            obtain ⟨b2, o2, e2, hbl2, j0, j1, j2⟩ := hr.at_ 1 (by simp)
            injection e2 with e2
            injection e2 with e2 e3 _
            subst e2 e3
            have k0' : w1.cell? ⟨b1, o1, none⟩ = some (.string a) := by rw [← hx]; exact k0
            have j0' : w1.cell? ⟨b1, o1 + 3, none⟩ = some (.string y.t) := j0
            have HB := Lib.hid hb
            clear hb hr k0 k1 k2 hx hy j0 j1 j2
            go_wp2_with fail
            go_ret
            exact ⟨ret_bool H2.out.symm, HB.out⟩
        · have H2 : Hid (q = true) := by show _ = _; rw [HX.out]; simp [hx]
          obtain ⟨hx1, hx2⟩ := str_ne hx
          go_enter Tryd.func28, Tryd.ntmps28
          go_wp2_with fail
          refine (HL.out _).mono ?_
          rintro e w1 ⟨ad, c, rfl, hr, hb⟩
          obtain ⟨b1, o1, rfl, hbl, k0, k1, k2⟩ := hr.at_ 0 (by simp)
          have k0' : w1.cell? ⟨b1, o1, none⟩ = some (.string x.t) := k0
          have HB := Lib.hid hb
          clear hb hr k0 k1 k2 hx
          go_wp2_with fail
          go_ret
          exact ⟨ret_bool H2.out.symm, HB.out⟩
    · have H2 : Hid (q = true) := by
        show _ = _
        have h2 := H1.out
        rw [decide_eq_false (fun e => hlen (by have := congrArg List.length e; simpa using this))] at h2
        simpa using h2.symm
      have hz : ((ws.length : Int) == 2) = false := by simp; omega
      have hz2 : ((ws.length : Int) != 2) = true := by simp; omega
      have hz3 : (ws.length != 2) = true := by simpa using hlen
      have hz4 : (ws.length == 2) = false := by simpa using hlen
      go_enter Tryd.func28, Tryd.ntmps28
      go_wp2_with fail
      refine (HL.out _).mono ?_
      rintro e w1 ⟨ad, c, rfl, hr, hb⟩
      have HB := Lib.hid hb
      clear hb hr
      go_wp2_with fail
      go_ret
      exact ⟨ret_bool H2.out.symm, HB.out⟩

set_option maxHeartbeats 6400000 in
set_option maxRecDepth 20000 in
theorem rsay_any (v : Value) (ss : List ByteArray) (w : World) (hr : RdsS w v ss) (hm : ∀ x ∈ ss, x.size ≤ 500000) (hl : ss.length ≤ 1000000) :
    Calls Tryd.prog 15 #[v] w (SayPost ss w) := by
  obtain ⟨ad, n, cp, rfl, hn, hnm, hcell⟩ := rdsS_form hr
  have HC := Lib.hid hcell
  have HM := Lib.hid hm
  have HN := Lib.hid hn
  have hnl : n ≤ 1000000 := by omega
  clear hr hcell hm hn hnm hl
  go_enter Tryd.func15, Tryd.ntmps15
  go_wp2_with fail
  go_loopw [4] (fun i wr => ∃ k : Nat, k ≤ n ∧ i = .int .i64 k ∧ Hid (∀ j (h : j < ss.length), j < k → Wd.wordB ss[j].data.toList = true) ∧ Hid (Below w.heap.size w wr)) (fun i wr => n - (intOf i).toNat)
  case atStart => exact ⟨0, Nat.zero_le _, rfl, fun j h h0 => absurd h0 (Nat.not_lt_zero _), Below.refl _ _⟩
  case round =>
    obtain ⟨k, hk, rfl, hall, hbw⟩ := hrel
    by_cases hlt : k < n
    · have hks : k < ss.length := by have := HN.out; omega
      have hkz : (k : Int) < (n : Int) := by omega
      obtain ⟨x, hx⟩ : ∃ x, ss[k] = x := ⟨_, rfl⟩
      obtain ⟨bl, ol, rfl, hbl, hc0⟩ := HC.out k hks
      rw [hx] at hc0
      have hxm : x.size ≤ 500000 := by rw [← hx]; exact HM.out _ (List.getElem_mem hks)
      have c1 := (hbw.out.cell (p := ⟨bl, ol + k, none⟩) hbl).trans hc0
      obtain ⟨q, hq⟩ : ∃ q, Wd.wordB x.data.toList = q := ⟨_, rfl⟩
      have HQ := Lib.hid hq
      have HX := Lib.hid hx
      have HA := Lib.hid (fun W => rword_any x W (by omega))
      rw [hq] at HA
      clear hc0 hx hq
      cases q with
      | true =>
        have HAll : Hid (∀ j (h : j < ss.length), j < k + 1 → Wd.wordB ss[j].data.toList = true) := fun j h h1 => by
          by_cases hj : j = k
          · subst hj; rw [HX.out]; exact HQ.out
          · exact hall.out j h (by omega)
        go_wp2_with fail
        refine (HA.out _).mono ?_
        rintro e w1 ⟨rfl, hb1⟩
        have HB1 : Hid (Below w.heap.size w w1) := hbw.out.trans (hb1.mono hbw.out.size)
        clear hb1
        go_wp2_with fail
        go_roundw
        case rel => exact ⟨k + 1, by omega, by go_num, HAll, HB1⟩
        case measure => simp [intOf]; omega
      | false =>
        have HG : Hid (Wd.say (ss.map fun x => x.data.toList) = none) := say_bad hks (by rw [HX.out]; exact HQ.out)
        go_wp2_with fail
        refine (HA.out _).mono ?_
        rintro e w1 ⟨rfl, hb1⟩
        have HB1 : Hid (Below w.heap.size w w1) := hbw.out.trans (hb1.mono hbw.out.size)
        clear hb1
        go_wp2_with fail
        go_ret2
        unfold SayPost
        rw [HG.out]
        exact ⟨rfl, HB1.out⟩
    · have hkz : decide ((k : Int) < (n : Int)) = false := by simp; omega
      have HG : Hid (Wd.say (ss.map fun x => x.data.toList) = some (Wd.jn (ss.map fun x => x.data.toList))) := say_good fun j hj => hall.out j hj (by have := HN.out; omega)
      have HAll : Hid (∀ j (h : j < ss.length), Wd.wordB ss[j].data.toList = true) := fun j h => hall.out j h (by have := HN.out; omega)
      obtain ⟨wo, rfl⟩ : ∃ wo : World, wo = wr := ⟨wr, rfl⟩
      go_wp2_with fail
      go_loopw [5, 6] (fun o i wr => ∃ (k : Nat) (t : ByteArray), k ≤ n ∧ i = .int .i64 k ∧ o = .string t ∧ t.size ≤ 600000000000 ∧ Hid (t.data.toList = Wd.jn ((ss.map fun x => x.data.toList).take k)) ∧ Hid (Below w.heap.size w wr)) (fun _ i wr => n - (intOf i).toNat)
      case atStart => exact ⟨0, ⟨#[]⟩, Nat.zero_le _, rfl, rfl, by decide, rfl, hbw.out⟩
      case round =>
        clear hbw hall hk hkz hlt
        obtain ⟨k, t, hk, rfl, rfl, htm, ht, hbw⟩ := hrel
        by_cases hlt : k < n
        · have hks : k < ss.length := by have := HN.out; omega
          have hkz : (k : Int) < (n : Int) := by omega
          obtain ⟨x, hx⟩ : ∃ x, ss[k] = x := ⟨_, rfl⟩
          obtain ⟨bl, ol, rfl, hbl, hc0⟩ := HC.out k hks
          rw [hx] at hc0
          have hxm : x.size ≤ 500000 := by rw [← hx]; exact HM.out _ (List.getElem_mem hks)
          have c1 := (hbw.out.cell (p := ⟨bl, ol + k, none⟩) hbl).trans hc0
          have hbl1 : bl < wr.heap.size := Nat.lt_of_lt_of_le hbl hbw.out.size
          have hwx : Wd.wordB x.data.toList = true := by rw [← hx]; exact HAll.out k hks
          have HLen : Hid ((Wd.jn ((ss.map fun x => x.data.toList).take (k + 1))).length ≤ 600000000000) := by
            have h1 := Wd.jn_len 500000 ((ss.map fun x => x.data.toList).take (k + 1)) (fun y hy => by
              obtain ⟨z, hz, rfl⟩ := List.mem_map.1 (List.mem_of_mem_take hy)
              rw [← Lib.size_eq]; exact HM.out z hz)
            have h2 : ((ss.map fun x => x.data.toList).take (k + 1)).length ≤ 1000000 := by rw [List.length_take]; omega
            have h3 := Nat.mul_le_mul_right (500000 + 1) h2
            show _ ≤ _
            omega
          have hsum : ¬ (9223372036854775807 < t.size + x.size) := by omega
          have HX := Lib.hid hx
          have HWx := Lib.hid hwx
          clear hc0 hx hwx
          by_cases hk0 : k = 0
          · have HT : Hid ((t ++ x).data.toList = Wd.jn ((ss.map fun x => x.data.toList).take (k + 1))) := by
              show _ = _
              rw [Joins.data_append, ht.out]
              subst hk0
              rw [map_take_succ hks, HX.out]
              simp [Wd.jn]
            subst hk0
            have c0 : wr.cell? ⟨bl, ol, none⟩ = some (.string x) := c1
            clear c1
            go_wp2_with fail
            go_quiet (fail)
            go_wp2_with fail
            go_roundw
            case rel => exact ⟨1, t ++ x, by omega, by go_num, rfl, by have := HLen.out; rw [← HT.out, size_list] at this; exact this, HT, below_dN hbw.out _⟩
            case measure => simp [intOf]; omega
          · obtain ⟨p, hp⟩ : ∃ p : Nat, k = p + 1 := ⟨k - 1, by omega⟩
            have hps : p < ss.length := by omega
            obtain ⟨y, hy⟩ : ∃ y, ss[p] = y := ⟨_, rfl⟩
            obtain ⟨b2, o2, e2, hb2l, hc2⟩ := HC.out p hps
            injection e2 with e2
            injection e2 with e3 e4 _
            subst e3 e4
            rw [hy] at hc2
            have c9 := (hbw.out.cell (p := ⟨bl, ol + p, none⟩) hbl).trans hc2
            have hym : y.size ≤ 500000 := by rw [← hy]; exact HM.out _ (List.getElem_mem hps)
            have hwy : Wd.wordB y.data.toList = true := by rw [← hy]; exact HAll.out p hps
            have HG2 := Lib.hid (fun W => rglued_any y x W (by omega) hwy HWx.out)
            obtain ⟨q, hq⟩ : ∃ q, Wd.gluedB y.data.toList x.data.toList = q := ⟨_, rfl⟩
            rw [hq] at HG2
            have hT : Wd.jn ((ss.map fun x => x.data.toList).take (k + 1)) = Wd.jn ((ss.map fun x => x.data.toList).take k) ++ ((if q then [32] else []) ++ x.data.toList) := by
              rw [map_take_succ hks, HX.out, ← hq]
              have : (ss.map fun x => x.data.toList).take k = (ss.map fun x => x.data.toList).take p ++ [y.data.toList] := by
                subst hp
                rw [map_take_succ hps, hy]
              rw [this]
              exact Wd.jn_snoc _ _ _
            have HTT := Lib.hid hT
            have hw1 : IntKind.i64.wrap ((k : Int) - 1) = (p : Int) := by
              have : (k : Int) - 1 = (p : Int) := by omega
              rw [this]; exact IntWalk.i64_in _ (by omega)
            have hp0 : (0 : Int) ≤ (p : Int) := by omega
            have hp1 : (p : Int) < (n : Int) := by omega
            have hp2 : (k : Int) - 1 = (p : Int) := by omega
            have hw2 : IntKind.i64.wrap (p : Int) = (p : Int) := IntWalk.i64_in _ (by omega)
            have hpn : p < n := by omega
            have hkg : (0 : Int) < (k : Int) := by omega
            have hkg2 : 0 < k := by omega
            have HP := Lib.hid hp
            clear hq hT hwy hy hc2 hb2l hp hk0
            go_wp2_with fail
            go_still_tail 12, (by kernel_rfl)
            go_wp2_with fail
            refine (HG2.out _).mono ?_
            rintro e w2 ⟨rfl, hb2⟩
            have hb3 : Below wr.heap.size wr w2 := ((Below.refl wr.heap.size wr).drew).trans hb2
            have x1 := (hb3.cell (p := ⟨bl, ol + k, none⟩) hbl1).trans c1
            have HB3 : Hid (Below w.heap.size w w2) := hbw.out.trans (hb3.mono hbw.out.size)
            have hkc : 0 < k := hkg2
            clear hb2 hb3 c1 c9
            cases q with
            | false =>
              have HT : Hid ((t ++ x).data.toList = Wd.jn ((ss.map fun x => x.data.toList).take (k + 1))) := by
                show _ = _
                rw [Joins.data_append, ht.out, HTT.out]
                simp
              go_wp2_with fail
              go_roundw
              case rel => exact ⟨k + 1, t ++ x, by omega, by go_num, rfl, by have := HLen.out; rw [← HT.out, size_list] at this; exact this, HT, HB3.out⟩
              case measure => simp [intOf]; omega
            | true =>
              have HT : Hid ((t ++ ⟨#[32]⟩ ++ x).data.toList = Wd.jn ((ss.map fun x => x.data.toList).take (k + 1))) := by
                show _ = _
                rw [Joins.data_append, Joins.data_append, ht.out, HTT.out]
                simp
              have hsum2 : ¬ (9223372036854775807 < t.size + 1) := by omega
              have hsum3 : ¬ (9223372036854775807 < t.size + 1 + x.size) := by omega
              go_wp2_with fail
              go_roundw
              case rel => exact ⟨k + 1, t ++ ⟨#[32]⟩ ++ x, by omega, by go_num, rfl, by have := HLen.out; rw [← HT.out, size_list] at this; exact this, HT, HB3.out⟩
              case measure => simp [intOf]; omega
        · have hkz : decide ((k : Int) < (n : Int)) = false := by simp; omega
          have HP : Hid (SayPost ss w (.returned (.tuple #[.string t, .int .i64 0])) wr) := by
            show SayPost _ _ _ _
            unfold SayPost
            rw [HG.out]
            have h2 := ht.out
            rw [List.take_of_length_le (by rw [List.length_map]; have := HN.out; omega)] at h2
            exact ⟨by rw [← h2]; show Ending.returned (.tuple #[.string t, .int .i64 0]) = Ending.returned (.tuple #[.string (Wd.mkB t.data.toList), .int .i64 0]); rw [Wd.mkB_of], hbw.out⟩
          go_wp2_with fail
          go_ret2
          exact HP.out
end Go.Proofs.YtfnfmkejkgiclaaDoor
