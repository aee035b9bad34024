/-
  Walks: slices.SortStableFunc: symMergeCmpFunc.
-/
import Derived.Test.YtlamhpiiikcpiaaGreatDoorRgI
import Derived.Deep.DeepCutAuto
namespace Go.Proofs.YtlamhpiiikcpiaaGreatDoor
open Go.RowKit Go.Shelf Go.Lib Go.Sort
set_option linter.unusedVariables false
set_option linter.unusedSectionVars false
variable {P : Program} {k : Nat} {α : Type} [Inhabited α]
theorem St.lt_of {lt : α → α → Bool} (hO : SWO lt) {x y x' y' : α} (h : lt x y = true) (h1 : lt x x' = false) (h2 : lt y' y = false) : lt x' y' = true := by
  cases hc : lt x' y' with
  | true => rfl
  | false => exact absurd (hO.ntrans _ _ _ (hO.ntrans _ _ _ h1 hc) h2) (by rw [h]; simp)
theorem St.nlt_of {lt : α → α → Bool} (hO : SWO lt) {x y x' y' : α} (h : lt x y = false) (h1 : lt x' x = false) (h2 : lt y y' = false) : lt x' y' = false :=
  hO.ntrans _ _ _ (hO.ntrans _ _ _ h1 h) h2
theorem St.mrg_nil_right {lt : α → α → Bool} (u : List α) : St.mrg lt u [] = u := rfl
/-- What the search for the middle has found. -/
theorem sym_cut {lt : α → α → Bool} (hO : SWO lt) (p u v q : List α) (a m b mid s e s0 r0 : Nat) (D : Array α) (hD : D = (p ++ u ++ v ++ q).toArray) (ha : a = p.length) (hm : m = p.length + u.length) (hb : b = p.length + u.length + v.length)
    (hs0 : a ≤ s0) (h1 : s0 ≤ s) (h2 : s ≤ r0) (h3 : r0 ≤ m) (h4 : r0 ≤ mid) (h5 : mid + m ≤ s0 + b) (he : e = mid + m - s) (e0 : s0 = a ∨ s0 + b = mid + m) (e1 : r0 = m ∨ r0 = mid)
    (I1 : ∀ c, s0 ≤ c → c < s → lt D[mid + m - 1 - c]! D[c]! = false) (I2 : ∀ c, s ≤ c → c < r0 → lt D[mid + m - 1 - c]! D[c]! = true) (hu : St.Srd lt u) (hv : St.Srd lt v) :
    St.mrg lt u v = St.mrg lt (u.take (s - a)) (v.take (e - m)) ++ St.mrg lt (u.drop (s - a)) (v.drop (e - m)) := by
  have gu : ∀ i (h : i < u.length), D[a + i]! = u[i] := fun i h => by
    rw [hD, ha, List.append_assoc (p ++ u)]
    exact get_row p u (v ++ q) i h
  have gv : ∀ i (h : i < v.length), D[m + i]! = v[i] := fun i h => by
    rw [hD, hm, show p.length + u.length = (p ++ u).length by simp]
    exact get_row (p ++ u) v q i h
  have := St.mrg_halves (lt := lt) (u1 := u.take (s - a)) (u2 := u.drop (s - a)) (v1 := v.take (e - m)) (v2 := v.drop (e - m)) hO (by rw [List.take_append_drop]; exact hu) (by rw [List.take_append_drop]; exact hv) ?_ ?_
  · rw [List.take_append_drop, List.take_append_drop] at this
    exact this
  · intro x hx y hy
    obtain ⟨i, hi, h6, rfl⟩ := mem_take_get hx
    obtain ⟨j, hj, h7, rfl⟩ := mem_drop_get hy
    have hsr : s < r0 := by omega
    have h := I2 s (Nat.le_refl _) hsr
    have hu' : s - a < u.length := by omega
    have hv' : e - 1 - m < v.length := by omega
    rw [show mid + m - 1 - s = m + (e - 1 - m) by omega, gv _ hv', show D[s]! = u[s - a] by rw [← gu _ hu']; congr 1; omega] at h
    refine St.lt_of hO h ?_ ?_
    · by_cases hq : i = e - 1 - m
      · subst hq; exact hO.irrefl _
      · exact srd_get hv hi hv' (by omega)
    · by_cases hq : j = s - a
      · subst hq; exact hO.irrefl _
      · exact srd_get hu hu' hj (by omega)
  · intro x hx y hy
    obtain ⟨i, hi, h6, rfl⟩ := mem_drop_get hx
    obtain ⟨j, hj, h7, rfl⟩ := mem_take_get hy
    have hsr : s0 < s := by omega
    have h := I1 (s - 1) (by omega) (by omega)
    have hu' : s - 1 - a < u.length := by omega
    have hv' : e - m < v.length := by omega
    rw [show mid + m - 1 - (s - 1) = m + (e - m) by omega, gv _ hv', show D[s - 1]! = u[s - 1 - a] by rw [← gu _ hu']; congr 1; omega] at h
    refine St.nlt_of hO h ?_ ?_
    · by_cases hq : i = e - m
      · subst hq; exact hO.irrefl _
      · exact srd_get hv hv' hi (by omega)
    · by_cases hq : j = s - 1 - a
      · subst hq; exact hO.irrefl _
      · exact srd_get hu hj hu' (by omega)
set_option maxHeartbeats 3200000 in
set_option maxRecDepth 20000 in
theorem sym_w (L : RowProg P k) (enc : α → List Value) (cf : α → α → Int) (g : Nat) (cb : Array Value) (blk off cap sz : Nat) (d0 : Array α) (w0 : World) (eg : ∀ args w, (callFunc g args).run P w = .ok (.enter g args) w) (hcmp : CmpLays P g cb enc k cf blk off sz w0) (R : RowK enc k w0 blk off d0) (hO : SWO (ltOf cf)) (hd0 : d0.size = sz) (hsz : sz < 2305843009213693952) :
    ∀ (N a m b : Nat) (w : World) (p u v q : List α), u.length + v.length ≤ N → a = p.length → m = p.length + u.length → b = p.length + u.length + v.length → u ≠ [] → v ≠ [] → (p ++ u ++ v ++ q).length = sz → SWK enc k w0 blk off (p ++ u ++ v ++ q).toArray w → St.Srd (ltOf cf) u → St.Srd (ltOf cf) v →
    Calls P 120 #[.slice (some ⟨blk, off, none⟩) sz cap, .int .i64 a, .int .i64 m, .int .i64 b, .func (.func g) #[] cb] w fun e w' => e = .returned (.tuple #[]) ∧ SWK enc k w0 blk off (p ++ St.mrg (ltOf cf) u v ++ q).toArray w' := by
  intro N
  induction N with
  | zero =>
    intro a m b w p u v q h _ _ _ hu
    exact absurd (List.length_eq_zero_iff.1 (by omega)) hu
  | succ N ih =>
    intro a m b w p u v q hN ha hm hb hu0 hv0 hs S hu hv
    have hul := List.length_pos_iff.2 hu0
    have hvl := List.length_pos_iff.2 hv0
    by_cases hu1 : u.length = 1
    · obtain ⟨x, rfl⟩ := List.length_eq_one_iff.1 hu1
      exact sym_left L enc cf g cb blk off cap a m b sz d0 w0 w eg hcmp R hO p x v q ha (by simpa using hm) (by simpa using hb) hd0 hs S hv hsz
    by_cases hv1 : v.length = 1
    · obtain ⟨x, rfl⟩ := List.length_eq_one_iff.1 hv1
      exact sym_right L enc cf g cb blk off cap a m b sz d0 w0 w eg hcmp R hO p u x q ha hm (by simpa using hb) (by omega) hd0 hs S hu hsz
    have hlen : p.length + u.length + v.length + q.length = sz := by rw [← hs]; simp; omega
    obtain ⟨dk, hdk⟩ : ∃ dk, dk = (p ++ u ++ v ++ q).toArray := ⟨_, rfl⟩
    rw [← hdk] at S
    have hdks : dk.size = sz := by rw [hdk, List.size_toArray]; exact hs
    have IH : Hid _ := ih
    have HS := Lib.hid S
    have HD0 := Lib.hid hd0
    have HU := Lib.hid hu
    have HV := Lib.hid hv
    have HDK := Lib.hid hdk
    have HDKS := Lib.hid hdks
    have HCM := Lib.hid hcmp
    have HN := Lib.hid hN
    have HA := Lib.hid ha
    have HM := Lib.hid hm
    have HB := Lib.hid hb
    have HRot := Lib.hid (rotate_w (α := α) L enc (.func (.func g) #[] cb) blk off cap)
    have hbsz : b ≤ sz := by omega
    have ham : a < m := by omega
    have hmb : m < b := by omega
    obtain ⟨ul, hulE⟩ : ∃ ul, ul = u.length := ⟨_, rfl⟩
    obtain ⟨vl, hvlE⟩ : ∃ vl, vl = v.length := ⟨_, rfl⟩
    have ga0 : IntKind.i64.wrap ((m : Int) - (a : Int)) = (ul : Int) := by rw [IntWalk.i64_in _ (by omega)]; omega
    have ga1 : ((ul : Int) == 1) = false := beq_eq_false_iff_ne.2 (by omega)
    have gb0 : IntKind.i64.wrap ((b : Int) - (m : Int)) = (vl : Int) := by rw [IntWalk.i64_in _ (by omega)]; omega
    have gb1 : ((vl : Int) == 1) = false := beq_eq_false_iff_ne.2 (by omega)
    obtain ⟨mid, hmid⟩ : ∃ mid, mid = (a + b) / 2 := ⟨_, rfl⟩
    have gm : ((a : Int) + (b : Int)) / 2 = (mid : Int) := by omega
    obtain ⟨n, hn⟩ : ∃ n, n = mid + m := ⟨_, rfl⟩
    have gn : (mid : Int) + (m : Int) = (n : Int) := by omega
    obtain ⟨pp, hpp⟩ : ∃ pp, pp = n - 1 := ⟨_, rfl⟩
    have gp : IntKind.i64.wrap ((n : Int) - 1) = (pp : Int) := by rw [IntWalk.i64_in _ (by omega)]; omega
    have gp' : (n : Int) - 1 = (pp : Int) := by omega
    have hmida : a < mid := by omega
    have hmidb : mid < b := by omega
    have HMID := Lib.hid hmid
    have HNN := Lib.hid hn
    have HPP := Lib.hid hpp
    have hnsz : n < 4611686018427387904 := by omega
    clear ih S hu hv hdk hdks hcmp hN ha hm hb hs hulE hvlE hu1 hv1 hul hvl hu0 hv0 hlen hd0 hn hpp hmid
    have mixed := L.mixed; have t0 := L.t0; have a0 := L.a0; have z0 := L.z0; have v0 := L.v0; have t3 := L.t3; have a3 := L.a3; have z3 := L.z3; have v3 := L.v3; have t4 := L.t4; have a4 := L.a4; have z4 := L.z4; have v4 := L.v4; have ts := L.ts; have asl := L.asl; have zs := L.zs; have vs := L.vs; have tf := L.tf; have af := L.af; have zf := L.zf; have vf := L.vf; have tu := L.tu; have au := L.au; have zu := L.zu; have vu := L.vu; have aE := L.aE; have zE := L.zE
    have FG := L.fSym
    have e99 : ∀ args w, (callFunc 140 args).run P w = .ok (.enter 140 args) w := enters_of L.fRot (by kernel_rfl) rfl
    have e94 : ∀ args w, (callFunc 120 args).run P w = .ok (.enter 120 args) w := enters_of L.fSym (by kernel_rfl) rfl
    clear L
    go_enter FG, Tryz.ntmps120
    go_upto_if 140 with fail
    go_cut [20, 21] (fun s20 s21 wc => ∃ s0 r0 : Nat, s20 = .int .i64 s0 ∧ s21 = .int .i64 r0 ∧ a ≤ s0 ∧ s0 ≤ r0 ∧ r0 ≤ m ∧ r0 ≤ mid ∧ mid + m ≤ s0 + b ∧ Hid ((s0 = a ∨ s0 + b = mid + m) ∧ (r0 = m ∨ r0 = mid)) ∧ wc = w)
    case first => as_aux_lemma =>
      have q1 := HNN.out
      have q2 := HMID.out
      by_cases hmm : mid < m
      · have hmz : (mid : Int) < (m : Int) := by omega
        obtain ⟨s0, hs0⟩ : ∃ s0, s0 = n - b := ⟨_, rfl⟩
        have gs : IntKind.i64.wrap ((n : Int) - (b : Int)) = (s0 : Int) := by rw [IntWalk.i64_in _ (by omega)]; omega
        have hs1 : s0 + b = mid + m := by omega
        have hs2 : a ≤ s0 := by omega
        have HS1 := Lib.hid hs1
        clear hs0 hs1 q1 q2
        go_wp2_with fail
        go_meet
        case rel => exact ⟨s0, mid, rfl, rfl, hs2, by have := HS1.out; omega, by omega, Nat.le_refl _, by have := HS1.out; omega, ⟨.inr HS1.out, .inr rfl⟩, rfl⟩
      · have hmz : ¬ (mid : Int) < (m : Int) := by omega
        have h9 : mid + m ≤ a + b := by omega
        have H9 := Lib.hid h9
        clear q1 q2 h9
        go_wp2_with fail
        go_meet
        case rel => exact ⟨a, m, rfl, rfl, Nat.le_refl _, by omega, Nat.le_refl _, by omega, H9.out, ⟨.inl rfl, .inl rfl⟩, rfl⟩
    case rest => as_aux_lemma =>
      obtain ⟨s0, r0, rfl, rfl, ha0, hsr, hrm, hrd, hmd, HE01, rfl⟩ := hcut
      have HMD := Lib.hid hmd
      clear hmd
      go_wp2_with fail
      go_loopw [20, 21] (fun iv jv wr => ∃ s r : Nat, iv = .int .i64 s ∧ jv = .int .i64 r ∧ s0 ≤ s ∧ s ≤ r ∧ r ≤ r0 ∧ Hid ((∀ c, s0 ≤ c → c < s → ltOf cf dk[mid + m - 1 - c]! dk[c]! = false) ∧ (∀ c, r ≤ c → c < r0 → ltOf cf dk[mid + m - 1 - c]! dk[c]! = true)) ∧ Hid (SWK enc k w0 blk off dk wr)) (fun iv jv _ => (intOf jv).toNat - (intOf iv).toNat)
      case atStart => exact ⟨s0, r0, rfl, rfl, Nat.le_refl _, hsr, Nat.le_refl _, (⟨fun c h1 h2 => by omega, fun c h1 h2 => by omega⟩ : (∀ c, s0 ≤ c → c < s0 → ltOf cf dk[mid + m - 1 - c]! dk[c]! = false) ∧ (∀ c, r0 ≤ c → c < r0 → ltOf cf dk[mid + m - 1 - c]! dk[c]! = true)), HS⟩
      case round =>
        obtain ⟨wo, rfl⟩ : ∃ wo : World, wo = wr := ⟨wr, rfl⟩
        obtain ⟨s, r, rfl, rfl, hss, hsr2, hrr, HI, HW⟩ := hrel
        by_cases hlt : s < r
        · obtain ⟨c, hc⟩ : ∃ c, c = (s + r) / 2 := ⟨_, rfl⟩
          have gc : ((s : Int) + (r : Int)) / 2 = (c : Int) := by omega
          obtain ⟨pc, hpc⟩ : ∃ pc, pc = mid + m - 1 - c := ⟨_, rfl⟩
          have gpc : IntKind.i64.wrap ((pp : Int) - (c : Int)) = (pc : Int) := by have := HPP.out; have := HNN.out; rw [IntWalk.i64_in _ (by omega)]; omega
          have gpc' : (pp : Int) - (c : Int) = (pc : Int) := by have := HPP.out; have := HNN.out; omega
          have hcsz : c < sz := by omega
          have hpcsz : pc < sz := by have := HMD.out; omega
          have gpw : IntKind.i64.wrap (pc : Int) = (pc : Int) := IntWalk.i64_in _ (by omega)
          have hsc : s ≤ c := by omega
          have hcr : c < r := by omega
          have lp := HW.out.ld R (HDKS.out.trans HD0.out.symm) P pc (by rw [HDKS.out]; exact hpcsz)
          have lc := HW.out.ld R (HDKS.out.trans HD0.out.symm) P c (by rw [HDKS.out]; exact hcsz)
          have hcg := HW.out.cmp HCM.out HDKS.out dk[pc]! dk[c]!
          have key : ∀ i j, s0 ≤ i → i < j → j < r0 → ltOf cf dk[mid + m - 1 - i]! dk[i]! = true → ltOf cf dk[mid + m - 1 - j]! dk[j]! = true := fun i j hi hij hj h => by
            have gu : ∀ i (h : i < u.length), dk[a + i]! = u[i] := fun i h => by
              rw [HDK.out, HA.out, List.append_assoc (p ++ u)]
              exact get_row p u (v ++ q) i h
            have gv : ∀ i (h : i < v.length), dk[m + i]! = v[i] := fun i h => by
              rw [HDK.out, HM.out, show p.length + u.length = (p ++ u).length by simp]
              exact get_row (p ++ u) v q i h
            have := HA.out; have := HM.out; have := HB.out; have := HMD.out
            have q1 : i - a < u.length := by omega
            have q2 : j - a < u.length := by omega
            have q3 : mid - 1 - i < v.length := by omega
            have q4 : mid - 1 - j < v.length := by omega
            have x1 := gu _ q1; have x2 := gu _ q2; have x3 := gv _ q3; have x4 := gv _ q4
            rw [show a + (i - a) = i by omega] at x1
            rw [show a + (j - a) = j by omega] at x2
            rw [show m + (mid - 1 - i) = mid + m - 1 - i by omega] at x3
            rw [show m + (mid - 1 - j) = mid + m - 1 - j by omega] at x4
            rw [x1, x3] at h
            rw [x2, x4]
            exact St.lt_of hO h (srd_get HV.out q4 q3 (by omega)) (srd_get HU.out q1 q2 (by omega))
          have I1 : Hid (ltOf cf dk[pc]! dk[c]! = false → ∀ t, s0 ≤ t → t < c + 1 → ltOf cf dk[mid + m - 1 - t]! dk[t]! = false) := fun h t h1 h2 => by
            by_cases e : t = c
            · subst e; rw [← hpc]; exact h
            · cases hq : ltOf cf dk[mid + m - 1 - t]! dk[t]! with
              | false => rfl
              | true =>
                have := key t c h1 (by omega) (by omega) hq
                rw [← hpc, h] at this
                cases this
          have I2 : Hid (ltOf cf dk[pc]! dk[c]! = true → ∀ t, c ≤ t → t < r0 → ltOf cf dk[mid + m - 1 - t]! dk[t]! = true) := fun h t h1 h2 => by
            by_cases e : t = c
            · subst e; rw [← hpc]; exact h
            · exact key c t (by omega) (by omega) h2 (by rw [← hpc]; exact h)
          generalize dk[pc]! = y at lp hcg I1 I2
          generalize dk[c]! = z at lc hcg I1 I2
          clear hc hpc key
          by_cases hlv : cf y z < 0
          · have J := Lib.hid (I2.out (decide_eq_true hlv))
            have hdv : decide (cf y z < 0) = true := decide_eq_true hlv
            clear I1 I2
            go_wp2_with fail
            go_quiet_grown (first | (go_at_fn g; refine Calls.grown_of (hcg _ _)))
            go_wp2_with fail
            go_roundw
            case measure => simp [intOf]; omega
            case rel => exact ⟨s, c, rfl, by first | rfl | go_num, hss, by omega, by omega, ⟨HI.out.1, J.out⟩, HW.out.grown nq osq⟩
          · have J := Lib.hid (I1.out (decide_eq_false hlv))
            have hdv : decide (cf y z < 0) = false := decide_eq_false hlv
            clear I1 I2
            go_wp2_with fail
            go_quiet_grown (first | (go_at_fn g; refine Calls.grown_of (hcg _ _)))
            go_wp2_with fail
            go_roundw
            case measure => simp [intOf]; omega
            case rel => exact ⟨c + 1, r, by first | rfl | go_num, rfl, by omega, by omega, hrr, ⟨J.out, HI.out.2⟩, HW.out.grown nq osq⟩
        · obtain rfl : s = r := by omega
          have hsr' : ¬ (s : Int) < (s : Int) := by omega
          obtain ⟨e, he⟩ : ∃ e, e = mid + m - s := ⟨_, rfl⟩
          have ge : IntKind.i64.wrap ((n : Int) - (s : Int)) = (e : Int) := by have := HNN.out; rw [IntWalk.i64_in _ (by omega)]; omega
          have ge' : (n : Int) - (s : Int) = (e : Int) := by have := HNN.out; omega
          have gew : IntKind.i64.wrap (e : Int) = (e : Int) := IntWalk.i64_in _ (by have := HMD.out; omega)
          have HCut := Lib.hid (sym_cut hO p u v q a m b mid s e s0 r0 dk HDK.out HA.out HM.out HB.out ha0 hss hrr hrm hrd HMD.out he HE01.out.1 HE01.out.2 HI.out.1 HI.out.2 HU.out HV.out)
          have has : a ≤ s := by omega
          have hsm : s ≤ m := by omega
          have hme : m ≤ e := by omega
          have heb : e ≤ b := by have := HMD.out; omega
          have HEE := Lib.hid he
          obtain ⟨u1, hu1⟩ : ∃ u1, u1 = u.take (s - a) := ⟨_, rfl⟩
          obtain ⟨u2, hu2⟩ : ∃ u2, u2 = u.drop (s - a) := ⟨_, rfl⟩
          obtain ⟨v1, hv1⟩ : ∃ v1, v1 = v.take (e - m) := ⟨_, rfl⟩
          obtain ⟨v2, hv2⟩ : ∃ v2, v2 = v.drop (e - m) := ⟨_, rfl⟩
          rw [← hu1, ← hu2, ← hv1, ← hv2] at HCut
          have hul : u.length = m - a := by have := HA.out; have := HM.out; omega
          have hvl : v.length = b - m := by have := HM.out; have := HB.out; omega
          have L1 : Hid (u1.length = s - a) := by show _ = _; rw [hu1, List.length_take]; omega
          have L2 : Hid (u2.length = m - s) := by show _ = _; rw [hu2, List.length_drop]; omega
          have L3 : Hid (v1.length = e - m) := by show _ = _; rw [hv1, List.length_take]; omega
          have L4 : Hid (v2.length = b - e) := by show _ = _; rw [hv2, List.length_drop]; omega
          have hus : St.Srd (ltOf cf) (u1 ++ u2) := by rw [hu1, hu2, List.take_append_drop]; exact HU.out
          have hvs : St.Srd (ltOf cf) (v1 ++ v2) := by rw [hv1, hv2, List.take_append_drop]; exact HV.out
          have SU := Lib.hid (List.pairwise_append.1 hus)
          have SV := Lib.hid (List.pairwise_append.1 hvs)
          have eu : u = u1 ++ u2 := by rw [hu1, hu2, List.take_append_drop]
          have ev : v = v1 ++ v2 := by rw [hv1, hv2, List.take_append_drop]
          have ecat : p ++ u ++ v ++ q = p ++ u1 ++ u2 ++ v1 ++ v2 ++ q := by rw [eu, ev]; simp only [List.append_assoc]
          have hw0 : SWK enc k w0 blk off (p ++ u1 ++ u2 ++ v1 ++ v2 ++ q).toArray wo := by
            have := HW.out
            rw [HDK.out, ecat] at this
            exact this
          have HW0 := Lib.hid hw0
          have HLn : Hid (p.length + u1.length + u2.length + v1.length + v2.length + q.length = sz) := by
            show _ = _
            have := HDKS.out
            rw [HDK.out, List.size_toArray, ecat] at this
            rw [← this]
            simp only [List.length_append]
          have HP : Hid (p.length = a) := HA.out.symm
          have hN' : u1.length + v1.length ≤ N ∧ u2.length + v2.length ≤ N := by
            have := HN.out; have := L1.out; have := L2.out; have := L3.out; have := L4.out; have := HMID.out
            have h6 : e = mid + m - s := he
            constructor <;> omega
          have HNN' := Lib.hid hN'
          have hmid1 : mid = s + (e - m) := by have h6 : e = mid + m - s := he; omega
          have HM1 := Lib.hid hmid1
          clear hw0 hus hvs hul hvl hu1 hu2 hv1 hv2 he HI hN' hmid1 eu ev ecat HU HV
          go_upto_region 39 with fail
          go_cut [185] (fun sb wc => ∃ bb : Bool, sb = .bool bb ∧ Hid (bb = true ↔ s < m ∧ m < e) ∧ wc = wo)
          case first => as_aux_lemma =>
            by_cases c1 : s < m
            · have z1 : (s : Int) < (m : Int) := by omega
              by_cases c2 : m < e
              · have hd := trivial
                have z2 : (m : Int) < (e : Int) := by omega
                go_wp2_with fail
                go_meet
                case rel => exact ⟨true, rfl, (⟨fun _ => ⟨c1, c2⟩, fun _ => rfl⟩ : true = true ↔ s < m ∧ m < e), rfl⟩
              · have hd : Hid (false = true ↔ s < m ∧ m < e) := ⟨fun h => (by cases h), fun h => absurd h.2 c2⟩
                have z2 : ¬ (m : Int) < (e : Int) := by omega
                go_wp2_with fail
                go_meet
                case rel => exact ⟨false, rfl, hd, rfl⟩
            · have hd : Hid (false = true ↔ s < m ∧ m < e) := ⟨fun h => (by cases h), fun h => absurd h.1 c1⟩
              have z1 : ¬ (s : Int) < (m : Int) := by omega
              go_wp2_with fail
              go_meet
              case rel => exact ⟨false, rfl, hd, rfl⟩
          case rest => as_aux_lemma =>
            obtain ⟨bb, rfl, HBB, rfl⟩ := hcut
            go_upto_if 185 with fail
            go_cut [24] (fun s24 wc => s24 = .int .i64 e ∧ Hid (SWK enc k w0 blk off (p ++ u1 ++ v1 ++ u2 ++ v2 ++ q).toArray wc))
            case first => as_aux_lemma =>
              cases bb with
              | true =>
                have c1 := HBB.out.1 rfl
                have HC := Lib.hid (HRot.out s m e sz d0 w0 wc R (p ++ u1) u2 v1 (v2 ++ q) (by have := HP.out; have := L1.out; simp only [List.length_append]; omega) (by have := HP.out; have := L1.out; have := L2.out; simp only [List.length_append]; omega) (by have := HP.out; have := L1.out; have := L2.out; have := L3.out; simp only [List.length_append]; omega) (List.length_pos_iff.1 (by have := L2.out; omega)) (List.length_pos_iff.1 (by have := L3.out; omega)) HD0.out (by have := HLn.out; simp only [List.length_append]; omega) (by have := HW0.out; rw [← List.append_assoc (p ++ u1 ++ u2 ++ v1)]; exact this) hsz)
                clear c1
                go_wp2_with fail
                refine HC.out.mono ?_
                rintro ex w2 ⟨rfl, hw2⟩
                have HW2 : Hid (SWK enc k w0 blk off (p ++ u1 ++ v1 ++ u2 ++ v2 ++ q).toArray w2) := by show SWK _ _ _ _ _ _ _; rw [List.append_assoc _ v2]; exact hw2
                clear hw2
                go_wp2_with fail
                go_meet
                case rel => exact ⟨rfl, HW2⟩
              | false =>
                have HW2 : Hid (SWK enc k w0 blk off (p ++ u1 ++ v1 ++ u2 ++ v2 ++ q).toArray wc) := by
                  show SWK _ _ _ _ _ _ _
                  have := HW0.out
                  have hb0 := HBB.out
                  by_cases c3 : s < m
                  · have c4 : ¬ m < e := fun h => absurd (hb0.2 ⟨c3, h⟩) (by simp)
                    rw [List.length_eq_zero_iff.1 (show v1.length = 0 by have := L3.out; omega)] at this ⊢
                    simpa using this
                  · rw [List.length_eq_zero_iff.1 (show u2.length = 0 by have := L2.out; omega)] at this ⊢
                    simpa using this
                go_wp2_with fail
                go_meet
                case rel => exact ⟨rfl, HW2⟩
            case rest => as_aux_lemma =>
              obtain ⟨rfl, HW2⟩ := hcut
              clear HW0 HW HBB
              obtain ⟨wd, rfl⟩ : ∃ wd : World, wd = wc := ⟨wc, rfl⟩
              go_upto_region 41 with fail
              go_cut [199] (fun sb wc => ∃ bb : Bool, sb = .bool bb ∧ Hid (bb = true ↔ a < s ∧ s < mid) ∧ wc = wd)
              case first => as_aux_lemma =>
                by_cases c1 : a < s
                · have z1 : (a : Int) < (s : Int) := by omega
                  by_cases c2 : s < mid
                  · have hd := trivial
                    have z2 : (s : Int) < (mid : Int) := by omega
                    go_wp2_with fail
                    go_meet
                    case rel => exact ⟨true, rfl, (⟨fun _ => ⟨c1, c2⟩, fun _ => rfl⟩ : true = true ↔ a < s ∧ s < mid), rfl⟩
                  · have hd : Hid (false = true ↔ a < s ∧ s < mid) := ⟨fun h => (by cases h), fun h => absurd h.2 c2⟩
                    have z2 : ¬ (s : Int) < (mid : Int) := by omega
                    go_wp2_with fail
                    go_meet
                    case rel => exact ⟨false, rfl, hd, rfl⟩
                · have hd : Hid (false = true ↔ a < s ∧ s < mid) := ⟨fun h => (by cases h), fun h => absurd h.1 c1⟩
                  have z1 : ¬ (a : Int) < (s : Int) := by omega
                  go_wp2_with fail
                  go_meet
                  case rel => exact ⟨false, rfl, hd, rfl⟩
              case rest => as_aux_lemma =>
                obtain ⟨bb, rfl, HBB, rfl⟩ := hcut
                go_upto_if 199 with fail
                go_cut [24] (fun s24 wc => s24 = .int .i64 e ∧ Hid (SWK enc k w0 blk off (p ++ St.mrg (ltOf cf) u1 v1 ++ u2 ++ v2 ++ q).toArray wc))
                case first => as_aux_lemma =>
                  cases bb with
                  | true =>
                    have c1 := HBB.out.1 rfl
                    have HC := Lib.hid (IH.out a s mid wc p u1 v1 (u2 ++ v2 ++ q) HNN'.out.1 HP.out.symm (by have := HP.out; have := L1.out; omega) (by have := HP.out; have := L1.out; have := L3.out; have := HM1.out; omega) (List.length_pos_iff.1 (by have := L1.out; omega)) (List.length_pos_iff.1 (by have := L3.out; have := HM1.out; omega)) (by have := HLn.out; simp only [List.length_append]; omega) (by have := HW2.out; rw [← List.append_assoc, ← List.append_assoc]; exact this) SU.out.1 SV.out.1)
                    clear c1
                    go_wp2_with fail
                    refine HC.out.mono ?_
                    rintro ex w2 ⟨rfl, hw2⟩
                    have HW3 : Hid (SWK enc k w0 blk off (p ++ St.mrg (ltOf cf) u1 v1 ++ u2 ++ v2 ++ q).toArray w2) := by show SWK _ _ _ _ _ _ _; simpa using hw2
                    clear hw2
                    go_wp2_with fail
                    go_meet
                    case rel => exact ⟨rfl, HW3⟩
                  | false =>
                    have HW3 : Hid (SWK enc k w0 blk off (p ++ St.mrg (ltOf cf) u1 v1 ++ u2 ++ v2 ++ q).toArray wc) := by
                      show SWK _ _ _ _ _ _ _
                      have := HW2.out
                      have hb0 := HBB.out
                      by_cases c3 : a < s
                      · have c4 : ¬ s < mid := fun h => absurd (hb0.2 ⟨c3, h⟩) (by simp)
                        rw [List.length_eq_zero_iff.1 (show v1.length = 0 by have := L3.out; have := HM1.out; omega)] at this ⊢
                        rw [St.mrg_nil_right]
                        simpa using this
                      · rw [List.length_eq_zero_iff.1 (show u1.length = 0 by have := L1.out; omega)] at this ⊢
                        rw [St.mrg_nil_left hO SV.out.1]
                        simpa using this
                    go_wp2_with fail
                    go_meet
                    case rel => exact ⟨rfl, HW3⟩
                case rest => as_aux_lemma =>
                  obtain ⟨rfl, HW3⟩ := hcut
                  clear HW2 HBB
                  obtain ⟨we, rfl⟩ : ∃ we : World, we = wc := ⟨wc, rfl⟩
                  go_upto_region 43 with fail
                  go_cut [213] (fun sb wc => ∃ bb : Bool, sb = .bool bb ∧ Hid (bb = true ↔ mid < e ∧ e < b) ∧ wc = we)
                  case first => as_aux_lemma =>
                    by_cases c1 : mid < e
                    · have z1 : (mid : Int) < (e : Int) := by omega
                      by_cases c2 : e < b
                      · have hd := trivial
                        have z2 : (e : Int) < (b : Int) := by omega
                        go_wp2_with fail
                        go_meet
                        case rel => exact ⟨true, rfl, (⟨fun _ => ⟨c1, c2⟩, fun _ => rfl⟩ : true = true ↔ mid < e ∧ e < b), rfl⟩
                      · have hd : Hid (false = true ↔ mid < e ∧ e < b) := ⟨fun h => (by cases h), fun h => absurd h.2 c2⟩
                        have z2 : ¬ (e : Int) < (b : Int) := by omega
                        go_wp2_with fail
                        go_meet
                        case rel => exact ⟨false, rfl, hd, rfl⟩
                    · have hd : Hid (false = true ↔ mid < e ∧ e < b) := ⟨fun h => (by cases h), fun h => absurd h.1 c1⟩
                      have z1 : ¬ (mid : Int) < (e : Int) := by omega
                      go_wp2_with fail
                      go_meet
                      case rel => exact ⟨false, rfl, hd, rfl⟩
                  case rest => as_aux_lemma =>
                    obtain ⟨bb, rfl, HBB, rfl⟩ := hcut
                    go_upto_if 213 with fail
                    cases bb with
                    | true =>
                      have c1 := HBB.out.1 rfl
                      have HC := Lib.hid (IH.out mid e b wc (p ++ St.mrg (ltOf cf) u1 v1) u2 v2 q HNN'.out.2 (by have := HP.out; have := L1.out; have := L3.out; have := HM1.out; simp only [List.length_append, St.length_mrg]; omega) (by have := HP.out; have := L1.out; have := L2.out; have := L3.out; have := HM1.out; simp only [List.length_append, St.length_mrg]; omega) (by have := HP.out; have := L1.out; have := L2.out; have := L3.out; have := L4.out; have := HM1.out; simp only [List.length_append, St.length_mrg]; omega) (List.length_pos_iff.1 (by have := L2.out; have := HM1.out; omega)) (List.length_pos_iff.1 (by have := L4.out; omega)) (by have := HLn.out; simp only [List.length_append, St.length_mrg]; omega) HW3.out SU.out.2.1 SV.out.2.1)
                      clear c1
                      go_wp2_with fail
                      refine HC.out.mono ?_
                      rintro ex w2 ⟨rfl, hw2⟩
                      have HW4 := Lib.hid hw2
                      clear hw2
                      go_wp2_with fail
                      go_end0
                      refine ⟨rfl, ?_⟩
                      rw [HCut.out]
                      have := HW4.out
                      simpa using this
                    | false =>
                      have HW4 : Hid (SWK enc k w0 blk off (p ++ St.mrg (ltOf cf) u v ++ q).toArray wc) := by
                        show SWK _ _ _ _ _ _ _
                        rw [HCut.out]
                        have := HW3.out
                        have hb0 := HBB.out
                        by_cases c3 : mid < e
                        · have c4 : ¬ e < b := fun h => absurd (hb0.2 ⟨c3, h⟩) (by simp)
                          rw [List.length_eq_zero_iff.1 (show v2.length = 0 by have := L4.out; omega)] at this ⊢
                          rw [St.mrg_nil_right]
                          simpa using this
                        · rw [List.length_eq_zero_iff.1 (show u2.length = 0 by have := L2.out; have := HM1.out; omega)] at this ⊢
                          rw [St.mrg_nil_left hO SV.out.2.1]
                          simpa using this
                      go_wp2_with fail
                      go_end0
                      exact ⟨rfl, by simpa using HW4.out⟩
end Go.Proofs.YtlamhpiiikcpiaaGreatDoor
