/-
  Walks: slices.SortStableFunc: symMergeCmpFunc where one of the two runs is a single element.
-/
import Derived.Test.YtlbelkjgaeaaeaaGreatStB
import Derived.Shelf.SlSortCmp.QuietGrown
namespace Go.Proofs.YtlbelkjgaeaaeaaGreat
open Go.RowKit Go.Shelf Go.Lib Go.Sort
set_option linter.unusedVariables false
set_option linter.unusedSectionVars false
variable {P : Program} {k : Nat} {α : Type} [Inhabited α]

theorem St.mrg_one_left {lt : α → α → Bool} (hO : SWO lt) {v1 v2 : List α} {x : α} (h1 : ∀ y ∈ v1, lt y x = true) (h2 : ∀ y ∈ v2, lt y x = false) (hv : St.Srd lt (v1 ++ v2)) : St.mrg lt [x] (v1 ++ v2) = v1 ++ [x] ++ v2 := by
  have a1 := List.pairwise_append.1 hv
  rw [St.mrg_append]
  have e1 : St.mrg lt [x] v1 = v1 ++ [x] := by
    have := St.mrg_left (lt := lt) (v := v1) (s := []) (t := [x]) (fun y hy z hz => by simp at hz; subst hz; exact h1 y hy)
    rw [List.nil_append] at this
    rw [this, St.mrg_nil_left hO a1.1]
  rw [e1]
  refine St.mrg_nil hO ?_
  rw [List.append_assoc]
  refine List.pairwise_append.2 ⟨a1.1, List.pairwise_cons.2 ⟨fun y hy => ?_, a1.2.1⟩, ?_⟩
  · simp at hy; exact h2 y hy
  · intro y hy z hz
    rcases List.mem_cons.1 hz with rfl | hz
    · exact St.asym hO (h1 y hy)
    · simp at hz; exact a1.2.2 y hy z hz

theorem St.insL_at {lt : α → α → Bool} {u1 u2 : List α} {x : α} (h1 : ∀ y ∈ u1, lt x y = false) (h2 : ∀ y ∈ u2, lt x y = true) : St.insL lt (u1 ++ u2) x = u1 ++ [x] ++ u2 := by
  rw [St.insL_right h1]
  have := St.insL_left (lt := lt) (s := []) (t := u2) (x := x) h2
  rw [List.nil_append] at this
  rw [this]
  simp [St.insL]

theorem mem_take_get {l : List α} {t : Nat} {y : α} (h : y ∈ l.take t) : ∃ i, ∃ hi : i < l.length, i < t ∧ l[i] = y := by
  obtain ⟨i, hi, rfl⟩ := List.mem_iff_getElem.1 h
  rw [List.length_take] at hi
  exact ⟨i, by omega, by omega, by simp⟩

theorem mem_drop_get {l : List α} {t : Nat} {y : α} (h : y ∈ l.drop t) : ∃ i, ∃ hi : i < l.length, t ≤ i ∧ l[i] = y := by
  obtain ⟨i, hi, rfl⟩ := List.mem_iff_getElem.1 h
  rw [List.length_drop] at hi
  exact ⟨t + i, by omega, by omega, by simp⟩

theorem srd_get {lt : α → α → Bool} {l : List α} (h : St.Srd lt l) {i j : Nat} (hi : i < l.length) (hj : j < l.length) (hij : i < j) : lt l[j] l[i] = false := (List.pairwise_iff_getElem.1 h) i j hi hj hij

theorem get_row (p l q : List α) (i : Nat) (h : i < l.length) : (p ++ l ++ q).toArray[p.length + i]! = l[i] := by
  rw [St.get_toArray]
  have hi : p.length + i < (p ++ l ++ q).length := by simp; omega
  rw [getElem!_pos (p ++ l ++ q) (p.length + i) hi, List.getElem_append_left (by simp; omega), List.getElem_append_right (by omega)]
  simp

theorem swap_up (p : List α) (x y : α) (q : List α) : swp (p ++ x :: y :: q).toArray p.length (p.length + 1) = (p ++ y :: x :: q).toArray := by
  have := St.swp_list p x [] y q
  simpa using this

set_option maxHeartbeats 1600000 in
set_option maxRecDepth 20000 in
theorem sym_left (L : RowProg P k) (enc : α → List Value) (cf : α → α → Int) (g : Nat) (cb : Array Value) (blk off cap a m b sz : Nat) (d0 : Array α) (w0 w : World) (eg : ∀ args w, (callFunc g args).run P w = .ok (.enter g args) w) (hcmp : CmpLays P g cb enc k cf blk off sz w0) (R : RowK enc k w0 blk off d0) (hO : SWO (ltOf cf)) (p : List α) (x : α) (v q : List α)
    (ha : a = p.length) (hm : m = p.length + 1) (hb : b = p.length + 1 + v.length) (hd0 : d0.size = sz) (hs : (p ++ [x] ++ v ++ q).length = sz) (S : SWK enc k w0 blk off (p ++ [x] ++ v ++ q).toArray w) (hv : St.Srd (ltOf cf) v) (hsz : sz < 2305843009213693952) :
    Calls P 96 #[.slice (some ⟨blk, off, none⟩) sz cap, .int .i64 a, .int .i64 m, .int .i64 b, .func (.func g) #[] cb] w fun e w' => e = .returned (.tuple #[]) ∧ SWK enc k w0 blk off (p ++ St.mrg (ltOf cf) [x] v ++ q).toArray w' := by
  have hlen : p.length + 1 + v.length + q.length = sz := by rw [← hs]; simp; omega
  obtain ⟨dk, hdk⟩ : ∃ dk, dk = (p ++ [x] ++ v ++ q).toArray := ⟨_, rfl⟩
  rw [← hdk] at S
  have hdks : dk.size = sz := by rw [hdk, List.size_toArray]; exact hs
  have HS := Lib.hid S
  have HD0 := Lib.hid hd0
  have HV := Lib.hid hv
  have HDK := Lib.hid hdk
  have HDKS := Lib.hid hdks
  have HCM := Lib.hid hcmp
  have HB := Lib.hid hb
  have HA := Lib.hid ha
  have hma : m = a + 1 := by omega
  have hbsz : b ≤ sz := by omega
  have hmb : m ≤ b := by omega
  have ga : IntKind.i64.wrap ((m : Int) - (a : Int)) = 1 := by rw [IntWalk.i64_in _ (by omega)]; omega
  have gx : dk[a]! = x := by rw [hdk, ha, show p ++ [x] ++ v ++ q = p ++ x :: (v ++ q) by simp]; exact row_get p x _
  have gv : ∀ i (h : i < v.length), dk[m + i]! = v[i] := fun i h => by
    rw [hdk, hm]
    have := get_row (p ++ [x]) v q i h
    simpa using this
  have HGX := Lib.hid gx
  have HGV := Lib.hid gv
  have HMA := Lib.hid hma
  have ham : a < m := by omega
  clear S hd0 hv hdk hdks hcmp hb ha hs hm gx gv hma
  have mixed := L.mixed; have t0 := L.t0; have a0 := L.a0; have z0 := L.z0; have v0 := L.v0; have t3 := L.t3; have a3 := L.a3; have z3 := L.z3; have v3 := L.v3; have t4 := L.t4; have a4 := L.a4; have z4 := L.z4; have v4 := L.v4; have ts := L.ts; have asl := L.asl; have zs := L.zs; have vs := L.vs; have tf := L.tf; have af := L.af; have zf := L.zf; have vf := L.vf; have tu := L.tu; have au := L.au; have zu := L.zu; have vu := L.vu; have aE := L.aE; have zE := L.zE
  have FG := L.fSym
  clear L
  go_enter FG, Tryz.ntmps96
  go_wp2_with fail
  go_loopw [10, 11] (fun iv jv wr => ∃ i j : Nat, iv = .int .i64 i ∧ jv = .int .i64 j ∧ m ≤ i ∧ i ≤ j ∧ j ≤ b ∧ Hid ((∀ t (h : t < v.length), m + t < i → ltOf cf v[t] x = true) ∧ (∀ t (h : t < v.length), j ≤ m + t → ltOf cf v[t] x = false)) ∧ Hid (SWK enc k w0 blk off dk wr)) (fun iv jv _ => (intOf jv).toNat - (intOf iv).toNat)
  case atStart => exact ⟨m, b, rfl, rfl, Nat.le_refl _, hmb, Nat.le_refl _, (⟨fun t _ h => absurd h (by omega), fun t h h2 => by have := HB.out; have := HA.out; have := HMA.out; omega⟩ : (∀ t (h : t < v.length), m + t < m → ltOf cf v[t] x = true) ∧ (∀ t (h : t < v.length), b ≤ m + t → ltOf cf v[t] x = false)), HS⟩
  case round =>
    obtain ⟨wo, rfl⟩ : ∃ wo : World, wo = wr := ⟨wr, rfl⟩
    obtain ⟨i, j, rfl, rfl, hmi, hij, hjb, HI, HW⟩ := hrel
    by_cases hlt : i < j
    · obtain ⟨h, hh⟩ : ∃ h, h = (i + j) / 2 := ⟨_, rfl⟩
      have gh : ((i : Int) + (j : Int)) / 2 = (h : Int) := by omega
      have hhb : h < sz := by omega
      have hasz : a < sz := by omega
      have hhm : m ≤ h := by omega
      have hhj : h < j := by omega
      have hih : i ≤ h := by omega
      have hvt : h - m < v.length := by have := HB.out; have := HA.out; have := HMA.out; omega
      have lh := HW.out.ld R (HDKS.out.trans HD0.out.symm) P h (by rw [HDKS.out]; exact hhb)
      have la := HW.out.ld R (HDKS.out.trans HD0.out.symm) P a (by rw [HDKS.out]; exact hasz)
      rw [HGX.out] at la
      have ehv := HGV.out (h - m) hvt
      rw [show m + (h - m) = h by omega] at ehv
      rw [ehv] at lh
      clear ehv
      have hcg := HW.out.cmp HCM.out HDKS.out v[h - m] x
      have I1 : Hid (ltOf cf v[h - m] x = true → ∀ t (hq : t < v.length), m + t < h + 1 → ltOf cf v[t] x = true) := fun hy t hq ht => by
        by_cases e : t = h - m
        · subst e; exact hy
        · have := srd_get HV.out hq hvt (by omega)
          cases hc : ltOf cf v[t] x with
          | true => rfl
          | false => exact absurd (hO.ntrans _ _ _ this hc) (by rw [hy]; simp)
      have I2 : Hid (ltOf cf v[h - m] x = false → ∀ t (hq : t < v.length), h ≤ m + t → ltOf cf v[t] x = false) := fun hy t hq ht => by
        by_cases e : t = h - m
        · subst e; exact hy
        · exact hO.ntrans _ _ _ (srd_get HV.out hvt hq (by omega)) hy
      generalize v[h - m] = y at lh hcg I1 I2
      clear hh
      by_cases hlv : cf y x < 0
      · have J := Lib.hid (I1.out (decide_eq_true hlv))
        clear I1 I2
        go_wp2_with fail
        go_quiet_grown (first | (go_at_fn g; refine Calls.grown_of (hcg _ _)))
        go_wp2_with fail
        go_roundw
        case measure => simp [intOf]; omega
        case rel => exact ⟨h + 1, j, by first | rfl | go_num, rfl, by omega, by omega, hjb, ⟨J.out, HI.out.2⟩, HW.out.grown nq osq⟩
      · have J := Lib.hid (I2.out (decide_eq_false hlv))
        clear I1 I2
        go_wp2_with fail
        go_quiet_grown (first | (go_at_fn g; refine Calls.grown_of (hcg _ _)))
        go_wp2_with fail
        go_roundw
        case measure => simp [intOf]; omega
        case rel => exact ⟨i, h, rfl, by first | rfl | go_num, by omega, by omega, by omega, ⟨HI.out.1, J.out⟩, HW.out.grown nq osq⟩
    · obtain rfl : i = j := by omega
      obtain ⟨t0', ht0⟩ : ∃ t, i = m + t := ⟨i - m, by omega⟩
      have htl : t0' ≤ v.length := by have := HB.out; have := HA.out; have := HMA.out; omega
      have HE : Hid (p ++ St.mrg (ltOf cf) [x] v ++ q = p ++ v.take t0' ++ x :: (v.drop t0' ++ q)) := by
        show _ = _
        have := St.mrg_one_left hO (v1 := v.take t0') (v2 := v.drop t0') (x := x) (fun y hy => by obtain ⟨i', hi', h1, rfl⟩ := mem_take_get hy; exact HI.out.1 i' hi' (by omega)) (fun y hy => by obtain ⟨i', hi', h1, rfl⟩ := mem_drop_get hy; exact HI.out.2 i' hi' (by omega)) (by rw [List.take_append_drop]; exact HV.out)
        rw [List.take_append_drop] at this
        rw [this]
        simp
      clear HI HGV
      go_wp2_with fail
      go_loopw [13] (fun kv wr => ∃ c : Nat, kv = .int .i64 ((a + c : Nat) : Int) ∧ c ≤ t0' ∧ Hid (SWK enc k w0 blk off (p ++ v.take c ++ x :: (v.drop c ++ q)).toArray wr)) (fun kv _ => i - (intOf kv).toNat)
      case atStart => exact ⟨0, by simp, Nat.zero_le _, by show SWK _ _ _ _ _ _ _; have := HW.out; rw [HDK.out] at this; simpa using this⟩
      case round =>
        obtain ⟨wo2, rfl⟩ : ∃ wo : World, wo = wr := ⟨wr, rfl⟩
        obtain ⟨c, rfl, hct, HC⟩ := hrel
        obtain ⟨ac, hac⟩ : ∃ ac, ac = a + c := ⟨_, rfl⟩
        rw [← hac]
        obtain ⟨i1, hi1⟩ : ∃ i1, i = i1 + 1 := ⟨i - 1, by omega⟩
        have gi : IntKind.i64.wrap ((i : Int) - 1) = (i1 : Int) := by rw [IntWalk.i64_in _ (by omega)]; omega
        have gi2 : (i : Int) - 1 = (i1 : Int) := by omega
        by_cases hk : ac < i1
        · have hcv : c < v.length := by have := HMA.out; omega
          obtain ⟨de, hde⟩ : ∃ de, de = (p ++ v.take c ++ x :: (v.drop c ++ q)).toArray := ⟨_, rfl⟩
          have htk : (v.take c).length = c := by rw [List.length_take]; omega
          have hdes : de.size = sz := by
            rw [hde, List.size_toArray, ← hlen]
            simp only [List.length_append, List.length_take, List.length_drop, List.length_cons]
            omega
          have HSt : Hid (swp de ac (ac + 1) = (p ++ v.take (c + 1) ++ x :: (v.drop (c + 1) ++ q)).toArray) := by
            show _ = _
            have := swap_up (p ++ v.take c) x v[c] (v.drop (c + 1) ++ q)
            rw [← List.cons_append, ← List.drop_eq_getElem_cons hcv] at this
            rw [hde, show ac = (p ++ v.take c).length by simp; have := HA.out; omega, this, List.take_succ_eq_append_getElem hcv]
            simp only [List.append_assoc, List.cons_append, List.nil_append]
          rw [← hde] at HC
          have hs2 : de.size = d0.size := by rw [hdes]; exact HD0.out.symm
          have S2 := Lib.hid (HC.out.swapped R ac (ac + 1) (by omega) (by omega))
          rw [HSt.out] at S2
          have g2 : (ac : Int) + 1 = ((ac + 1 : Nat) : Int) := by omega
          have g3 : (ac : Int) < (sz : Int) := by omega
          have g4 : ((ac + 1 : Nat) : Int) < (sz : Int) := by omega
          have l1 := HC.out.ld1 R hs2 P ac (by omega)
          have l2 := HC.out.ld1 R hs2 P (ac + 1) (by omega)
          have s1 := HC.out.st1 R hs2 P ac (by omega) de[ac + 1]!
          have s2 := HC.out.st2 R hs2 P ac (ac + 1) (by omega) (by omega) de[ac + 1]! de[ac]!
          have n1 : (enc de[ac]!).length = k := R.hk _
          have n2 : (enc de[ac + 1]!).length = k := R.hk _
          generalize enc de[ac]! = c1 at S2 l1 s2 n1
          generalize enc de[ac + 1]! = c2 at S2 l2 s1 s2 n2
          have hkz : (ac : Int) < (i1 : Int) := by omega
          obtain ⟨ad, had⟩ : ∃ ad, ad = ac + 1 := ⟨_, rfl⟩
          rw [← had] at g2 g4 l2 s2 S2
          have Hac := Lib.hid hac
          have Had := Lib.hid had
          have Hi1 := Lib.hid hi1
          have Ht0 := Lib.hid ht0
          clear hde htk hdes hs2 hac had hi1
          go_wp2_with fail
          go_big_region_o
          clear l1 l2 s1 s2
          generalize (wo2.drew.setCells blk (off + ac * k) c2).setCells blk (off + ad * k) c1 = w2 at S2 ⊢
          go_wp2_with fail
          go_roundw
          case rel => exact ⟨c + 1, by rw [show ((a + (c + 1) : Nat) : Int) = (ad : Int) by have := Hac.out; have := Had.out; omega], by have := Hac.out; have := Hi1.out; have := Ht0.out; have := HMA.out; omega, S2⟩
          case measure => have := Hac.out; have := Had.out; have := Hi1.out; simp [intOf]; omega
        · have hct2 : c = t0' := by have := HMA.out; omega
          have hkz : ¬ (ac : Int) < (i1 : Int) := by omega
          subst hct2
          clear hac hi1
          go_wp2_with fail
          (try simp only [Exit.inBlock, Exit.then])
          refine bodyPost_ret (results_none rfl _ _ _) rfl ?_
          refine ⟨rfl, ?_⟩
          have hE := HC.out
          rw [← HE.out] at hE
          simpa using hE
end Go.Proofs.YtlbelkjgaeaaeaaGreat
