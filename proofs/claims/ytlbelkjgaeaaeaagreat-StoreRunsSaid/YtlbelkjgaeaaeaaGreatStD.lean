/-
  Walks: slices.SortStableFunc: symMergeCmpFunc where the right run is a single element.
-/
import Derived.Test.YtlbelkjgaeaaeaaGreatStC
namespace Go.Proofs.YtlbelkjgaeaaeaaGreat
open Go.RowKit Go.Shelf Go.Lib Go.Sort
set_option linter.unusedVariables false
set_option linter.unusedSectionVars false
variable {P : Program} {k : Nat} {α : Type} [Inhabited α]

set_option maxHeartbeats 1600000 in
set_option maxRecDepth 20000 in
theorem sym_right (L : RowProg P k) (enc : α → List Value) (cf : α → α → Int) (g : Nat) (cb : Array Value) (blk off cap a m b sz : Nat) (d0 : Array α) (w0 w : World) (eg : ∀ args w, (callFunc g args).run P w = .ok (.enter g args) w) (hcmp : CmpLays P g cb enc k cf blk off sz w0) (R : RowK enc k w0 blk off d0) (hO : SWO (ltOf cf)) (p u : List α) (x : α) (q : List α)
    (ha : a = p.length) (hm : m = p.length + u.length) (hb : b = p.length + u.length + 1) (hul : 2 ≤ u.length) (hd0 : d0.size = sz) (hs : (p ++ u ++ [x] ++ q).length = sz) (S : SWK enc k w0 blk off (p ++ u ++ [x] ++ q).toArray w) (hu : St.Srd (ltOf cf) u) (hsz : sz < 2305843009213693952) :
    Calls P 96 #[.slice (some ⟨blk, off, none⟩) sz cap, .int .i64 a, .int .i64 m, .int .i64 b, .func (.func g) #[] cb] w fun e w' => e = .returned (.tuple #[]) ∧ SWK enc k w0 blk off (p ++ St.mrg (ltOf cf) u [x] ++ q).toArray w' := by
  have hlen : p.length + u.length + 1 + q.length = sz := by rw [← hs]; simp; omega
  obtain ⟨dk, hdk⟩ : ∃ dk, dk = (p ++ u ++ [x] ++ q).toArray := ⟨_, rfl⟩
  rw [← hdk] at S
  have hdks : dk.size = sz := by rw [hdk, List.size_toArray]; exact hs
  have HS := Lib.hid S
  have HD0 := Lib.hid hd0
  have HU := Lib.hid hu
  have HDK := Lib.hid hdk
  have HDKS := Lib.hid hdks
  have HCM := Lib.hid hcmp
  have HA := Lib.hid ha
  have HMA : Hid (m = a + u.length) := by show _ = _; omega
  have HBM : Hid (b = m + 1) := by show _ = _; omega
  have hmsz : m < sz := by omega
  have ham : a < m := by omega
  have ga0 : IntKind.i64.wrap ((m : Int) - (a : Int)) = (u.length : Int) := by rw [IntWalk.i64_in _ (by omega)]; omega
  have gne : ((u.length : Int) == 1) = false := beq_eq_false_iff_ne.2 (by omega)
  obtain ⟨ul, hulE⟩ : ∃ ul, ul = u.length := ⟨_, rfl⟩
  rw [← hulE] at ga0 gne
  have HUL := Lib.hid hulE
  have gb : IntKind.i64.wrap ((b : Int) - (m : Int)) = 1 := by rw [IntWalk.i64_in _ (by omega)]; omega
  have gx : dk[m]! = x := by
    rw [hdk, hm, show p ++ u ++ [x] ++ q = (p ++ u) ++ x :: q by simp, show p.length + u.length = (p ++ u).length by simp]
    exact row_get (p ++ u) x _
  have gu : ∀ i (h : i < u.length), dk[a + i]! = u[i] := fun i h => by
    rw [hdk, ha, List.append_assoc (p ++ u)]
    exact get_row p u ([x] ++ q) i h
  have HGX := Lib.hid gx
  have HGU := Lib.hid gu
  clear S hd0 hu hdk hdks hcmp hb ha hs hm gx gu hulE hul
  have mixed := L.mixed; have t0 := L.t0; have a0 := L.a0; have z0 := L.z0; have v0 := L.v0; have t3 := L.t3; have a3 := L.a3; have z3 := L.z3; have v3 := L.v3; have t4 := L.t4; have a4 := L.a4; have z4 := L.z4; have v4 := L.v4; have ts := L.ts; have asl := L.asl; have zs := L.zs; have vs := L.vs; have tf := L.tf; have af := L.af; have zf := L.zf; have vf := L.vf; have tu := L.tu; have au := L.au; have zu := L.zu; have vu := L.vu; have aE := L.aE; have zE := L.zE
  have FG := L.fSym
  clear L
  go_enter FG, Tryz.ntmps96
  go_wp2_with fail
  go_loopw [14, 15] (fun iv jv wr => ∃ i j : Nat, iv = .int .i64 i ∧ jv = .int .i64 j ∧ a ≤ i ∧ i ≤ j ∧ j ≤ m ∧ Hid ((∀ t (h : t < u.length), a + t < i → ltOf cf x u[t] = false) ∧ (∀ t (h : t < u.length), j ≤ a + t → ltOf cf x u[t] = true)) ∧ Hid (SWK enc k w0 blk off dk wr)) (fun iv jv _ => (intOf jv).toNat - (intOf iv).toNat)
  case atStart => exact ⟨a, m, rfl, rfl, Nat.le_refl _, by omega, Nat.le_refl _, (⟨fun t _ h => absurd h (by omega), fun t h h2 => by have := HMA.out; omega⟩ : (∀ t (h : t < u.length), a + t < a → ltOf cf x u[t] = false) ∧ (∀ t (h : t < u.length), m ≤ a + t → ltOf cf x u[t] = true)), HS⟩
  case round =>
    obtain ⟨wo, rfl⟩ : ∃ wo : World, wo = wr := ⟨wr, rfl⟩
    obtain ⟨i, j, rfl, rfl, hmi, hij, hjb, HI, HW⟩ := hrel
    by_cases hlt : i < j
    · obtain ⟨h, hh⟩ : ∃ h, h = (i + j) / 2 := ⟨_, rfl⟩
      have gh : ((i : Int) + (j : Int)) / 2 = (h : Int) := by omega
      have hhb : h < sz := by omega
      have hhm : a ≤ h := by omega
      have hhj : h < j := by omega
      have hih : i ≤ h := by omega
      have hvt : h - a < u.length := by have := HMA.out; omega
      have lh := HW.out.ld R (HDKS.out.trans HD0.out.symm) P h (by rw [HDKS.out]; exact hhb)
      have la := HW.out.ld R (HDKS.out.trans HD0.out.symm) P m (by rw [HDKS.out]; exact hmsz)
      rw [HGX.out] at la
      have ehv := HGU.out (h - a) hvt
      rw [show a + (h - a) = h by omega] at ehv
      rw [ehv] at lh
      clear ehv
      have hcg := HW.out.cmp HCM.out HDKS.out x u[h - a]
      have I1 : Hid (ltOf cf x u[h - a] = false → ∀ t (hq : t < u.length), a + t < h + 1 → ltOf cf x u[t] = false) := fun hy t hq ht => by
        by_cases e : t = h - a
        · subst e; exact hy
        · exact hO.ntrans _ _ _ hy (srd_get HU.out hq hvt (by omega))
      have I2 : Hid (ltOf cf x u[h - a] = true → ∀ t (hq : t < u.length), h ≤ a + t → ltOf cf x u[t] = true) := fun hy t hq ht => by
        by_cases e : t = h - a
        · subst e; exact hy
        · have := srd_get HU.out hvt hq (by omega)
          cases hc : ltOf cf x u[t] with
          | true => rfl
          | false => exact absurd (hO.ntrans _ _ _ hc this) (by rw [hy]; simp)
      generalize u[h - a] = y at lh hcg I1 I2
      clear hh
      by_cases hlv : cf x y < 0
      · have J := Lib.hid (I2.out (decide_eq_true hlv))
        clear I1 I2
        go_wp2_with fail
        go_quiet_grown (first | (go_at_fn g; refine Calls.grown_of (hcg _ _)))
        go_wp2_with fail
        go_roundw
        case measure => simp [intOf]; omega
        case rel => exact ⟨i, h, rfl, by first | rfl | go_num, by omega, by omega, by omega, ⟨HI.out.1, J.out⟩, HW.out.grown nq osq⟩
      · have J := Lib.hid (I1.out (decide_eq_false hlv))
        have hdv : decide (cf x y < 0) = false := decide_eq_false hlv
        clear I1 I2
        go_wp2_with fail
        go_quiet_grown (first | (go_at_fn g; refine Calls.grown_of (hcg _ _)))
        go_wp2_with fail
        go_roundw
        case measure => simp [intOf]; omega
        case rel => exact ⟨h + 1, j, by first | rfl | go_num, rfl, by omega, by omega, hjb, ⟨J.out, HI.out.2⟩, HW.out.grown nq osq⟩
    · obtain rfl : i = j := by omega
      obtain ⟨t0', ht0⟩ : ∃ t, i = a + t := ⟨i - a, by omega⟩
      have htl : t0' ≤ u.length := by have := HMA.out; omega
      have HE : Hid (p ++ St.mrg (ltOf cf) u [x] ++ q = p ++ u.take t0' ++ x :: (u.drop t0' ++ q)) := by
        show _ = _
        have := St.insL_at (lt := ltOf cf) (u1 := u.take t0') (u2 := u.drop t0') (x := x) (fun y hy => by obtain ⟨i', hi', h1, rfl⟩ := mem_take_get hy; exact HI.out.1 i' hi' (by omega)) (fun y hy => by obtain ⟨i', hi', h1, rfl⟩ := mem_drop_get hy; exact HI.out.2 i' hi' (by omega))
        rw [List.take_append_drop] at this
        show p ++ St.insL (ltOf cf) u x ++ q = _
        rw [this]
        simp
      clear HI HGU
      go_wp2_with fail
      go_loopw [17] (fun kv wr => ∃ c : Nat, kv = .int .i64 ((a + c : Nat) : Int) ∧ t0' ≤ c ∧ c ≤ u.length ∧ Hid (SWK enc k w0 blk off (p ++ u.take c ++ x :: (u.drop c ++ q)).toArray wr)) (fun kv _ => (intOf kv).toNat - i)
      case atStart => exact ⟨u.length, by have := HMA.out; rw [this], htl, Nat.le_refl _, by show SWK _ _ _ _ _ _ _; have := HW.out; rw [HDK.out] at this; simpa using this⟩
      case round =>
        obtain ⟨wo2, rfl⟩ : ∃ wo : World, wo = wr := ⟨wr, rfl⟩
        obtain ⟨c, rfl, hct, hcu, HC⟩ := hrel
        obtain ⟨ac, hac⟩ : ∃ ac, ac = a + c := ⟨_, rfl⟩
        rw [← hac]
        by_cases hk : i < ac
        · obtain ⟨c1, rfl⟩ : ∃ c1, c = c1 + 1 := ⟨c - 1, by omega⟩
          have hcv : c1 < u.length := by omega
          obtain ⟨de, hde⟩ : ∃ de, de = (p ++ u.take (c1 + 1) ++ x :: (u.drop (c1 + 1) ++ q)).toArray := ⟨_, rfl⟩
          have htk : (u.take c1).length = c1 := by rw [List.length_take]; omega
          have hdes : de.size = sz := by
            rw [hde, List.size_toArray, ← hlen]
            simp only [List.length_append, List.length_take, List.length_drop, List.length_cons]
            omega
          obtain ⟨ad, had⟩ : ∃ ad, ad = a + c1 := ⟨_, rfl⟩
          have hacd : ac = ad + 1 := by omega
          have HSt : Hid (swp de ac ad = (p ++ u.take c1 ++ x :: (u.drop c1 ++ q)).toArray) := by
            show _ = _
            have := St.swp_pair (p ++ u.take c1) u[c1] x (u.drop (c1 + 1) ++ q)
            rw [hde, List.take_succ_eq_append_getElem hcv, show ad = (p ++ u.take c1).length by simp; have := HA.out; omega, hacd, had]
            rw [show p ++ (u.take c1 ++ [u[c1]]) ++ x :: (u.drop (c1 + 1) ++ q) = (p ++ u.take c1) ++ u[c1] :: x :: (u.drop (c1 + 1) ++ q) by simp only [List.append_assoc, List.cons_append, List.nil_append]]
            rw [show a + c1 + 1 = (p ++ u.take c1).length + 1 by simp; have := HA.out; omega, this, List.drop_eq_getElem_cons hcv]
            simp only [List.cons_append]
          rw [← hde] at HC
          have hs2 : de.size = d0.size := by rw [hdes]; exact HD0.out.symm
          have hacs : ac < de.size := by rw [hdes]; have := HA.out; omega
          have hads : ad < de.size := by omega
          have S2 := Lib.hid (HC.out.swapped R ac ad hacs hads)
          rw [HSt.out] at S2
          have g2 : (ac : Int) - 1 = (ad : Int) := by omega
          have g2w : IntKind.i64.wrap ((ac : Int) - 1) = (ad : Int) := by rw [IntWalk.i64_in _ (by omega)]; omega
          have g3 : (ac : Int) < (sz : Int) := by omega
          have g4 : (ad : Int) < (sz : Int) := by omega
          have l1 := HC.out.ld1 R hs2 P ac hacs
          have l2 := HC.out.ld1 R hs2 P ad hads
          have s1 := HC.out.st1 R hs2 P ac hacs de[ad]!
          have s2 := HC.out.st2 R hs2 P ac ad hacs hads de[ad]! de[ac]!
          have n1 : (enc de[ac]!).length = k := R.hk _
          have n2 : (enc de[ad]!).length = k := R.hk _
          generalize enc de[ac]! = c1' at S2 l1 s2 n1
          generalize enc de[ad]! = c2' at S2 l2 s1 s2 n2
          have hkz : (i : Int) < (ac : Int) := by omega
          have Hac := Lib.hid hac
          have Had := Lib.hid had
          have Ht0 := Lib.hid ht0
          have Hk := Lib.hid hk
          clear hde htk hdes hs2 hac had hacd hacs hads
          go_wp2_with fail
          go_big_region_o
          clear l1 l2 s1 s2
          generalize (wo2.drew.setCells blk (off + ac * k) c2').setCells blk (off + ad * k) c1' = w2 at S2 ⊢
          go_wp2_with fail
          go_roundw
          case rel => exact ⟨c1, by rw [show ((a + c1 : Nat) : Int) = (ad : Int) by have := Had.out; omega], by have := Hac.out; have := Ht0.out; have := Hk.out; omega, by omega, S2⟩
          case measure => have := Hac.out; have := Had.out; have := Hk.out; simp [intOf]; omega
        · have hct2 : c = t0' := by omega
          have hkz : ¬ (i : Int) < (ac : Int) := by omega
          subst hct2
          clear hac
          go_wp2_with fail
          (try simp only [Exit.inBlock, Exit.then])
          refine bodyPost_ret (results_none rfl _ _ _) rfl ?_
          refine ⟨rfl, ?_⟩
          have hE := HC.out
          rw [← HE.out] at hE
          simpa using hE
end Go.Proofs.YtlbelkjgaeaaeaaGreat
