/-
  Walks: slices.SortStableFunc: stableCmpFunc, SortStableFunc.
-/
import Derived.Test.YtlbelkjgaeaaeaaGreatStE
import Derived.Test.YtlbelkjgaeaaeaaGreatShelfB
namespace Go.Proofs.YtlbelkjgaeaaeaaGreat
open Go.RowKit Go.Shelf Go.Lib Go.Sort
set_option linter.unusedVariables false
set_option linter.unusedSectionVars false
variable {k : Nat} {α : Type} [Inhabited α]

theorem St.isort_ne {lt : α → α → Bool} {x : List α} (h : x ≠ []) : St.isort lt x ≠ [] := List.length_pos_iff.1 (by rw [St.length_isort]; exact List.length_pos_iff.2 h)

theorem St.len_eq {lt : α → α → Bool} {l d2 l2 : List α} {bs B a : Nat} (h : St.blocks lt bs l = d2 ++ St.blocks lt B l2) (ha : d2.length = a) : a + l2.length = l.length := by
  have := congrArg List.length h
  rw [List.length_append, St.length_blocks, St.length_blocks] at this
  omega

theorem ins_w (L : RowProg Tryz.prog k) (enc : α → List Value) (cf : α → α → Int) (g : Nat) (cb : Array Value) (blk off cap sz : Nat) (d0 : Array α) (w0 : World) (eg : ∀ args w, (callFunc g args).run Tryz.prog w = .ok (.enter g args) w) (hcmp : CmpLays Tryz.prog g cb enc k cf blk off sz w0) (R : RowK enc k w0 blk off d0) (hO : SWO (ltOf cf)) (hd0 : d0.size = sz) (hsz : sz < 2305843009213693952)
    (a b : Nat) (w : World) (p l q : List α) (ha : a = p.length) (hb : b = p.length + l.length) (hs : (p ++ l ++ q).length = sz) (S : SWK enc k w0 blk off (p ++ l ++ q).toArray w) :
    Calls Tryz.prog 95 #[.slice (some ⟨blk, off, none⟩) sz cap, .int .i64 a, .int .i64 b, .func (.func g) #[] cb] w fun e w' => e = .returned (.tuple #[]) ∧ SWK enc k w0 blk off (p ++ St.isort (ltOf cf) l ++ q).toArray w' := by
  have hs2 : (p ++ l ++ q).toArray.size = sz := by rw [List.size_toArray]; exact hs
  have hC : CmpLays Tryz.prog g cb enc k cf blk off (p ++ l ++ q).toArray.size w := fun m os dk hdk x y => by
    obtain ⟨n0, os0, rfl⟩ := S
    rw [sortWorldK_on enc k w0 blk off n0 m (p ++ l ++ q).toArray dk os0 os R.hblk hdk]
    exact hcmp _ _ dk (by omega) x y
  have h := AnyQ.insertionSortCmpFunc Tryz.layIns k L.aE L.zE enc R.hk R.h1 cf g cb blk off cap a b (p ++ l ++ q).toArray w eg hC (S.holds R.hblk R.hH (by rw [hd0, hs2])) (S.lt R.hblk) (by omega) (by rw [hs2, ← hs]; simp; omega) (by rw [hs2]; omega)
  have hi : Sort.insertionSort (ltOf cf) (p ++ l ++ q).toArray a b = (p ++ St.isort (ltOf cf) l ++ q).toArray := by rw [ha, hb, St.insertionSort_list hO]
  rw [hi, hs2] at h
  refine h.mono ?_
  rintro e w' ⟨rfl, n, os, rfl⟩
  exact ⟨rfl, S.on R.hblk n _ os (by rw [hs2, List.size_toArray, ← hs]; simp [St.length_isort])⟩

set_option maxHeartbeats 3200000 in
set_option maxRecDepth 20000 in
theorem stable_w (L : RowProg Tryz.prog k) (enc : α → List Value) (cf : α → α → Int) (g : Nat) (cb : Array Value) (blk off cap sz : Nat) (d0 : Array α) (w0 : World) (eg : ∀ args w, (callFunc g args).run Tryz.prog w = .ok (.enter g args) w) (hcmp : CmpLays Tryz.prog g cb enc k cf blk off sz w0) (R : RowK enc k w0 blk off d0) (hO : SWO (ltOf cf)) (hd0 : d0.size = sz) (hsz : sz < 2305843009213693952) (l : List α) (hl : l.length = sz) (w : World) (S : SWK enc k w0 blk off l.toArray w) :
    Calls Tryz.prog 84 #[.slice (some ⟨blk, off, none⟩) sz cap, .int .i64 sz, .func (.func g) #[] cb] w fun e w' => e = .returned (.tuple #[]) ∧ SWK enc k w0 blk off (St.isort (ltOf cf) l).toArray w' := by
  have HS := Lib.hid S
  have HL := Lib.hid hl
  have HIns := Lib.hid (ins_w (α := α) L enc cf g cb blk off cap sz d0 w0 eg hcmp R hO hd0 hsz)
  have HSym := Lib.hid (sym_w (α := α) L enc cf g cb blk off cap sz d0 w0 eg hcmp R hO hd0 hsz)
  have HO := Lib.hid hO
  have e93 : ∀ args w, (callFunc 95 args).run Tryz.prog w = .ok (.enter 95 args) w := Tryz.layIns.f20.enters rfl
  have e94 : ∀ args w, (callFunc 96 args).run Tryz.prog w = .ok (.enter 96 args) w := enters_of L.fSym (by kernel_rfl) rfl
  clear S hl hcmp R hd0 L hO
  go_enter Tryz.func84, Tryz.ntmps84
  go_wp2_with fail
  go_loopw [7, 8] (fun av bv wr => ∃ a : Nat, ∃ dn l2 : List α, av = .int .i64 a ∧ bv = .int .i64 ((a + 20 : Nat) : Int) ∧ Hid (dn.length = a) ∧ a ≤ sz ∧ Hid (St.blocks (ltOf cf) 20 l = dn ++ St.blocks (ltOf cf) 20 l2) ∧ Hid (SWK enc k w0 blk off (dn ++ l2).toArray wr)) (fun av _ _ => sz - (intOf av).toNat)
  case atStart => exact ⟨0, [], l, rfl, rfl, rfl, Nat.zero_le _, rfl, HS⟩
  case round =>
    obtain ⟨wo, rfl⟩ : ∃ wo : World, wo = wr := ⟨wr, rfl⟩
    obtain ⟨a, dn, l2, rfl, rfl, HDN, hasz, HT, HW⟩ := hrel
    have hlen := St.len_eq HT.out HDN.out
    rw [HL.out] at hlen
    have HLN := Lib.hid hlen
    by_cases hb : a + 20 ≤ sz
    · have hbz : ((a + 20 : Nat) : Int) ≤ (sz : Int) := by omega
      have h20 : (l2.take 20).length = 20 := by rw [List.length_take]; omega
      have HC := Lib.hid (HIns.out a (a + 20) wo dn (l2.take 20) (l2.drop 20) HDN.out.symm (by rw [h20, HDN.out]) (by rw [List.append_assoc, List.take_append_drop, List.length_append, HDN.out]; exact hlen) (by rw [List.append_assoc, List.take_append_drop]; exact HW.out))
      have HT2 : Hid (St.blocks (ltOf cf) 20 l = (dn ++ St.isort (ltOf cf) (l2.take 20)) ++ St.blocks (ltOf cf) 20 (l2.drop 20)) := by
        show _ = _
        have := St.blocks_cut' (lt := ltOf cf) (bs := 20) (a := l2.take 20) (b := l2.drop 20) (by omega) h20
        rw [List.take_append_drop] at this
        rw [HT.out, this, List.append_assoc]
      have HDN2 : Hid ((dn ++ St.isort (ltOf cf) (l2.take 20)).length = a + 20) := by show _ = _; rw [List.length_append, St.length_isort, h20, HDN.out]
      obtain ⟨b, hb'⟩ : ∃ b, b = a + 20 := ⟨_, rfl⟩
      rw [← hb'] at HC HDN2 hb hbz ⊢
      have HB := Lib.hid hb'
      have hab : a < b := by omega
      clear hlen h20 HLN hb'
      go_wp2_with fail
      refine HC.out.mono ?_
      rintro e w2 ⟨rfl, hw2⟩
      have HW2 := Lib.hid hw2
      clear hw2
      go_wp2_with fail
      go_roundw
      case rel => exact ⟨b, _, _, rfl, by first | rfl | go_num, HDN2, hb, HT2, HW2⟩
      case measure => simp [intOf]; omega
    · have hbz : ¬ ((a + 20 : Nat) : Int) ≤ (sz : Int) := by omega
      have HC := Lib.hid (HIns.out a sz wo dn l2 [] HDN.out.symm (by rw [HDN.out]; omega) (by rw [List.append_nil, List.length_append, HDN.out]; exact hlen) (by rw [List.append_nil]; exact HW.out))
      have HT2 : Hid (dn ++ St.isort (ltOf cf) l2 ++ [] = St.blocks (ltOf cf) 20 l) := by
        show _ = _
        rw [HT.out, St.blocks_short (by omega), List.append_nil]
      obtain ⟨b, hb'⟩ : ∃ b, b = a + 20 := ⟨_, rfl⟩
      rw [← hb'] at hbz ⊢
      clear hlen HLN hb' hb
      go_wp2_with fail
      refine HC.out.mono ?_
      rintro e w2 ⟨rfl, hw2⟩
      rw [HT2.out] at hw2
      have HW2 := Lib.hid hw2
      clear hw2 HC HT2 HT HW HDN
      go_wp2_with fail
      go_loopw [6, 7, 8, 9] (fun sv u7 u8 u9 wr => ∃ bs : Nat, ∃ x7 x8 x9 : Value, sv = .int .i64 bs ∧ u7 = x7 ∧ u8 = x8 ∧ u9 = x9 ∧ 20 ≤ bs ∧ bs < 4611686018427387904 ∧ Hid (SWK enc k w0 blk off (St.blocks (ltOf cf) bs l).toArray wr)) (fun sv _ _ _ _ => sz - (intOf sv).toNat)
      case atStart => exact ⟨20, _, _, _, rfl, rfl, rfl, rfl, Nat.le_refl _, by omega, HW2⟩
      case round =>
        obtain ⟨wo2, rfl⟩ : ∃ wo : World, wo = wr := ⟨wr, rfl⟩
        obtain ⟨bs, x7, x8, x9, rfl, rfl, rfl, rfl, hbs, hbs2, HB⟩ := hrel
        by_cases hlt : bs < sz
        · have hltz : (bs : Int) < (sz : Int) := by omega
          obtain ⟨b2, hb2⟩ : ∃ b2, b2 = 2 * bs := ⟨_, rfl⟩
          have gb2 : 2 * (bs : Int) = (b2 : Int) := by omega
          have gb3 : (bs : Int) * 2 = (b2 : Int) := by omega
          have hb2s : b2 < 4611686018427387904 := by omega
          have HB2 := Lib.hid hb2
          clear hb2
          go_wp2_with fail
          go_loopw [7, 8] (fun av bv wr => ∃ a b : Nat, ∃ dn l2 : List α, av = .int .i64 a ∧ bv = .int .i64 b ∧ b = a + b2 ∧ Hid (dn.length = a) ∧ a ≤ sz ∧ Hid (St.blocks (ltOf cf) b2 l = dn ++ St.blocks (ltOf cf) b2 l2) ∧ Hid (SWK enc k w0 blk off (dn ++ St.blocks (ltOf cf) bs l2).toArray wr)) (fun av _ _ => sz - (intOf av).toNat)
          case atStart => exact ⟨0, b2, [], l, rfl, rfl, by omega, rfl, Nat.zero_le _, rfl, HB⟩
          case round =>
            obtain ⟨wo3, rfl⟩ : ∃ wo : World, wo = wr := ⟨wr, rfl⟩
            obtain ⟨a, b, dn, l2, rfl, rfl, hab, HDN, hasz, HT, HW⟩ := hrel
            have hlen := St.len_eq HT.out HDN.out
            rw [HL.out] at hlen
            have hb2v := HB2.out
            obtain ⟨m, hm⟩ : ∃ m, m = a + bs := ⟨_, rfl⟩
            have gm : (a : Int) + (bs : Int) = (m : Int) := by omega
            have hmz : m < 9223372036854775807 := by omega
            by_cases hb : b ≤ sz
            · have hbz : (b : Int) ≤ (sz : Int) := by omega
              have h1 : (l2.take bs).length = bs := by rw [List.length_take]; omega
              have h2 : ((l2.drop bs).take bs).length = bs := by rw [List.length_take, List.length_drop]; omega
              have ecut : l2 = l2.take bs ++ ((l2.drop bs).take bs ++ (l2.drop bs).drop bs) := by rw [List.take_append_drop, List.take_append_drop]
              generalize l2.take bs = X at h1 ecut
              generalize (l2.drop bs).take bs = Y at h2 ecut
              generalize (l2.drop bs).drop bs = Z at ecut
              subst ecut
              have hXY : Hid (St.blocks (ltOf cf) bs (X ++ (Y ++ Z)) = St.isort (ltOf cf) X ++ (St.isort (ltOf cf) Y ++ St.blocks (ltOf cf) bs Z)) := by
                show _ = _
                rw [St.blocks_cut' (by omega) h1, St.blocks_cut' (by omega) h2]
              have hXY2 : Hid (St.blocks (ltOf cf) b2 (X ++ (Y ++ Z)) = St.isort (ltOf cf) (X ++ Y) ++ St.blocks (ltOf cf) b2 Z) := by
                show _ = _
                rw [← List.append_assoc X, St.blocks_cut' (by omega) (by rw [List.length_append, h1, h2]; omega)]
              have l1 := St.length_isort (ltOf cf) X
              have l3 := St.length_isort (ltOf cf) Y
              have HC := Lib.hid (HSym.out (X.length + Y.length) a m b wo3 dn (St.isort (ltOf cf) X) (St.isort (ltOf cf) Y) (St.blocks (ltOf cf) bs Z) (by omega) HDN.out.symm (by rw [HDN.out]; omega) (by rw [HDN.out]; omega) (St.isort_ne (List.length_pos_iff.1 (by omega))) (St.isort_ne (List.length_pos_iff.1 (by omega))) (by simp only [List.length_append, St.length_isort, St.length_blocks] at hlen ⊢; have := HDN.out; omega) (by have := HW.out; rw [hXY.out] at this; simpa using this) (St.srd_isort HO.out X) (St.srd_isort HO.out Y))
              have HT2 : Hid (St.blocks (ltOf cf) b2 l = (dn ++ St.isort (ltOf cf) (X ++ Y)) ++ St.blocks (ltOf cf) b2 Z) := by show _ = _; rw [HT.out, hXY2.out, List.append_assoc]
              have HDN2 : Hid ((dn ++ St.isort (ltOf cf) (X ++ Y)).length = b) := by show _ = _; rw [List.length_append, St.length_isort, List.length_append, HDN.out]; omega
              have HIA : Hid (dn ++ St.mrg (ltOf cf) (St.isort (ltOf cf) X) (St.isort (ltOf cf) Y) ++ St.blocks (ltOf cf) bs Z = (dn ++ St.isort (ltOf cf) (X ++ Y)) ++ St.blocks (ltOf cf) bs Z) := by show _ = _; rw [St.isort_append HO.out]
              have hab' : a < b := by omega
              have HM := Lib.hid hm
              clear hlen h1 h2 l1 l3 hm hb2v hab
              go_wp2_with fail
              refine HC.out.mono ?_
              rintro e w2 ⟨rfl, hw2⟩
              rw [HIA.out] at hw2
              have HW2 := Lib.hid hw2
              clear hw2
              go_wp2_with fail
              go_roundw
              case rel => exact ⟨b, b + b2, _, _, rfl, by first | rfl | go_num, rfl, HDN2, hb, HT2, HW2⟩
              case measure => simp [intOf]; omega
            · have hbz : ¬ (b : Int) ≤ (sz : Int) := by omega
              by_cases hms : m < sz
              · have hmsz : (m : Int) < (sz : Int) := by omega
                have h1 : (l2.take bs).length = bs := by rw [List.length_take]; omega
                have h2 : (l2.drop bs).length = l2.length - bs := List.length_drop
                have ecut : l2 = l2.take bs ++ l2.drop bs := by rw [List.take_append_drop]
                generalize l2.take bs = X at h1 ecut
                generalize l2.drop bs = Y at h2 ecut
                have hyl : Y.length ≤ bs := by omega
                have hy0 : 0 < Y.length := by omega
                clear h2
                subst ecut
                have hXY : Hid (St.blocks (ltOf cf) bs (X ++ Y) = St.isort (ltOf cf) X ++ St.isort (ltOf cf) Y) := by
                  show _ = _
                  rw [St.blocks_cut' (by omega) h1, St.blocks_short hyl]
                have hXY2 : Hid (dn ++ St.mrg (ltOf cf) (St.isort (ltOf cf) X) (St.isort (ltOf cf) Y) ++ [] = St.blocks (ltOf cf) b2 l) := by
                  show _ = _
                  rw [HT.out, St.isort_append HO.out, St.blocks_short (by rw [List.length_append]; omega), List.append_nil]
                have l1 := St.length_isort (ltOf cf) X
                have l3 := St.length_isort (ltOf cf) Y
                have HC := Lib.hid (HSym.out (X.length + Y.length) a m sz wo3 dn (St.isort (ltOf cf) X) (St.isort (ltOf cf) Y) [] (by omega) HDN.out.symm (by rw [HDN.out]; omega) (by rw [HDN.out]; simp only [List.length_append] at hlen; omega) (St.isort_ne (List.length_pos_iff.1 (by omega))) (St.isort_ne (List.length_pos_iff.1 (by omega))) (by simp only [List.length_append, List.append_nil, St.length_isort] at hlen ⊢; have := HDN.out; omega) (by have := HW.out; rw [hXY.out] at this; simpa using this) (St.srd_isort HO.out X) (St.srd_isort HO.out Y))
                have HM := Lib.hid hm
                clear hlen h1 l1 l3 hm hb2v hab hyl hy0
                go_wp2_with fail
                refine HC.out.mono ?_
                rintro e w2 ⟨rfl, hw2⟩
                rw [hXY2.out] at hw2
                have HW2 := Lib.hid hw2
                clear hw2
                go_wp2_with fail
                go_roundw
                case rel => exact ⟨b2, _, _, _, by first | rfl | go_num, rfl, rfl, rfl, by have := HB2.out; omega, hb2s, HW2⟩
                case measure => have := HB2.out; simp [intOf]; omega
              · have hmsz : ¬ (m : Int) < (sz : Int) := by omega
                have HW2 : Hid (SWK enc k w0 blk off (St.blocks (ltOf cf) b2 l).toArray wo3) := by
                  show SWK _ _ _ _ _ _ _
                  have := HW.out
                  rw [St.blocks_short (by omega)] at this
                  rw [HT.out, St.blocks_short (by omega)]
                  exact this
                have HM := Lib.hid hm
                clear hlen hm hb2v hab
                go_wp2_with fail
                go_roundw
                case rel => exact ⟨b2, _, _, _, by first | rfl | go_num, rfl, rfl, rfl, by have := HB2.out; omega, hb2s, HW2⟩
                case measure => have := HB2.out; simp [intOf]; omega
        · have hltz : ¬ (bs : Int) < (sz : Int) := by omega
          have HF : Hid (St.blocks (ltOf cf) bs l = St.isort (ltOf cf) l) := St.blocks_short (by have := HL.out; omega)
          go_wp2_with fail
          go_end0
          refine ⟨rfl, ?_⟩
          rw [← HF.out]
          exact HB.out

/-- slices.SortStableFunc at rows of k cells: the stable order. -/
theorem sortStable_w (L : RowProg Tryz.prog k) (enc : α → List Value) (cf : α → α → Int) (g : Nat) (cb : Array Value) (blk off cap sz : Nat) (w : World) (l : List α) (hl : l.length = sz) (eg : ∀ args w, (callFunc g args).run Tryz.prog w = .ok (.enter g args) w) (hcmp : CmpLays Tryz.prog g cb enc k cf blk off sz w) (R : RowK enc k w blk off l.toArray) (hO : SWO (ltOf cf)) (hsz : sz < 2305843009213693952) :
    Calls Tryz.prog 75 #[.slice (some ⟨blk, off, none⟩) sz cap, .func (.func g) #[] cb] w fun e w' => e = .returned (.tuple #[]) ∧ SWK enc k w blk off (St.isort (ltOf cf) l).toArray w' := by
  have S : SWK enc k w blk off l.toArray w := ⟨0, #[], by unfold sortWorldK; rw [grow_empty]; exact (putRowK_self enc k w blk off l.toArray R.hH).symm⟩
  have HC := Lib.hid (stable_w (α := α) L enc cf g cb blk off cap sz l.toArray w eg hcmp R hO (by rw [List.size_toArray]; exact hl) hsz l hl w S)
  have e85 : ∀ args w, (callFunc 84 args).run Tryz.prog w = .ok (.enter 84 args) w := enters_of L.fStb (by kernel_rfl) rfl
  clear S hcmp R hO L hl
  go_enter Tryz.func75, Tryz.ntmps75
  go_wp2_with fail
  refine HC.out.mono ?_
  rintro e w2 ⟨rfl, hw2⟩
  have HW2 := Lib.hid hw2
  clear hw2
  go_wp2_with fail
  go_end0
  exact ⟨rfl, HW2.out⟩
end Go.Proofs.YtlbelkjgaeaaeaaGreat
