/-
  Walks: slices.SortStableFunc: stableCmpFunc, SortStableFunc.
-/
import Derived.Test.YtlamhpiiikcpiaaGreatDoorStE
import Derived.Test.YtlamhpiiikcpiaaGreatDoorShelfB
import Derived.Test.YtlamhpiiikcpiaaGreatDoorRgI
import Derived.Deep.RegionWith
import Derived.Deep.RegionHeld3
import Derived.Sort.Walk0
import Derived.Laws.OwnMore
import Derived.Lib.SliceRun
import Derived.Deep.AppendLies
namespace Go.Proofs.YtlamhpiiikcpiaaGreatDoor
open Go.RowKit Go.Shelf Go.Lib Go.Sort
set_option linter.unusedVariables false
set_option linter.unusedSectionVars false
variable {k : Nat} {α : Type} [Inhabited α]
theorem St.isort_ne {lt : α → α → Bool} {x : List α} (h : x ≠ []) : St.isort lt x ≠ [] := List.length_pos_iff.1 (by rw [St.length_isort]; exact List.length_pos_iff.2 h)
theorem St.len_eq {lt : α → α → Bool} {l d2 l2 : List α} {bs B a : Nat} (h : St.blocks lt bs l = d2 ++ St.blocks lt B l2) (ha : d2.length = a) : a + l2.length = l.length := by
  have := congrArg List.length h
  rw [List.length_append, St.length_blocks, St.length_blocks] at this
  omega
theorem ins_w (L : RowProg Tryz.prog k) (enc : α → List Value) (cf : α → α → Int) (g : Nat) (cb : Array Value) (blk off cap sz : Nat) (d0 : Array α) (w0 : World) (eg : ∀ args w, (callFunc g args).run Tryz.prog w = .ok (.enter g args) w) (hcmp : CmpLays Tryz.prog g cb enc k cf blk off sz w0) (R : RowK enc k w0 blk off d0) (hO : SWO (ltOf cf)) (hd0 : d0.size = sz) (hsz : sz < 2305843009213693952)
    (a b : Nat) (w : World) (p l q : List α) (ha : a = p.length) (hb : b = p.length + l.length) (hs : (p ++ l ++ q).length = sz) (S : SWK enc k w0 blk off (p ++ l ++ q).toArray w) :
    Calls Tryz.prog 119 #[.slice (some ⟨blk, off, none⟩) sz cap, .int .i64 a, .int .i64 b, .func (.func g) #[] cb] w fun e w' => e = .returned (.tuple #[]) ∧ SWK enc k w0 blk off (p ++ St.isort (ltOf cf) l ++ q).toArray w' := by
  have hs2 : (p ++ l ++ q).toArray.size = sz := by rw [List.size_toArray]; exact hs
  have hC : CmpLays Tryz.prog g cb enc k cf blk off (p ++ l ++ q).toArray.size w := fun m os dk hdk x y => by
    obtain ⟨n0, os0, rfl⟩ := S
    rw [sortWorldK_on enc k w0 blk off n0 m (p ++ l ++ q).toArray dk os0 os R.hblk hdk]
    exact hcmp _ _ dk (by omega) x y
  have h := AnyQ.insertionSortCmpFunc Tryz.layIns k L.aE L.zE enc R.hk R.h1 cf g cb blk off cap a b (p ++ l ++ q).toArray w eg hC (S.holds R.hblk R.hH (by rw [hd0, hs2])) (S.lt R.hblk) (by omega) (by rw [hs2, ← hs]; simp; omega) (by rw [hs2]; omega)
  have hi : Sort.insertionSort (ltOf cf) (p ++ l ++ q).toArray a b = (p ++ St.isort (ltOf cf) l ++ q).toArray := by rw [ha, hb, St.insertionSort_list hO]
  rw [hi, hs2] at h
  refine h.mono ?_
  rintro e w' ⟨rfl, n, os, rfl⟩
  exact ⟨rfl, S.on R.hblk n _ os (by rw [hs2, List.size_toArray, ← hs]; simp [St.length_isort])⟩
set_option maxHeartbeats 3200000 in
set_option maxRecDepth 20000 in
theorem stable_w (L : RowProg Tryz.prog k) (enc : α → List Value) (cf : α → α → Int) (g : Nat) (cb : Array Value) (blk off cap sz : Nat) (d0 : Array α) (w0 : World) (eg : ∀ args w, (callFunc g args).run Tryz.prog w = .ok (.enter g args) w) (hcmp : CmpLays Tryz.prog g cb enc k cf blk off sz w0) (R : RowK enc k w0 blk off d0) (hO : SWO (ltOf cf)) (hd0 : d0.size = sz) (hsz : sz < 2305843009213693952) (l : List α) (hl : l.length = sz) (w : World) (S : SWK enc k w0 blk off l.toArray w) :
    Calls Tryz.prog 88 #[.slice (some ⟨blk, off, none⟩) sz cap, .int .i64 sz, .func (.func g) #[] cb] w fun e w' => e = .returned (.tuple #[]) ∧ SWK enc k w0 blk off (St.isort (ltOf cf) l).toArray w' := by
  have HS := Lib.hid S
  have HL := Lib.hid hl
  have HIns := Lib.hid (ins_w (α := α) L enc cf g cb blk off cap sz d0 w0 eg hcmp R hO hd0 hsz)
  have HSym := Lib.hid (sym_w (α := α) L enc cf g cb blk off cap sz d0 w0 eg hcmp R hO hd0 hsz)
  have HO := Lib.hid hO
  have e93 : ∀ args w, (callFunc 119 args).run Tryz.prog w = .ok (.enter 119 args) w := Tryz.layIns.f20.enters rfl
  have e94 : ∀ args w, (callFunc 120 args).run Tryz.prog w = .ok (.enter 120 args) w := enters_of L.fSym (by kernel_rfl) rfl
  clear S hl hcmp R hd0 L hO
  go_enter Tryz.func88, Tryz.ntmps88
  go_wp2_with fail
  go_loopw [7, 8] (fun av bv wr => ∃ a : Nat, ∃ dn l2 : List α, av = .int .i64 a ∧ bv = .int .i64 ((a + 20 : Nat) : Int) ∧ Hid (dn.length = a) ∧ a ≤ sz ∧ Hid (St.blocks (ltOf cf) 20 l = dn ++ St.blocks (ltOf cf) 20 l2) ∧ Hid (SWK enc k w0 blk off (dn ++ l2).toArray wr)) (fun av _ _ => sz - (intOf av).toNat)
  case atStart => exact ⟨0, [], l, rfl, rfl, rfl, Nat.zero_le _, rfl, HS⟩
  case round =>
    obtain ⟨wo, rfl⟩ : ∃ wo : World, wo = wr := ⟨wr, rfl⟩
    obtain ⟨a, dn, l2, rfl, rfl, HDN, hasz, HT, HW⟩ := hrel
    have hlen := St.len_eq HT.out HDN.out
    rw [HL.out] at hlen
    have HLN := Lib.hid hlen
    by_cases hb : a + 20 ≤ sz
    · have hbz : ((a + 20 : Nat) : Int) ≤ (sz : Int) := by omega
      have h20 : (l2.take 20).length = 20 := by rw [List.length_take]; omega
      have HC := Lib.hid (HIns.out a (a + 20) wo dn (l2.take 20) (l2.drop 20) HDN.out.symm (by rw [h20, HDN.out]) (by rw [List.append_assoc, List.take_append_drop, List.length_append, HDN.out]; exact hlen) (by rw [List.append_assoc, List.take_append_drop]; exact HW.out))
      have HT2 : Hid (St.blocks (ltOf cf) 20 l = (dn ++ St.isort (ltOf cf) (l2.take 20)) ++ St.blocks (ltOf cf) 20 (l2.drop 20)) := by
        show _ = _
        have := St.blocks_cut' (lt := ltOf cf) (bs := 20) (a := l2.take 20) (b := l2.drop 20) (by omega) h20
        rw [List.take_append_drop] at this
        rw [HT.out, this, List.append_assoc]
      have HDN2 : Hid ((dn ++ St.isort (ltOf cf) (l2.take 20)).length = a + 20) := by show _ = _; rw [List.length_append, St.length_isort, h20, HDN.out]
      obtain ⟨b, hb'⟩ : ∃ b, b = a + 20 := ⟨_, rfl⟩
      rw [← hb'] at HC HDN2 hb hbz ⊢
      have HB := Lib.hid hb'
      have hab : a < b := by omega
      clear hlen h20 HLN hb'
      go_wp2_with fail
      refine HC.out.mono ?_
      rintro e w2 ⟨rfl, hw2⟩
      have HW2 := Lib.hid hw2
      clear hw2
      go_wp2_with fail
      go_roundw
      case rel => exact ⟨b, _, _, rfl, by first | rfl | go_num, HDN2, hb, HT2, HW2⟩
      case measure => simp [intOf]; omega
    · have hbz : ¬ ((a + 20 : Nat) : Int) ≤ (sz : Int) := by omega
      have HC := Lib.hid (HIns.out a sz wo dn l2 [] HDN.out.symm (by rw [HDN.out]; omega) (by rw [List.append_nil, List.length_append, HDN.out]; exact hlen) (by rw [List.append_nil]; exact HW.out))
      have HT2 : Hid (dn ++ St.isort (ltOf cf) l2 ++ [] = St.blocks (ltOf cf) 20 l) := by
        show _ = _
        rw [HT.out, St.blocks_short (by omega), List.append_nil]
      obtain ⟨b, hb'⟩ : ∃ b, b = a + 20 := ⟨_, rfl⟩
      rw [← hb'] at hbz ⊢
      clear hlen HLN hb' hb
      go_wp2_with fail
      refine HC.out.mono ?_
      rintro e w2 ⟨rfl, hw2⟩
      rw [HT2.out] at hw2
      have HW2 := Lib.hid hw2
      clear hw2 HC HT2 HT HW HDN
      go_wp2_with fail
      go_loopw [6, 7, 8, 9] (fun sv u7 u8 u9 wr => ∃ bs : Nat, ∃ x7 x8 x9 : Value, sv = .int .i64 bs ∧ u7 = x7 ∧ u8 = x8 ∧ u9 = x9 ∧ 20 ≤ bs ∧ bs < 4611686018427387904 ∧ Hid (SWK enc k w0 blk off (St.blocks (ltOf cf) bs l).toArray wr)) (fun sv _ _ _ _ => sz - (intOf sv).toNat)
      case atStart => exact ⟨20, _, _, _, rfl, rfl, rfl, rfl, Nat.le_refl _, by omega, HW2⟩
      case round =>
        obtain ⟨wo2, rfl⟩ : ∃ wo : World, wo = wr := ⟨wr, rfl⟩
        obtain ⟨bs, x7, x8, x9, rfl, rfl, rfl, rfl, hbs, hbs2, HB⟩ := hrel
        by_cases hlt : bs < sz
        · have hltz : (bs : Int) < (sz : Int) := by omega
          obtain ⟨b2, hb2⟩ : ∃ b2, b2 = 2 * bs := ⟨_, rfl⟩
          have gb2 : 2 * (bs : Int) = (b2 : Int) := by omega
          have gb3 : (bs : Int) * 2 = (b2 : Int) := by omega
          have hb2s : b2 < 4611686018427387904 := by omega
          have HB2 := Lib.hid hb2
          clear hb2
          go_wp2_with fail
          go_loopw [7, 8] (fun av bv wr => ∃ a b : Nat, ∃ dn l2 : List α, av = .int .i64 a ∧ bv = .int .i64 b ∧ b = a + b2 ∧ Hid (dn.length = a) ∧ a ≤ sz ∧ Hid (St.blocks (ltOf cf) b2 l = dn ++ St.blocks (ltOf cf) b2 l2) ∧ Hid (SWK enc k w0 blk off (dn ++ St.blocks (ltOf cf) bs l2).toArray wr)) (fun av _ _ => sz - (intOf av).toNat)
          case atStart => exact ⟨0, b2, [], l, rfl, rfl, by omega, rfl, Nat.zero_le _, rfl, HB⟩
          case round =>
            obtain ⟨wo3, rfl⟩ : ∃ wo : World, wo = wr := ⟨wr, rfl⟩
            obtain ⟨a, b, dn, l2, rfl, rfl, hab, HDN, hasz, HT, HW⟩ := hrel
            have hlen := St.len_eq HT.out HDN.out
            rw [HL.out] at hlen
            have hb2v := HB2.out
            obtain ⟨m, hm⟩ : ∃ m, m = a + bs := ⟨_, rfl⟩
            have gm : (a : Int) + (bs : Int) = (m : Int) := by omega
            have hmz : m < 9223372036854775807 := by omega
            by_cases hb : b ≤ sz
            · have hbz : (b : Int) ≤ (sz : Int) := by omega
              have h1 : (l2.take bs).length = bs := by rw [List.length_take]; omega
              have h2 : ((l2.drop bs).take bs).length = bs := by rw [List.length_take, List.length_drop]; omega
              have ecut : l2 = l2.take bs ++ ((l2.drop bs).take bs ++ (l2.drop bs).drop bs) := by rw [List.take_append_drop, List.take_append_drop]
              generalize l2.take bs = X at h1 ecut
              generalize (l2.drop bs).take bs = Y at h2 ecut
              generalize (l2.drop bs).drop bs = Z at ecut
              subst ecut
              have hXY : Hid (St.blocks (ltOf cf) bs (X ++ (Y ++ Z)) = St.isort (ltOf cf) X ++ (St.isort (ltOf cf) Y ++ St.blocks (ltOf cf) bs Z)) := by
                show _ = _
                rw [St.blocks_cut' (by omega) h1, St.blocks_cut' (by omega) h2]
              have hXY2 : Hid (St.blocks (ltOf cf) b2 (X ++ (Y ++ Z)) = St.isort (ltOf cf) (X ++ Y) ++ St.blocks (ltOf cf) b2 Z) := by
                show _ = _
                rw [← List.append_assoc X, St.blocks_cut' (by omega) (by rw [List.length_append, h1, h2]; omega)]
              have l1 := St.length_isort (ltOf cf) X
              have l3 := St.length_isort (ltOf cf) Y
              have HC := Lib.hid (HSym.out (X.length + Y.length) a m b wo3 dn (St.isort (ltOf cf) X) (St.isort (ltOf cf) Y) (St.blocks (ltOf cf) bs Z) (by omega) HDN.out.symm (by rw [HDN.out]; omega) (by rw [HDN.out]; omega) (St.isort_ne (List.length_pos_iff.1 (by omega))) (St.isort_ne (List.length_pos_iff.1 (by omega))) (by simp only [List.length_append, St.length_isort, St.length_blocks] at hlen ⊢; have := HDN.out; omega) (by have := HW.out; rw [hXY.out] at this; simpa using this) (St.srd_isort HO.out X) (St.srd_isort HO.out Y))
              have HT2 : Hid (St.blocks (ltOf cf) b2 l = (dn ++ St.isort (ltOf cf) (X ++ Y)) ++ St.blocks (ltOf cf) b2 Z) := by show _ = _; rw [HT.out, hXY2.out, List.append_assoc]
              have HDN2 : Hid ((dn ++ St.isort (ltOf cf) (X ++ Y)).length = b) := by show _ = _; rw [List.length_append, St.length_isort, List.length_append, HDN.out]; omega
              have HIA : Hid (dn ++ St.mrg (ltOf cf) (St.isort (ltOf cf) X) (St.isort (ltOf cf) Y) ++ St.blocks (ltOf cf) bs Z = (dn ++ St.isort (ltOf cf) (X ++ Y)) ++ St.blocks (ltOf cf) bs Z) := by show _ = _; rw [St.isort_append HO.out]
              have hab' : a < b := by omega
              have HM := Lib.hid hm
              clear hlen h1 h2 l1 l3 hm hb2v hab
              go_wp2_with fail
              refine HC.out.mono ?_
              rintro e w2 ⟨rfl, hw2⟩
              rw [HIA.out] at hw2
              have HW2 := Lib.hid hw2
              clear hw2
              go_wp2_with fail
              go_roundw
              case rel => exact ⟨b, b + b2, _, _, rfl, by first | rfl | go_num, rfl, HDN2, hb, HT2, HW2⟩
              case measure => simp [intOf]; omega
            · have hbz : ¬ (b : Int) ≤ (sz : Int) := by omega
              by_cases hms : m < sz
              · have hmsz : (m : Int) < (sz : Int) := by omega
                have h1 : (l2.take bs).length = bs := by rw [List.length_take]; omega
                have h2 : (l2.drop bs).length = l2.length - bs := List.length_drop
                have ecut : l2 = l2.take bs ++ l2.drop bs := by rw [List.take_append_drop]
                generalize l2.take bs = X at h1 ecut
                generalize l2.drop bs = Y at h2 ecut
                have hyl : Y.length ≤ bs := by omega
                have hy0 : 0 < Y.length := by omega
                clear h2
                subst ecut
                have hXY : Hid (St.blocks (ltOf cf) bs (X ++ Y) = St.isort (ltOf cf) X ++ St.isort (ltOf cf) Y) := by
                  show _ = _
                  rw [St.blocks_cut' (by omega) h1, St.blocks_short hyl]
                have hXY2 : Hid (dn ++ St.mrg (ltOf cf) (St.isort (ltOf cf) X) (St.isort (ltOf cf) Y) ++ [] = St.blocks (ltOf cf) b2 l) := by
                  show _ = _
                  rw [HT.out, St.isort_append HO.out, St.blocks_short (by rw [List.length_append]; omega), List.append_nil]
                have l1 := St.length_isort (ltOf cf) X
                have l3 := St.length_isort (ltOf cf) Y
                have HC := Lib.hid (HSym.out (X.length + Y.length) a m sz wo3 dn (St.isort (ltOf cf) X) (St.isort (ltOf cf) Y) [] (by omega) HDN.out.symm (by rw [HDN.out]; omega) (by rw [HDN.out]; simp only [List.length_append] at hlen; omega) (St.isort_ne (List.length_pos_iff.1 (by omega))) (St.isort_ne (List.length_pos_iff.1 (by omega))) (by simp only [List.length_append, List.append_nil, St.length_isort] at hlen ⊢; have := HDN.out; omega) (by have := HW.out; rw [hXY.out] at this; simpa using this) (St.srd_isort HO.out X) (St.srd_isort HO.out Y))
                have HM := Lib.hid hm
                clear hlen h1 l1 l3 hm hb2v hab hyl hy0
                go_wp2_with fail
                refine HC.out.mono ?_
                rintro e w2 ⟨rfl, hw2⟩
                rw [hXY2.out] at hw2
                have HW2 := Lib.hid hw2
                clear hw2
                go_wp2_with fail
                go_roundw
                case rel => exact ⟨b2, _, _, _, by first | rfl | go_num, rfl, rfl, rfl, by have := HB2.out; omega, hb2s, HW2⟩
                case measure => have := HB2.out; simp [intOf]; omega
              · have hmsz : ¬ (m : Int) < (sz : Int) := by omega
                have HW2 : Hid (SWK enc k w0 blk off (St.blocks (ltOf cf) b2 l).toArray wo3) := by
                  show SWK _ _ _ _ _ _ _
                  have := HW.out
                  rw [St.blocks_short (by omega)] at this
                  rw [HT.out, St.blocks_short (by omega)]
                  exact this
                have HM := Lib.hid hm
                clear hlen hm hb2v hab
                go_wp2_with fail
                go_roundw
                case rel => exact ⟨b2, _, _, _, by first | rfl | go_num, rfl, rfl, rfl, by have := HB2.out; omega, hb2s, HW2⟩
                case measure => have := HB2.out; simp [intOf]; omega
        · have hltz : ¬ (bs : Int) < (sz : Int) := by omega
          have HF : Hid (St.blocks (ltOf cf) bs l = St.isort (ltOf cf) l) := St.blocks_short (by have := HL.out; omega)
          go_wp2_with fail
          go_end0
          refine ⟨rfl, ?_⟩
          rw [← HF.out]
          exact HB.out
/-- slices.SortStableFunc at rows of k cells: the stable order. -/
theorem sortStable_w (L : RowProg Tryz.prog k) (enc : α → List Value) (cf : α → α → Int) (g : Nat) (cb : Array Value) (blk off cap sz : Nat) (w : World) (l : List α) (hl : l.length = sz) (eg : ∀ args w, (callFunc g args).run Tryz.prog w = .ok (.enter g args) w) (hcmp : CmpLays Tryz.prog g cb enc k cf blk off sz w) (R : RowK enc k w blk off l.toArray) (hO : SWO (ltOf cf)) (hsz : sz < 2305843009213693952) :
    Calls Tryz.prog 53 #[.slice (some ⟨blk, off, none⟩) sz cap, .func (.func g) #[] cb] w fun e w' => e = .returned (.tuple #[]) ∧ SWK enc k w blk off (St.isort (ltOf cf) l).toArray w' := by
  have S : SWK enc k w blk off l.toArray w := ⟨0, #[], by unfold sortWorldK; rw [grow_empty]; exact (putRowK_self enc k w blk off l.toArray R.hH).symm⟩
  have HC := Lib.hid (stable_w (α := α) L enc cf g cb blk off cap sz l.toArray w eg hcmp R hO (by rw [List.size_toArray]; exact hl) hsz l hl w S)
  have e85 : ∀ args w, (callFunc 88 args).run Tryz.prog w = .ok (.enter 88 args) w := enters_of L.fStb (by kernel_rfl) rfl
  clear S hcmp R hO L hl
  go_enter Tryz.func53, Tryz.ntmps53
  go_wp2_with fail
  refine HC.out.mono ?_
  rintro e w2 ⟨rfl, hw2⟩
  have HW2 := Lib.hid hw2
  clear hw2
  go_wp2_with fail
  go_end0
  exact ⟨rfl, HW2.out⟩
end Go.Proofs.YtlamhpiiikcpiaaGreatDoor
/-
  The order of rules: plain laws; cmp.Compare at strings, cmp.Or, rules.order.
-/
namespace Go.Proofs.YtlamhpiiikcpiaaGreatDoor
open Go.RowKit Go.Shelf Go.Lib Go.Sort
set_option linter.unusedVariables false
set_option linter.unusedSectionVars false
namespace Rp
/-- Does one key stand ahead of another one? -/
def aheadK (p : Int) (m : ByteArray) (q : Int) (n : ByteArray) : Bool := if p = q then lessB m n else decide (q < p)
def aheadR (a b : Rl) : Bool := aheadK a.p a.m b.p b.m
def cmpS (a b : ByteArray) : Int := if lessB a b = true then -1 else if lessB b a = true then 1 else 0
def cmpK (p : Int) (m : ByteArray) (q : Int) (n : ByteArray) : Int := if Lib.compareInt q p = 0 then cmpS m n else Lib.compareInt q p
theorem lessB_eq (a b : ByteArray) : lessB a b = decide (a.toList < b.toList) := bytesLess_eq _ _
theorem lessB_irrefl (a : ByteArray) : lessB a a = false := by rw [lessB_eq]; exact decide_eq_false (List.lt_irrefl _)
theorem lessB_trans {a b c : ByteArray} (h : lessB a b = true) (h2 : lessB b c = true) : lessB a c = true := by
  rw [lessB_eq] at *
  exact decide_eq_true (List.lt_trans (of_decide_eq_true h) (of_decide_eq_true h2))
theorem lessB_ntrans {a b c : ByteArray} (h : lessB a b = false) (h2 : lessB b c = false) : lessB a c = false := by
  rw [lessB_eq] at *
  have h := of_decide_eq_false h
  have h2 := of_decide_eq_false h2
  refine decide_eq_false fun h3 => ?_
  rw [List.not_lt] at h h2
  exact (List.not_lt.2 (List.le_trans h2 h)) h3
theorem lessB_tri {a b : ByteArray} (h : lessB a b = false) (h2 : lessB b a = false) : a = b := by
  rw [lessB_eq] at *
  have h := of_decide_eq_false h
  have h2 := of_decide_eq_false h2
  rw [List.not_lt] at h h2
  have := List.le_antisymm h2 h
  have e : a.data.toList = b.data.toList := by rw [← Lib.toList_data, ← Lib.toList_data]; exact this
  cases a; cases b
  simp only at e
  rw [Array.toList_inj] at e
  rw [e]
theorem compareInt_zero (x y : Int) : Lib.compareInt x y = 0 ↔ x = y := by
  unfold Lib.compareInt
  by_cases h : x < y
  · simp [h]; omega
  · by_cases h2 : y < x
    · simp [h, h2]; omega
    · simp [h, h2]; omega
theorem cmpK_lt (p : Int) (m : ByteArray) (q : Int) (n : ByteArray) : decide (cmpK p m q n < 0) = aheadK p m q n := by
  unfold cmpK aheadK
  by_cases h : p = q
  · subst h
    rw [if_pos ((compareInt_zero _ _).2 rfl), if_pos rfl]
    unfold cmpS
    cases h1 : lessB m n
    · cases h2 : lessB n m <;> simp
    · simp
  · rw [if_neg (fun h2 => h ((compareInt_zero _ _).1 h2).symm), if_neg h, decide_eq_decide]
    unfold Lib.compareInt
    by_cases h1 : q < p
    · simp [h1]
    · by_cases h2 : p < q
      · simp [h1, h2]
      · omega
theorem aheadK_swo_irrefl (p : Int) (m : ByteArray) : aheadK p m p m = false := by unfold aheadK; rw [if_pos rfl]; exact lessB_irrefl m
theorem aheadK_trans {p q r : Int} {a b c : ByteArray} (h : aheadK p a q b = true) (h2 : aheadK q b r c = true) : aheadK p a r c = true := by
  unfold aheadK at *
  by_cases h3 : p = q
  · subst h3
    rw [if_pos rfl] at h
    by_cases h4 : p = r
    · subst h4
      rw [if_pos rfl] at h2
      rw [if_pos rfl]
      exact lessB_trans h h2
    · rw [if_neg h4] at h2 ⊢
      exact h2
  · rw [if_neg h3] at h
    have h := of_decide_eq_true h
    by_cases h4 : q = r
    · subst h4
      rw [if_neg h3]
      exact decide_eq_true h
    · rw [if_neg h4] at h2
      have h2 := of_decide_eq_true h2
      rw [if_neg (by omega)]
      exact decide_eq_true (by omega)
theorem aheadK_ntrans {p q r : Int} {a b c : ByteArray} (h : aheadK p a q b = false) (h2 : aheadK q b r c = false) : aheadK p a r c = false := by
  unfold aheadK at *
  by_cases h3 : p = q
  · subst h3
    rw [if_pos rfl] at h
    by_cases h4 : p = r
    · subst h4
      rw [if_pos rfl] at h2
      rw [if_pos rfl]
      exact lessB_ntrans h h2
    · rw [if_neg h4] at h2 ⊢
      exact h2
  · rw [if_neg h3] at h
    have h := of_decide_eq_false h
    by_cases h4 : q = r
    · subst h4
      rw [if_neg h3]
      exact decide_eq_false h
    · rw [if_neg h4] at h2
      have h2 := of_decide_eq_false h2
      rw [if_neg (by omega)]
      exact decide_eq_false (by omega)
end Rp
def cfC (x y : RC) : Int := Rp.cmpK x.p x.m y.p y.m
def aheadC (x y : RC) : Bool := Rp.aheadK x.p x.m y.p y.m
theorem ltOf_cfC : ltOf cfC = aheadC := by
  funext x y
  show decide (cfC x y < 0) = _
  exact Rp.cmpK_lt _ _ _ _
theorem swoC : SWO aheadC := ⟨fun x => Rp.aheadK_swo_irrefl _ _, fun _ _ _ => Rp.aheadK_trans, fun _ _ _ => Rp.aheadK_ntrans⟩
theorem swoR : SWO Rp.aheadR := ⟨fun x => Rp.aheadK_swo_irrefl _ _, fun _ _ _ => Rp.aheadK_trans, fun _ _ _ => Rp.aheadK_ntrans⟩
theorem isNaNS_any (s : ByteArray) (w : World) : Calls Tryz.prog 122 #[.string s] w fun e w' => e = .returned (.bool false) ∧ w = w' := by
  have h : (s.toList != s.toList) = false := by simp
  go_enter Tryz.func122, Tryz.ntmps122
  go_wp2_with fail
  go_ret
  exact ⟨by first | rfl | simp, rfl⟩
set_option maxHeartbeats 800000 in
theorem compareS_any (a b : ByteArray) (w : World) : Calls Tryz.prog 91 #[.string a, .string b] w fun e w' => e = .returned (.int .i64 (Rp.cmpS a b)) ∧ w = w' := by
  have HN := Lib.hid (fun s W => isNaNS_any s W)
  obtain ⟨q1, h1⟩ : ∃ q, Rp.lessB a b = q := ⟨_, rfl⟩
  obtain ⟨q2, h2⟩ : ∃ q, Rp.lessB b a = q := ⟨_, rfl⟩
  have h3 : (Op.bytesLess a.toList b.toList || a.toList == b.toList) = !q2 := by
    show (Rp.lessB a b || a.toList == b.toList) = _
    rw [← h2]
    cases h4 : Rp.lessB a b with
    | true =>
      cases h5 : Rp.lessB b a with
      | true => have := Rp.lessB_trans h4 h5; rw [Rp.lessB_irrefl] at this; cases this
      | false => rfl
    | false =>
      cases h5 : Rp.lessB b a with
      | true =>
        have : ¬ a.toList = b.toList := fun e => by rw [Rp.lessB_eq, e] at h5; exact (List.lt_irrefl _) (of_decide_eq_true h5)
        simpa using this
      | false => have := Rp.lessB_tri h4 h5; subst this; simp
  have HQ : Hid (Rp.cmpS a b = if q1 = true then -1 else if q2 = true then 1 else 0) := by show _ = _; unfold Rp.cmpS; rw [h1, h2]
  unfold Rp.lessB at h1
  clear h2
  cases q1 with
  | true =>
    clear h3
    go_enter Tryz.func91, Tryz.ntmps91
    go_wp2_with ((with_reducible refine (HN.out _ _).mono ?_); rintro e w' ⟨rfl, rfl⟩)
    go_ret
    exact ⟨by rw [HQ.out]; rfl, rfl⟩
  | false =>
    cases q2 with
    | true =>
      have h4 : (a.toList == b.toList) = false := by rw [h1] at h3; simpa using h3
      clear h3
      go_enter Tryz.func91, Tryz.ntmps91
      go_wp2_with ((with_reducible refine (HN.out _ _).mono ?_); rintro e w' ⟨rfl, rfl⟩)
      go_ret
      exact ⟨by rw [HQ.out]; rfl, rfl⟩
    | false =>
      have h4 : (a.toList == b.toList) = true := by rw [h1] at h3; simpa using h3
      clear h3
      go_enter Tryz.func91, Tryz.ntmps91
      go_wp2_with ((with_reducible refine (HN.out _ _).mono ?_); rintro e w' ⟨rfl, rfl⟩)
      go_ret
      exact ⟨by rw [HQ.out]; rfl, rfl⟩
/-- cmp.Or of two numbers. -/
theorem or2_any (b : Nat) (x y : Int) (w : World) (h0 : w.cell? ⟨b, 0, none⟩ = some (.int .i64 x)) (h1 : w.cell? ⟨b, 1, none⟩ = some (.int .i64 y)) (z : Int) (hz : (if x = 0 then y else x) = z) :
    Calls Tryz.prog 89 #[.slice (some ⟨b, 0, none⟩) 2 2] w fun e w' => e = .returned (.int .i64 z) ∧ w = w' := by
  have HZ := Lib.hid hz
  clear hz
  go_enter Tryz.func89, Tryz.ntmps89
  go_wp2_with fail
  go_loop [8] (fun k => ∃ n : Nat, n ≤ 2 ∧ k = .int .i64 n ∧ Hid (1 ≤ n → x = 0) ∧ Hid (2 ≤ n → y = 0)) (fun k => 2 - (intOf k).toNat)
  case atStart => exact ⟨0, by omega, rfl, fun h => absurd h (by omega), fun h => absurd h (by omega)⟩
  case round =>
    obtain ⟨n, hn, rfl, HI, HJ⟩ := hrel
    by_cases hn0 : n = 0
    · subst hn0
      clear HI HJ
      by_cases hx : x = 0
      · have hx' : (x != 0) = false := by simpa using hx
        have HX := Lib.hid hx
        clear hx
        go_wp2_with fail
        go_round
        case rel => exact ⟨1, by omega, by first | rfl | go_num, fun _ => HX.out, fun h => absurd h (by omega)⟩
        case measure => simp [intOf]
      · have hx' : (x != 0) = true := by simpa using hx
        have HX : Hid (z = x) := by show _ = _; rw [← HZ.out, if_neg hx]
        clear hx
        go_wp2_with fail
        go_ret
        exact ⟨by rw [HX.out]; rfl, rfl⟩
    · by_cases hn1 : n = 1
      · subst hn1
        have HX := Lib.hid (HI.out (Nat.le_refl _))
        clear HI HJ
        by_cases hy : y = 0
        · have hy' : (y != 0) = false := by simpa using hy
          have HY := Lib.hid hy
          clear hy
          go_wp2_with fail
          go_round
          case rel => exact ⟨2, by omega, by first | rfl | go_num, fun _ => HX.out, fun h => HY.out⟩
          case measure => simp [intOf]
        · have hy' : (y != 0) = true := by simpa using hy
          have HX : Hid (z = y) := by show _ = _; rw [← HZ.out, if_pos HX.out]
          clear hy
          go_wp2_with fail
          go_ret
          exact ⟨by rw [HX.out]; rfl, rfl⟩
      · obtain rfl : n = 2 := by omega
        have HX : Hid (z = 0) := by show _ = _; rw [← HZ.out, if_pos (HI.out (by omega)), HJ.out (by omega)]
        clear HI HJ
        go_wp2_with fail
        go_ret
        exact ⟨by rw [HX.out]; rfl, rfl⟩
theorem cI_any (x y q : Int) (h : Lib.compareInt x y = q) (w : World) : Calls Tryz.prog 90 #[.int .i64 x, .int .i64 y] w fun e w' => e = .returned (.int .i64 q) ∧ w' = w := by
  subst h; exact Tryz.cmp_Compare_int x y w
/-- w' is w with some draws and some new blocks. -/
def Grn (w w' : World) : Prop := ∃ q os, w' = grow (w.drewN q) os
theorem Grn.refl (w : World) : Grn w w := ⟨0, #[], by simp [World.drewN]⟩
theorem Grn.alloc {w w' : World} (h : Grn w w') (o : Obj) : Grn w (w'.alloc o) := by
  obtain ⟨q, os, rfl⟩ := h
  exact ⟨q, os ++ #[o], by rw [alloc_eq_grow, grow_grow]⟩
theorem Grn.drew {w w' : World} (h : Grn w w') : Grn w w'.drew := by
  obtain ⟨q, os, rfl⟩ := h
  exact ⟨q + 1, os, rfl⟩
theorem Grn.drewN {w w' : World} (h : Grn w w') (n : Nat) : Grn w (w'.drewN n) := by
  obtain ⟨q, os, rfl⟩ := h
  exact ⟨q + n, os, by rw [show (grow (w.drewN q) os).drewN n = grow ((w.drewN q).drewN n) os from rfl, World.drewN_drewN]⟩
theorem Grn.grow {w w' : World} (h : Grn w w') (n : Nat) (os : Array Obj) : Grn w (Sort.grow (w'.drewN n) os) := by
  obtain ⟨q, os', h2⟩ := h.drewN n
  exact ⟨q, os' ++ os, by rw [h2, grow_grow]⟩
theorem Grn.trans {a b c : World} (h : Grn a b) (k : Grn b c) : Grn a c := by
  obtain ⟨q, os, rfl⟩ := k
  exact h.grow q os
theorem Grn.below {w w' : World} (h : Grn w w') : Below w.heap.size w w' := by
  obtain ⟨q, os, rfl⟩ := h
  exact ⟨rfl, rfl, rfl, by rw [size_grow]; exact Nat.le_add_right _ _, fun k hk => heap_grow_old (w.drewN q) os hk⟩
set_option maxHeartbeats 1600000 in
set_option maxRecDepth 20000 in
theorem order_any (x y : RC) (w : World) (z : Int) (hz : cfC x y = z) :
    Calls Tryz.prog 54 #[x.v, y.v] w fun e w' => e = .returned (.int .i64 z) ∧ Grn w w' := by
  obtain ⟨p, m, k, a, n, c⟩ := x
  obtain ⟨p2, m2, k2, a2, n2, c2⟩ := y
  unfold cfC Rp.cmpK at hz
  simp only at hz
  obtain ⟨c1, hc1⟩ : ∃ c1, Lib.compareInt p2 p = c1 := ⟨_, rfl⟩
  obtain ⟨c3, hc3⟩ : ∃ c3, Rp.cmpS m m2 = c3 := ⟨_, rfl⟩
  rw [hc1, hc3] at hz
  have HZ := Lib.hid hz
  have HI := Lib.hid (fun W => cI_any p2 p c1 hc1 W)
  have HS := Lib.hid (fun W => compareS_any m m2 W)
  rw [hc3] at HS
  have HO := Lib.hid (fun b W h0 h1 => or2_any b c1 c3 W h0 h1 z hz)
  clear hz hc1 hc3
  unfold RC.v
  simp only
  obtain ⟨W2, hW2⟩ : ∃ W2, W2 = (w.alloc (.cells #[.int .i64 p, .string m, .int .i64 k, .slice a n c] 47)).alloc (.cells #[.int .i64 p2, .string m2, .int .i64 k2, .slice a2 n2 c2] 47) := ⟨_, rfl⟩
  have HG : Hid (Grn w W2) := by rw [hW2]; exact ((Grn.refl w).alloc _).alloc _
  obtain ⟨b1, hb1⟩ : ∃ b1, b1 = w.heap.size := ⟨_, rfl⟩
  obtain ⟨b2, hb2⟩ : ∃ b2, b2 = w.heap.size + 1 := ⟨_, rfl⟩
  have x0 : W2.cell? ⟨b1, 0, none⟩ = some (.int .i64 p) := by rw [hW2, hb1]; simp [go_sem]
  have x1 : W2.cell? ⟨b1, 1, none⟩ = some (.string m) := by rw [hW2, hb1]; simp [go_sem]
  have y0 : W2.cell? ⟨b2, 0, none⟩ = some (.int .i64 p2) := by rw [hW2, hb2]; simp [go_sem]
  have y1 : W2.cell? ⟨b2, 1, none⟩ = some (.string m2) := by rw [hW2, hb2]; simp [go_sem]
  go_enter Tryz.func54, Tryz.ntmps54
  go_upto_region 1 with fail
  rw [← hW2, ← hb2, ← hb1]
  clear hW2 hb1 hb2
  go_region_held3 (fun w' => w'.cell? ⟨b1, 0, none⟩ = some (.int .i64 p) ∧ w'.cell? ⟨b1, 1, none⟩ = some (.string m) ∧ w'.cell? ⟨b2, 0, none⟩ = some (.int .i64 p2) ∧ w'.cell? ⟨b2, 1, none⟩ = some (.string m2)) (first | go_keep | exact ⟨x0, x1, y0, y1⟩) (first | (go_at_call 90; refine (HI.out _).mono ?_; rintro _ _ ⟨rfl, rfl⟩) | (go_at_call 91; refine (HS.out _).mono ?_; rintro _ _ ⟨rfl, rfl⟩) | (go_at_call 89; refine (HO.out _ _ (by simp [go_sem]) (by simp [go_sem])).mono ?_; rintro _ _ ⟨rfl, rfl⟩))
  all_goals
    go_wp2_with fail
    go_ret
    exact ⟨rfl, (HG.out.alloc _).drew⟩
end Go.Proofs.YtlamhpiiikcpiaaGreatDoor
/-
  Walks: slices.Clone at strings and at rules; the sort of a row of rules; rules.Order.
-/
namespace Go.Proofs.YtlamhpiiikcpiaaGreatDoor
open Go.RowKit Go.Shelf Go.Lib Go.Sort
set_option linter.unusedVariables false
set_option linter.unusedSectionVars false
/-! ### Two lists, an element at a time -/
inductive All2 {α β : Type} (Q : α → β → Prop) : List α → List β → Prop
  | nil : All2 Q [] []
  | cons {x : α} {r : β} {xs : List α} {L : List β} : Q x r → All2 Q xs L → All2 Q (x :: xs) (r :: L)
section
variable {α β : Type} {Q Q' : α → β → Prop}
theorem All2.length {xs : List α} {L : List β} (h : All2 Q xs L) : xs.length = L.length := by
  induction h with
  | nil => rfl
  | cons _ _ ih => simp [ih]
theorem All2.get {xs : List α} {L : List β} (h : All2 Q xs L) : ∀ i (h1 : i < xs.length) (h2 : i < L.length), Q xs[i] L[i] := by
  induction h with
  | nil => intro i h1; exact absurd h1 (Nat.not_lt_zero _)
  | cons hq _ ih =>
    intro i h1 h2
    cases i with
    | zero => exact hq
    | succ i => exact ih i (by simpa using h1) (by simpa using h2)
theorem All2.of_get : ∀ {xs : List α} {L : List β}, xs.length = L.length → (∀ i (h1 : i < xs.length) (h2 : i < L.length), Q xs[i] L[i]) → All2 Q xs L
  | [], [], _, _ => .nil
  | [], _ :: _, h, _ => by simp at h
  | _ :: _, [], h, _ => by simp at h
  | x :: xs, r :: L, h, hq => .cons (hq 0 (by simp) (by simp)) (All2.of_get (by simpa using h) fun i h1 h2 => hq (i + 1) (by simpa using h1) (by simpa using h2))
theorem All2.imp {xs : List α} {L : List β} (h : All2 Q xs L) (hq : ∀ x r, Q x r → Q' x r) : All2 Q' xs L := by
  induction h with
  | nil => exact .nil
  | cons h _ ih => exact .cons (hq _ _ h) ih
theorem All2.append {xs ys : List α} {L M : List β} (h : All2 Q xs L) (h2 : All2 Q ys M) : All2 Q (xs ++ ys) (L ++ M) := by
  induction h with
  | nil => exact h2
  | cons h _ ih => exact .cons h ih
theorem All2.insL {lt : α → α → Bool} {lt' : β → β → Bool} (hl : ∀ x r y s, Q x r → Q y s → lt x y = lt' r s) {xs : List α} {L : List β} (h : All2 Q xs L) {x : α} {r : β} (hx : Q x r) : All2 Q (St.insL lt xs x) (St.insL lt' L r) := by
  induction h with
  | nil => exact .cons hx .nil
  | cons hq ht ih =>
    unfold St.insL
    rw [hl _ _ _ _ hx hq]
    split
    · exact .cons hx (.cons hq ht)
    · exact .cons hq ih
theorem All2.mrg {lt : α → α → Bool} {lt' : β → β → Bool} (hl : ∀ x r y s, Q x r → Q y s → lt x y = lt' r s) {ys : List α} {M : List β} (h : All2 Q ys M) : ∀ {xs : List α} {L : List β}, All2 Q xs L → All2 Q (St.mrg lt xs ys) (St.mrg lt' L M) := by
  induction h with
  | nil => intro xs L h; exact h
  | cons hq _ ih => intro xs L h; exact ih (All2.insL hl h hq)
theorem All2.isort {lt : α → α → Bool} {lt' : β → β → Bool} (hl : ∀ x r y s, Q x r → Q y s → lt x y = lt' r s) {xs : List α} {L : List β} (h : All2 Q xs L) : All2 Q (St.isort lt xs) (St.isort lt' L) := All2.mrg hl h .nil
end
theorem ahead_rdC {ok : Nat → Prop} {w : World} (x : RC) (r : Rl) (y : RC) (s : Rl) (h1 : RdC ok w x r) (h2 : RdC ok w y s) : aheadC x y = Rp.aheadR r s := by
  unfold aheadC Rp.aheadR
  rw [h1.p, h1.m, h2.p, h2.m]
/-! ### Clone -/
set_option maxHeartbeats 800000 in
set_option maxRecDepth 20000 in
theorem cloneS_any (v : Value) (ps : List ByteArray) (w : World) (hr : RdsS w v ps) (hn : ps.length * 16 ≤ 140737488351232) :
    Calls Tryz.prog 52 #[v] w fun e w' => ∃ ad c, e = .returned (.slice ad ps.length c) ∧ RdsO (fun b => w.heap.size ≤ b) w' (.slice ad ps.length c) ps ∧ Below w.heap.size w w' := by
  obtain ⟨i0, hi, hz0, hz1, hz2⟩ := info_parts infoS
  have HR := Lib.hid hr
  obtain ⟨ad, len, cap, rfl, hl, hlm, hel⟩ := rdsS_form hr
  clear hel hr
  unfold maxLen at hlm
  cases ad with
  | none =>
    obtain ⟨e1, e2, e3⟩ := rdsS_nilcap HR.out
    subst e2 e3
    have hp := Lib.hid e1
    clear hl e1
    have hnn : ∀ W : World, (binOp .eql 43 (.slice none 0 0) (.slice none 0 0)).run Tryz.prog W = .ok (.bool true) W := fun W => Lib.run_eql_slice_nil W _ _ _ _ _ _ _ Tryz.underlying43
    go_enter Tryz.func52, Tryz.ntmps52
    go_wp2_with fail
    go_ret
    refine ⟨none, 0, by rw [hp.out]; rfl, ?_, Below.refl _ _⟩
    rw [hp.out]
    exact ⟨rdsS_nil _, okV_nil _ _ _⟩
  | some a =>
    have HL := Lib.hid hl
    have HN := Lib.hid hn
    have hown := lit0_rowE (w := w) (e := 9) (k := 1) (g := w.heap.size) (b := w.heap.size) rfl (Nat.le_refl _)
    have HOW := Lib.hid hown
    have hb := (Below.refl w.heap.size w).alloc (Nat.le_refl _) (.cells #[] 9)
    have HR2 := Lib.hid (HR.out.below hb)
    have HB := Lib.hid hb
    clear hl hn hb hown
    have hnn : ∀ W : World, (binOp .eql 43 (.slice (some a) len cap) (.slice none 0 0)).run Tryz.prog W = .ok (.bool false) W := fun W => Lib.run_eql_slice_nil W _ _ _ _ _ _ _ Tryz.underlying43
    go_enter Tryz.func52, Tryz.ntmps52
    go_wp2_with (at_builtin; go_loud (refine wpList_append_rds rfl (.tmp 5) (.tmp 6) _ rfl w.heap.size 9 i0 _ 16 Tryz.underlying43 hi hz0 hz1 hz2 rfl _ 0 [] rfl HOW.out _ (ps.map Value.string) rfl HR2.out str_one len (by rw [List.length_map]; have := HL.out; omega) (by unfold maxLen; omega) (by have := HL.out; have := HN.out; omega) (by simp) ?_); intro ad2 cap2 w2 h2 hg; have HO := Lib.hid h2; have HG := Lib.hid hg; clear h2 hg)
    go_ret
    have HG2 : Below w.heap.size w w2 := HB.out.grown HG.out (by simp) (fun k hk => by injection hk with hk; subst hk; exact Nat.le_refl _)
    refine ⟨ad2, cap2, by rw [← HL.out]; rfl, ?_, HG2⟩
    rw [← HL.out]
    refine ⟨?_, ?_⟩
    · have := ownsRow_rds HO.out
      show Rds _ _ _
      simpa using this
    · intro a' n' c' hv hn'
      injection hv with e1 _ _
      have := (HO.out.lt a'.block (by rw [e1]; rfl)).1
      exact this
theorem rdsR_cells {ok : Nat → Prop} {w : World} {ad : Option Addr} {n cap : Nat} {L : List Rl} (h : RdsR ok w (.slice ad n cap) L) : ∃ xs : List RC, xs.length = L.length ∧ (∀ a, ad = some a → ∀ j u, (cellsR xs)[j]? = some u → w.cell? (a.add j) = some u) ∧ ∀ i (h : i < xs.length) (h' : i < L.length), RdC ok w xs[i] L[i] := by
  obtain ⟨xs, ad', n', cap', h1, h2, h3, h4, h5, h6, h7, h8⟩ := h
  injection h1 with e1 e2 e3
  subst e1 e2 e3
  refine ⟨xs, by omega, ?_, h8⟩
  intro a ha j u hj
  have hj4 : j < xs.length * 4 := by rw [← cellsR_length]; exact (List.getElem?_eq_some_iff.1 hj).1
  have hi : j / 4 < xs.length := by omega
  obtain ⟨b, off, hab, hb, c0, c1, c2, c3⟩ := h7 (j / 4) hi
  obtain ⟨g0, g1, g2, g3⟩ := cellsR_get xs (j / 4) hi
  rw [ha] at hab
  injection hab with hab
  subst hab
  have hplain : (⟨b, off, none⟩ : Addr).add j = ⟨b, off + j, none⟩ := by unfold Addr.add; split <;> simp_all
  rw [hplain]
  have hm : j % 4 = 0 ∨ j % 4 = 1 ∨ j % 4 = 2 ∨ j % 4 = 3 := by omega
  rcases hm with hm | hm | hm | hm
  · have e : j = j / 4 * 4 := by omega
    rw [e] at hj ⊢; rw [← e] at hj ⊢
    rw [show j = j / 4 * 4 from e] at hj
    rw [g0] at hj; injection hj with hj; rw [← hj, show off + j = off + j / 4 * 4 by omega]; exact c0
  · rw [show j = j / 4 * 4 + 1 by omega] at hj
    rw [g1] at hj; injection hj with hj; rw [← hj, show off + j = off + j / 4 * 4 + 1 by omega]; exact c1
  · rw [show j = j / 4 * 4 + 2 by omega] at hj
    rw [g2] at hj; injection hj with hj; rw [← hj, show off + j = off + j / 4 * 4 + 2 by omega]; exact c2
  · rw [show j = j / 4 * 4 + 3 by omega] at hj
    rw [g3] at hj; injection hj with hj; rw [← hj, show off + j = off + j / 4 * 4 + 3 by omega]; exact c3
theorem ownsRow_formk {w : World} {b : Nat} {e : TypeId} {k : Nat} {v : Value} {n : Nat} {xs : List Value} (h : w.ownsRow b e k v n xs) : ∃ ad cap, v = .slice ad n cap := by
  rcases h.2 with ⟨h1, h2⟩ | ⟨g, cap, cur, hv, _⟩
  · exact ⟨none, 0, by rw [h1, h2]⟩
  · exact ⟨_, cap, hv⟩
section
variable {P : Program} {w : World}
/-- append of whatever a slice reads as, elements of more cells than one. -/
theorem wp_append_k {o : Oper} {a : Act} {K : Act → World → Prop} {Q : Exit → Act → World → Prop} (s x : Operand) (t : TypeId)
    (ho : o.op = .call { callee := .builtin .append, args := #[s, x], argTypes := #[t, t] })
    (base : Nat) (e : TypeId) (i : TypeInfo) (z : Value) (size bytes : Nat) (ht : P.underlying t = some (.slice e)) (hi : P.info? e = some i) (hz : i.zero = some z)
    (hsize : i.size = size) (hby : i.bytes = bytes) (hzs : z.cells.size = size) (hsz : 0 < size)
    (v : Value) (n : Nat) (xs : List Value) (hs : a.eval s = v) (hown : w.ownsRow base e size v n xs)
    (ad : Option Addr) (m c : Nat) (ys : List Value) (hx : a.eval x = .slice ad m c) (hl : ys.length = m * size) (hcells : ∀ p, ad = some p → ∀ j u, ys[j]? = some u → w.cell? (p.add j) = some u) (hnil : ad = none → m = 0 ∧ c = 0) (h1 : ∀ u ∈ ys, u.oneCell' = true)
    (tot : Nat) (hm : n + m = tot) (h63 : tot ≤ maxLen) (hbytes : tot * bytes ≤ 140737488355328) (hbase : base ≤ w.heap.size)
    (h : ∀ ad' cap w', w'.ownsRow base e size (.slice ad' tot cap) tot (xs ++ ys) → w.grownBy w' v.ownBlock → K (a.put o.dst (.slice ad' tot cap)) w') : o.wp P a w K Q := by
  have h' : ∀ v' w', w'.ownsRow base e size v' (n + m) (xs ++ ys) → w.grownBy w' v.ownBlock → K (a.put o.dst v') w' := by
    intro v' w' h2 h3
    obtain ⟨ad', cap, rfl⟩ := ownsRow_formk h2
    rw [hm] at h2 ⊢
    exact h ad' cap w' h2 h3
  clear h
  subst hm
  cases ad with
  | none =>
    obtain ⟨rfl, rfl⟩ := hnil rfl
    have hy : ys = [] := List.length_eq_zero_iff.1 (by rw [hl]; simp)
    subst hy
    have hrun := run_append_owned_none (P := P) (w := w) base t o.type e i size ht hi v n xs hown
    unfold Oper.wp
    simp [execOp, ho, resolve, invoke, builtin, hs, hx, hrun, Result.andThen]
    exact h' v w (by simpa using hown) ⟨rfl, rfl, rfl, Nat.le_refl _, fun _ _ _ => rfl⟩
  | some p =>
    exact wp_append_own w s x t ho base e i z size bytes ht hi hz hsize hby hzs hsz v n xs hs hown p m c ys hx hl (hcells p rfl) h1 h63 hbytes hbase (fun v' w' h2 h3 _ => h' v' w' h2 h3)
end
/-- append of rules onto a row of the call's own. -/
theorem wp_app_rules {w : World} {o : Oper} {a : Act} {K : Act → World → Prop} {Q : Exit → Act → World → Prop} (s x : Operand)
    (ho : o.op = .call { callee := .builtin .append, args := #[s, x], argTypes := #[36, 36] })
    (base : Nat) (okp ok2 : Nat → Prop) (v : Value) (xs : List RC) (L : List Rl) (hs : a.eval s = v) (h1 : OwnR okp w base v xs L)
    (sv : Value) (M : List Rl) (hx : a.eval x = sv) (h2 : RdsR ok2 w sv M) (hk : ∀ b, ok2 b → okp b) (hp : ∀ b, okp b → v.ownBlock ≠ some b) (tot : Nat) (htot : L.length + M.length = tot)
    (hbytes : tot * 56 ≤ 140737488355328) (hbase : base ≤ w.heap.size)
    (h : ∀ ad cap w' ys, OwnR okp w' base (.slice ad tot cap) (xs ++ ys) (L ++ M) → w.grownBy w' v.ownBlock → K (a.put o.dst (.slice ad tot cap)) w') : o.wp Tryz.prog a w K Q := by
  obtain ⟨i0, hi, hz0, hz1, hz2⟩ := info_parts infoR
  obtain ⟨ad, cap, rfl, _, _⟩ := h2.form
  obtain ⟨ys, hyl, hyc, hyr⟩ := rdsR_cells h2
  refine wp_append_k s x 36 ho base 47 i0 _ 4 56 Tryz.underlying36 hi hz0 hz1 hz2 rfl (by decide) v L.length (cellsR xs) hs h1.row ad M.length cap (cellsR ys) hx (by rw [cellsR_length, hyl]) hyc
    (fun e => by subst e; obtain ⟨e1, e2, e3⟩ := h2.nilcap; exact ⟨e2, e3⟩) (cellsR_one _) tot htot (by unfold maxLen; omega) hbytes hbase fun ad' cap' w' hown hg => h ad' cap' w' ys ⟨?_, ?_, ?_⟩ hg
  · rw [cellsR_append, List.length_append, htot]; exact hown
  · rw [List.length_append, List.length_append, h1.len, hyl]
  · have hbut : But (fun b => v.ownBlock = some b) w w' := ⟨hg.os, hg.tape, hg.output, hg.size, fun k hk hn => hg.block k hk (fun e => hn e.symm)⟩
    intro i h3 h4
    by_cases hlt : i < xs.length
    · rw [List.getElem_append_left hlt, List.getElem_append_left (by rw [← h1.len]; exact hlt)]
      exact (h1.rd i hlt (by rw [← h1.len]; exact hlt)).but hbut hp
    · have e1 : i - xs.length < ys.length := by simp at h3; omega
      rw [List.getElem_append_right (by omega), List.getElem_append_right (by rw [← h1.len]; omega)]
      have := (hyr (i - xs.length) e1 (by omega)).mono hk
      simp only [h1.len] at this ⊢
      exact this.but hbut hp
end Go.Proofs.YtlamhpiiikcpiaaGreatDoor
/-
  Walks: slices.Clone at rules; the sort of a row of rules.
-/
namespace Go.Proofs.YtlamhpiiikcpiaaGreatDoor
open Go.RowKit Go.Shelf Go.Lib Go.Sort
set_option linter.unusedVariables false
set_option linter.unusedSectionVars false
theorem OwnR.form {ok : Nat → Prop} {w : World} {base : Nat} {v : Value} {xs : List RC} {L : List Rl} (h : OwnR ok w base v xs L) : ∃ ad cap, v = .slice ad L.length cap := ownsRow_formk h.row
set_option maxHeartbeats 800000 in
set_option maxRecDepth 20000 in
theorem cloneR_any (ok : Nat → Prop) (v : Value) (L : List Rl) (w : World) (hr : RdsR ok w v L) (hn : L.length * 56 ≤ 140737488355328) :
    Calls Tryz.prog 51 #[v] w fun e w' => ∃ ad c xs, e = .returned (.slice ad L.length c) ∧ OwnR (fun b => ok b ∧ b < w.heap.size) w' w.heap.size (.slice ad L.length c) xs L ∧ Below w.heap.size w w' := by
  have HR := Lib.hid hr.lt
  obtain ⟨ad, cap, rfl, _, hcm⟩ := hr.form
  obtain ⟨len, hlen⟩ : ∃ len, len = L.length := ⟨_, rfl⟩
  rw [← hlen] at HR ⊢
  have HL := Lib.hid hlen
  have HN := Lib.hid hn
  clear hr hn hlen
  unfold maxLen at hcm
  cases ad with
  | none =>
    obtain ⟨e1, e2, e3⟩ := HR.out.nilcap
    subst e2 e3
    have hp := Lib.hid e1
    clear e1
    have hnn : ∀ W : World, (binOp .eql 36 (.slice none 0 0) (.slice none 0 0)).run Tryz.prog W = .ok (.bool true) W := fun W => Lib.run_eql_slice_nil W _ _ _ _ _ _ _ Tryz.underlying36
    go_enter Tryz.func51, Tryz.ntmps51
    go_wp2_with fail
    go_ret
    refine ⟨none, 0, [], rfl, ?_, Below.refl _ _⟩
    rw [hp.out]
    exact ownR_nil _ _ _
  | some a =>
    have hown : OwnR (fun b => ok b ∧ b < w.heap.size) (w.alloc (.cells #[] 47)) w.heap.size (.slice (some ⟨w.heap.size, 0, none⟩) 0 0) [] [] := ⟨lit0_rowE rfl (Nat.le_refl _), rfl, fun i h => absurd h (Nat.not_lt_zero _)⟩
    have HOW := Lib.hid hown
    have hb := (Below.refl w.heap.size w).alloc (Nat.le_refl _) (.cells #[] 47)
    have HR2 := Lib.hid (HR.out.below hb)
    have HB := Lib.hid hb
    clear hb hown
    have hnn : ∀ W : World, (binOp .eql 36 (.slice (some a) len cap) (.slice none 0 0)).run Tryz.prog W = .ok (.bool false) W := fun W => Lib.run_eql_slice_nil W _ _ _ _ _ _ _ Tryz.underlying36
    go_enter Tryz.func51, Tryz.ntmps51
    go_wp2_with (at_builtin; go_loud (refine wpList_plain rfl (fun _ hK => wp_app_rules (.tmp 5) (.tmp 6) rfl w.heap.size (fun b => ok b ∧ b < w.heap.size) _ _ [] [] rfl HOW.out _ L rfl HR2.out (fun _ h => h) (fun b hb e => by have h2 := hb.2; have e2 : w.heap.size = b := Option.some.inj e; omega) len (by have := HL.out; simp; omega) (by have := HL.out; have := HN.out; omega) (by simp) (fun ad2 cap2 w2 ys h2 hg => hK _ _ ?_))); have HO := Lib.hid h2; have HG := Lib.hid hg; clear h2 hg)
    go_ret
    have HG2 : Below w.heap.size w w2 := HB.out.grown HG.out (by simp) (fun k hk => by injection hk with hk; subst hk; exact Nat.le_refl _)
    exact ⟨ad2, cap2, _, rfl, HO.out, HG2⟩
/-! ### The sort -/
theorem heap_putRow_other {α : Type} [Inhabited α] (enc : α → Value) (w : World) (blk off : Nat) (d : Array α) (k : Nat) (hk : k ≠ blk) : (putRow enc w blk off d).heap[k]? = w.heap[k]? := by
  unfold putRow mapBlock
  simp only [Array.getElem?_modify]
  rw [if_neg (by omega)]
theorem swk_but {enc : RC → List Value} {k : Nat} {w0 W : World} {blk off : Nat} {dk : Array RC} (h : SWK enc k w0 blk off dk W) : But (fun b => b = blk) w0 W := by
  obtain ⟨n, os, rfl⟩ := h
  unfold sortWorldK
  have hs : (putRowK enc k (Sort.ahead w0 n) blk off dk).heap.size = w0.heap.size := by rw [size_putRowK]; rfl
  refine ⟨rfl, rfl, rfl, ?_, fun j hj hn => ?_⟩
  · rw [size_grow, hs]; exact Nat.le_add_right _ _
  · rw [heap_grow_old _ _ (by rw [hs]; exact hj)]
    unfold putRowK
    rw [heap_putRow_other _ _ _ _ _ _ hn]
    rfl
theorem rowProg : RowProg Tryz.prog 4 where
  mixed := by kernel_rfl
  t0 := Tryz.underlying0
  a0 := Tryz.isAgg0
  z0 := Tryz.sizeOf0
  v0 := Tryz.zeroValue0
  t3 := Tryz.underlying3
  a3 := Tryz.isAgg3
  z3 := Tryz.sizeOf3
  v3 := Tryz.zeroValue3
  t4 := Tryz.underlying4
  a4 := Tryz.isAgg4
  z4 := Tryz.sizeOf4
  v4 := Tryz.zeroValue4
  ts := Tryz.underlying36
  asl := Tryz.isAgg36
  zs := Tryz.sizeOf36
  vs := Tryz.zeroValue36
  tf := Tryz.underlying124
  af := Tryz.isAgg124
  zf := Tryz.sizeOf124
  vf := Tryz.zeroValue124
  tu := Tryz.underlying209
  au := Tryz.isAgg209
  zu := Tryz.sizeOf209
  vu := Tryz.zeroValue209
  aE := Tryz.isAgg47
  zE := Tryz.sizeOf47
  fSwap := Tryz.func164
  fRot := Tryz.func140
  fSym := Tryz.func120
  fStb := Tryz.func88
  fSort := Tryz.func53
theorem get_list (l : List RC) (i : Nat) (h : i < l.length) : l.toArray[i]! = l[i] := by
  rw [getElem!_pos l.toArray i (by simpa using h)]; simp
theorem flatK_get (l : List RC) (j : Nat) (h : j < l.length * 4) : (flatK encR 4 l.toArray)[j]! = (cellsR l)[j]'(by rw [cellsR_length]; exact h) := by
  rw [get_flatK encR 4 _ _ (by simpa using h), get_list l (j / 4) (by omega)]
  have hi : j / 4 < l.length := by omega
  obtain ⟨g0, g1, g2, g3⟩ := cellsR_get l (j / 4) hi
  have key : ∀ u, (cellsR l)[j]? = some u → (cellsR l)[j]'(by rw [cellsR_length]; exact h) = u := fun u hu => by
    rw [List.getElem?_eq_getElem (by rw [cellsR_length]; exact h)] at hu; exact Option.some.inj hu
  have hm : j % 4 = 0 ∨ j % 4 = 1 ∨ j % 4 = 2 ∨ j % 4 = 3 := by omega
  rcases hm with hm | hm | hm | hm
  · rw [key _ (by rw [← g0]; congr 1; omega), hm]; rfl
  · rw [key _ (by rw [← g1]; congr 1; omega), hm]; rfl
  · rw [key _ (by rw [← g2]; congr 1; omega), hm]; rfl
  · rw [key _ (by rw [← g3]; congr 1; omega), hm]; rfl
theorem OwnR.holds {ok : Nat → Prop} {w : World} {base g cap : Nat} {xs : List RC} {L : List Rl} (h : OwnR ok w base (.slice (some ⟨g, 0, none⟩) L.length cap) xs L) : HoldsK encR 4 w g 0 xs.toArray := by
  intro j hj
  have hj4 : j < xs.length * 4 := by simpa using hj
  have hjL : j < L.length * 4 := by rw [← h.len]; exact hj4
  rw [Nat.zero_add]
  refine ⟨?_, h.row.frozenAt j⟩
  rw [h.row.cellAt j hjL, flatK_get xs j hj4, List.getElem?_eq_getElem]
  rfl
theorem order_enters : ∀ args w, (callFunc 54 args).run Tryz.prog w = .ok (.enter 54 args) w := enters_of Tryz.func54 (by kernel_rfl) rfl
theorem order_lays (blk off size : Nat) (w : World) : CmpLays Tryz.prog 54 #[] encR 4 cfC blk off size w := by
  intro m os dk _ x y
  have := order_any x y (sortWorldK encR 4 w blk off m dk os) (cfC x y) rfl
  exact this
/-- The stable order of a row of rules of the call's own. -/
theorem sortRules {ok : Nat → Prop} {w : World} {base g cap : Nat} {xs : List RC} {L : List Rl} (h : OwnR ok w base (.slice (some ⟨g, 0, none⟩) L.length cap) xs L) (hok : ∀ b, ok b → b ≠ g) (hL : L.length < 2305843009213693952) :
    Calls Tryz.prog 53 #[.slice (some ⟨g, 0, none⟩) L.length cap, .func (.func 54) #[] #[]] w fun e w' => e = .returned (.tuple #[]) ∧ RdsR (fun b => b = g ∨ ok b) w' (.slice (some ⟨g, 0, none⟩) L.length cap) (St.isort Rp.aheadR L) ∧ But (fun b => b = g) w w' := by
  have hlt := (h.row.lt g rfl).2
  have R : RowK encR 4 w g 0 xs.toArray := ⟨encR_len, encR_one, h.holds, hlt⟩
  have hs := sortStable_w rowProg encR cfC 54 #[] g 0 cap L.length w xs h.len order_enters (order_lays _ _ _ _) R (by rw [ltOf_cfC]; exact swoC) hL
  rw [ltOf_cfC] at hs
  refine hs.mono ?_
  rintro e w' ⟨rfl, S⟩
  refine ⟨rfl, ?_, swk_but S⟩
  have hA : All2 (RdC ok w) xs L := All2.of_get h.len h.rd
  have hA2 := hA.isort (lt := aheadC) (lt' := Rp.aheadR) ahead_rdC
  have hlen : (St.isort aheadC xs).length = L.length := by rw [St.length_isort, h.len]
  have HH := S.holds hlt R.hH (by simp [St.length_isort])
  obtain ⟨⟨h1, h2⟩, h3, h4⟩ := h
  have hcap : L.length ≤ cap ∧ cap ≤ maxLen := by
    rcases h2 with ⟨h2, _⟩ | ⟨g', cap', cur, hv, _, _, hn, hc, _⟩
    · cases h2
    · injection hv with _ _ e3; subst e3; exact ⟨hn, hc⟩
  refine ⟨St.isort aheadC xs, some ⟨g, 0, none⟩, L.length, cap, rfl, by rw [St.length_isort], hlen, ⟨hcap.1, fun e => by cases e⟩, hcap.2, okV_some (.inl rfl), ?_, ?_⟩
  · intro i hi
    have hk : ∀ j, j < 4 → w'.cell? ⟨g, 0 + (i * 4 + j), none⟩ = some ((encR (St.isort aheadC xs)[i])[j]!) := fun j hj => by
      have := (HH (i * 4 + j) (by simp; omega)).1
      rw [this, get_flatK encR 4 _ _ (by simp; omega), show (i * 4 + j) / 4 = i by omega, show (i * 4 + j) % 4 = j by omega, get_list _ i hi]
      rfl
    exact ⟨g, 0, rfl, Nat.lt_of_lt_of_le hlt S.le, hk 0 (by omega), hk 1 (by omega), hk 2 (by omega), hk 3 (by omega)⟩
  · intro i hi hi'
    exact ((hA2.get i hi hi').but (swk_but S) hok).mono fun b hb => .inr hb
end Go.Proofs.YtlamhpiiikcpiaaGreatDoor
/-
  Walks: rules.Order.
-/
namespace Go.Proofs.YtlamhpiiikcpiaaGreatDoor
open Go.RowKit Go.Shelf Go.Lib Go.Sort
set_option linter.unusedVariables false
set_option linter.unusedSectionVars false
theorem ins_nil (fv : Value) (w : World) : Calls Tryz.prog 119 #[.slice none 0 0, .int .i64 0, .int .i64 0, fv] w fun e w' => e = .returned (.tuple #[]) ∧ w = w' := by
  go_enter Tryz.func119, Tryz.ntmps119
  go_wp2_with fail
  go_loop [8] (fun k => k = .int .i64 1) (fun k => 0)
  case atStart => rfl
  case round =>
    subst hrel
    go_wp2_with fail
    go_end0
    exact ⟨rfl, rfl⟩
theorem stable_nil (fv : Value) (w : World) : Calls Tryz.prog 88 #[.slice none 0 0, .int .i64 0, fv] w fun e w' => e = .returned (.tuple #[]) ∧ w = w' := by
  have HI := Lib.hid (fun W => ins_nil fv W)
  go_enter Tryz.func88, Tryz.ntmps88
  go_wp2_with fail
  go_loop [7, 8] (fun a b => a = .int .i64 0 ∧ b = .int .i64 20) (fun a b => 0)
  case atStart => exact ⟨rfl, rfl⟩
  case round =>
    obtain ⟨rfl, rfl⟩ := hrel
    go_wp2_with ((with_reducible refine (HI.out _).mono ?_); rintro e w' ⟨rfl, rfl⟩)
    go_loop [6] (fun a => a = .int .i64 20) (fun a => 0)
    case atStart => rfl
    case round =>
      subst hrel
      go_wp2_with fail
      go_end0
      exact ⟨rfl, rfl⟩
theorem sort_nil (fv : Value) (w : World) : Calls Tryz.prog 53 #[.slice none 0 0, fv] w fun e w' => e = .returned (.tuple #[]) ∧ w = w' := by
  have HI := Lib.hid (fun W => stable_nil fv W)
  go_enter Tryz.func53, Tryz.ntmps53
  go_wp2_with fail
  refine (HI.out _).mono ?_
  rintro e w2 ⟨rfl, rfl⟩
  go_wp2_with fail
  go_end0
  exact ⟨rfl, rfl⟩
/-- Any row of rules, empty ones too. -/
theorem sortRules_any {ok : Nat → Prop} {w : World} {base cap : Nat} {ad : Option Addr} {xs : List RC} {L : List Rl} (h : OwnR ok w base (.slice ad L.length cap) xs L) (hok : ∀ g, (Value.slice ad L.length cap).ownBlock = some g → ¬ ok g) (hL : L.length < 2305843009213693952) :
    Calls Tryz.prog 53 #[.slice ad L.length cap, .func (.func 54) #[] #[]] w fun e w' => e = .returned (.tuple #[]) ∧ RdsR (fun b => base ≤ b ∨ ok b) w' (.slice ad L.length cap) (St.isort Rp.aheadR L) ∧ Below base w w' := by
  rcases h.row.2 with ⟨h1, h2⟩ | ⟨g, cap', cur, hv, hg, hr⟩
  · injection h1 with e1 e2 e3
    subst e1 e3
    rw [e2]
    have : L = [] := List.length_eq_zero_iff.1 e2
    subst this
    refine (sort_nil _ w).mono ?_
    rintro e w' ⟨rfl, rfl⟩
    exact ⟨rfl, rdsR_nil _ _, Below.refl _ _⟩
  · injection hv with e1 e2 e3
    subst e1 e3
    refine (sortRules h (fun b hb e => hok g rfl (by rw [← e]; exact hb)) hL).mono ?_
    rintro e w' ⟨rfl, hr', hb⟩
    have hlt := (h.row.lt g rfl).2
    exact ⟨rfl, hr'.mono (fun b hb => hb.imp (fun e => by omega) id), hb.toBelow (by omega) (fun k hk => by omega)⟩
theorem cellsR_set {l : List RC} {i : Nat} (h : i < l.length) (a : Option Addr) (n c : Nat) : (cellsR l).set (i * 4 + 3) (.slice a n c) = cellsR (l.set i { l[i] with a := a, n := n, c := c }) := by
  induction l generalizing i with
  | nil => exact absurd h (Nat.not_lt_zero _)
  | cons x l ih =>
    cases i with
    | zero => simp [cellsR_cons, encR]
    | succ i =>
      have h' : i < l.length := by simpa using h
      have := ih h'
      rw [cellsR_cons, List.set_append_right _ _ (by rw [encR_len]; omega), encR_len, show (i + 1) * 4 + 3 - 4 = i * 4 + 3 by omega, this]
      simp [cellsR_cons]
set_option maxHeartbeats 1600000 in
set_option maxRecDepth 20000 in
theorem order_rules (ok : Nat → Prop) (v : Value) (L : List Rl) (w : World) (hr : RdsR ok w v L) (hn : L.length * 56 ≤ 140737488355328) :
    Calls Tryz.prog 27 #[v] w fun e w' => ∃ v', e = .returned v' ∧ RdsR (fun b => w.heap.size ≤ b) w' v' (St.isort Rp.aheadR L) ∧ Below w.heap.size w w' := by
  have HR := Lib.hid hr
  have HCl := Lib.hid (fun W h => cloneR_any ok v L W h hn)
  obtain ⟨n, hnl⟩ : ∃ n, n = L.length := ⟨_, rfl⟩
  have HN : Hid (n = L.length) := hnl
  have hnb : n * 56 ≤ 140737488355328 := by rw [hnl]; exact hn
  have HSo := Lib.hid (fun (ok : Nat → Prop) (w : World) (base cap : Nat) (ad : Option Addr) (xs : List RC) (h : OwnR ok w base (.slice ad L.length cap) xs L) (hok : ∀ g, (Value.slice ad L.length cap).ownBlock = some g → ¬ ok g) => sortRules_any h hok (show L.length < 2305843009213693952 by omega))
  rw [← hnl] at HCl HSo
  obtain ⟨ad0, cap0, rfl, _, _⟩ := hr.form
  clear hr hn hnl
  go_enter Tryz.func27, Tryz.ntmps27
  go_wp2_with fail
  refine (HCl.out w HR.out).mono ?_
  rintro e w1 ⟨ad, c, xs, rfl, hown, hb1⟩
  have HO1 := Lib.hid hown
  have HB1 := Lib.hid hb1
  clear hown hb1
  go_wp2_with fail
  have hgl := HO1.out.row.lt
  have HGL := Lib.hid hgl
  clear hgl
  go_loopw [4, 9] (fun s4 s9 wr => ∃ x4 : Value, ∃ i : Nat, ∃ ys : List RC, s4 = x4 ∧ s9 = .int .i64 i ∧ i ≤ n ∧ Hid (wr.ownsRow w.heap.size 47 4 (.slice ad n c) n (cellsR ys)) ∧ Hid (ys.length = n) ∧
    Hid (∀ j (h : j < ys.length) (h' : j < L.length), RdC (fun b => (j < i ∧ w1.heap.size ≤ b) ∨ (i ≤ j ∧ ok b ∧ b < w.heap.size)) wr ys[j] L[j]) ∧ Hid (Below w.heap.size w wr) ∧ Hid (w1.heap.size ≤ wr.heap.size)) (fun _ s9 _ => n - (intOf s9).toNat)
  case atStart => exact ⟨_, 0, xs, rfl, rfl, Nat.zero_le _, (by have := HO1.out.row; rw [← HN.out] at this; exact this : w1.ownsRow w.heap.size 47 4 (.slice ad n c) n (cellsR xs)), HO1.out.len.trans HN.out.symm, (fun j h h' => (HO1.out.rd j h h').mono (fun b hb => .inr ⟨Nat.zero_le _, hb⟩) : ∀ j (h : j < xs.length) (h' : j < L.length), RdC (fun b => (j < 0 ∧ w1.heap.size ≤ b) ∨ (0 ≤ j ∧ ok b ∧ b < w.heap.size)) w1 xs[j] L[j]), HB1, Nat.le_refl _⟩
  case round =>
    obtain ⟨wo, rfl⟩ : ∃ wo : World, wo = wr := ⟨wr, rfl⟩
    obtain ⟨x4, i, ys, rfl, rfl, hin, HOw, HYl, HRd, HBw, HSz⟩ := hrel
    by_cases hlt : i < n
    · obtain ⟨g, cp, hgv, _, _⟩ := HOw.out.form (by omega)
      injection hgv with e1 e2 e3
      subst e1 e3
      have hiy : i < ys.length := by rw [HYl.out]; exact hlt
      have hiL : i < L.length := by rw [← HN.out]; exact hlt
      have hcc : wo.cell? ⟨g, i * 4 + 2 + 1, none⟩ = some (.slice ys[i].a ys[i].n ys[i].c) := by
        rw [HOw.out.cellAt (i * 4 + 2 + 1) (by omega)]; exact (cellsR_get ys i hiy).2.2.2
      have hrd := HRd.out i hiy hiL
      have HSs := Lib.hid hrd.s.1
      have hpn := hrd.z.n
      have HCS := Lib.hid (fun W (hq : RdsS W (.slice ys[i].a ys[i].n ys[i].c) L[i].ps) => cloneS_any _ _ W hq hpn)
      have HYI := Lib.hid (show ys[i] = ys[i] from rfl)
      clear hrd hpn e2
      go_wp2_with fail
      refine (HCS.out wo HSs.out).mono ?_
      rintro e w2 ⟨ad2, c2, rfl, hrd2, hb2⟩
      have hiL : i < L.length := by rw [← HN.out]; exact hlt
      have how2 := ownsRow_below HOw.out hb2
      have hcc2 : w2.cell? ⟨g, i * 4 + 2 + 1, none⟩ = some (.slice ys[i].a ys[i].n ys[i].c) := by
        rw [how2.cellAt (i * 4 + 2 + 1) (by omega)]; exact (cellsR_get ys i hiy).2.2.2
      have hfz2 : w2.frozen? ⟨g, i * 4 + 2 + 1, none⟩ = false := how2.frozenAt _
      have hst := how2.stored (i * 4 + 3) (.slice ad2 L[i].ps.length c2)
      have hgw := HGL.out g rfl
      have HNew : Hid ((w2.setCell ⟨g, i * 4 + 2 + 1, none⟩ (.slice ad2 L[i].ps.length c2)).ownsRow w.heap.size 47 4 (.slice (some ⟨g, 0, none⟩) n c) n (cellsR (ys.set i { ys[i] with a := ad2, n := L[i].ps.length, c := c2 }))) := by
        have := hst.1
        rw [cellsR_set hiy] at this
        exact this
      have hbut : But (fun b => b = g) w2 (w2.setCell ⟨g, i * 4 + 2 + 1, none⟩ (.slice ad2 L[i].ps.length c2)) := But.set (S := fun b => b = g) (a := ⟨g, i * 4 + 2 + 1, none⟩) rfl _
      have HRd2 : Hid (∀ j (h : j < (ys.set i { ys[i] with a := ad2, n := L[i].ps.length, c := c2 }).length) (h' : j < L.length), RdC (fun b => (j < i + 1 ∧ w1.heap.size ≤ b) ∨ (i + 1 ≤ j ∧ ok b ∧ b < w.heap.size)) (w2.setCell ⟨g, i * 4 + 2 + 1, none⟩ (.slice ad2 L[i].ps.length c2)) (ys.set i { ys[i] with a := ad2, n := L[i].ps.length, c := c2 })[j] L[j]) := by
        intro j h h'
        have h0 : j < ys.length := by simpa using h
        by_cases hji : j = i
        · subst hji
          rw [List.getElem_set_self]
          have hrd := HRd.out j h0 h'
          refine ⟨hrd.p, hrd.m, hrd.k, ?_, hrd.z⟩
          refine (hrd2.but hbut (fun b hb e => ?_)).mono (fun b hb => .inl ⟨by omega, by have := HSz.out; omega⟩)
          have := HSz.out
          omega
        · rw [List.getElem_set_ne (fun e => hji e.symm)]
          have hrd := (HRd.out j h0 h').below hb2
          refine (hrd.but hbut (fun b hb e => ?_)).mono (fun b hb => hb.imp (fun h => ⟨by omega, h.2⟩) (fun h => ⟨by omega, h.2⟩))
          rcases hb with hb | hb <;> omega
      have HBw2 : Hid (Below w.heap.size w (w2.setCell ⟨g, i * 4 + 2 + 1, none⟩ (.slice ad2 L[i].ps.length c2))) := (HBw.out.trans (hb2.mono HBw.out.size)).setCell hgw.1 _
      have HSz2 : Hid (w1.heap.size ≤ (w2.setCell ⟨g, i * 4 + 2 + 1, none⟩ (.slice ad2 L[i].ps.length c2)).heap.size) := by
        have h1 := HSz.out
        have h2 := hb2.size
        have h3 := hbut.size
        show _ ≤ _
        omega
      have HYl2 : Hid ((ys.set i { ys[i] with a := ad2, n := L[i].ps.length, c := c2 }).length = n) := by show _ = _; rw [List.length_set]; exact HYl.out
      clear hrd2 hb2 how2 hst hbut hgw hcc
      go_wp2_with fail
      go_roundw
      case rel => exact ⟨_, i + 1, _, rfl, by first | rfl | go_num, by omega, HNew, HYl2, HRd2, HBw2, HSz2⟩
      case measure => simp [intOf]; omega
    · have hin' : i = n := by omega
      have HRd3 : Hid (∀ j (h : j < ys.length) (h' : j < L.length), RdC (fun b => w1.heap.size ≤ b) wo ys[j] L[j]) := fun j h h' => (HRd.out j h h').mono (fun b hb => by
        have := HN.out
        rcases hb with hb | hb
        · exact hb.2
        · omega)
      have hO : OwnR (fun b => w1.heap.size ≤ b) wo w.heap.size (.slice ad n c) ys L := ⟨by rw [← HN.out]; exact HOw.out, HYl.out.trans HN.out, HRd3.out⟩
      have HS1 := Lib.hid (HSo.out _ _ _ _ _ _ hO (fun g hg h => by have := (HGL.out g hg).2; omega))
      clear hO hin'
      go_wp2_with fail
      refine HS1.out.mono ?_
      rintro e w3 ⟨rfl, hr3, hb3⟩
      have HB3 : Hid (Below w.heap.size w w3) := HBw.out.trans hb3
      have HR3 := Lib.hid (hr3.mono (ok' := fun b => w.heap.size ≤ b) (fun b hb => by have := HB1.out.size; rcases hb with hb | hb <;> omega))
      clear hr3 hb3
      go_wp2_with fail
      go_ret
      exact ⟨_, rfl, HR3.out, HB3.out⟩
end Go.Proofs.YtlamhpiiikcpiaaGreatDoor
/-
  Walks: the reference's Ahead; laws for its Order.
-/
namespace Go.Proofs.YtlamhpiiikcpiaaGreatDoor
open Go.RowKit Go.Shelf Go.Lib Go.Sort
set_option linter.unusedVariables false
set_option linter.unusedSectionVars false
/-- append of rules, told by their cells, onto a row of the call's own. -/
theorem wp_app_cells {w : World} {o : Oper} {a : Act} {K : Act → World → Prop} {Q : Exit → Act → World → Prop} (s x : Operand)
    (ho : o.op = .call { callee := .builtin .append, args := #[s, x], argTypes := #[36, 36] })
    (base : Nat) (okp : Nat → Prop) (v : Value) (xs : List RC) (L : List Rl) (hs : a.eval s = v) (h1 : OwnR okp w base v xs L)
    (ad : Option Addr) (m c : Nat) (ys : List RC) (M : List Rl) (hx : a.eval x = .slice ad m c) (hm : m = M.length) (hyl : ys.length = M.length) (hyc : ∀ p, ad = some p → ∀ j u, (cellsR ys)[j]? = some u → w.cell? (p.add j) = some u)
    (hnil : ad = none → m = 0 ∧ c = 0) (hyr : ∀ i (h : i < ys.length) (h' : i < M.length), RdC okp w ys[i] M[i]) (hp : ∀ b, okp b → v.ownBlock ≠ some b) (tot : Nat) (htot : L.length + M.length = tot)
    (hbytes : tot * 56 ≤ 140737488355328) (hbase : base ≤ w.heap.size)
    (h : ∀ ad cap w', OwnR okp w' base (.slice ad tot cap) (xs ++ ys) (L ++ M) → w.grownBy w' v.ownBlock → K (a.put o.dst (.slice ad tot cap)) w') : o.wp Tryz.prog a w K Q := by
  subst hm
  obtain ⟨i0, hi, hz0, hz1, hz2⟩ := info_parts infoR
  refine wp_append_k s x 36 ho base 47 i0 _ 4 56 Tryz.underlying36 hi hz0 hz1 hz2 rfl (by decide) v L.length (cellsR xs) hs h1.row ad M.length c (cellsR ys) hx (by rw [cellsR_length, hyl]) hyc
    hnil (cellsR_one _) tot htot (by unfold maxLen; omega) hbytes hbase fun ad' cap' w' hown hg => h ad' cap' w' ⟨?_, ?_, ?_⟩ hg
  · rw [cellsR_append, List.length_append, htot]; exact hown
  · rw [List.length_append, List.length_append, h1.len, hyl]
  · have hbut : But (fun b => v.ownBlock = some b) w w' := ⟨hg.os, hg.tape, hg.output, hg.size, fun k hk hn => hg.block k hk (fun e => hn e.symm)⟩
    intro i h3 h4
    by_cases hlt : i < xs.length
    · rw [List.getElem_append_left hlt, List.getElem_append_left (by rw [← h1.len]; exact hlt)]
      exact (h1.rd i hlt (by rw [← h1.len]; exact hlt)).but hbut hp
    · have e1 : i - xs.length < ys.length := by simp at h3; omega
      rw [List.getElem_append_right (by omega), List.getElem_append_right (by rw [← h1.len]; omega)]
      have := hyr (i - xs.length) e1 (by omega)
      simp only [h1.len] at this ⊢
      exact this.but hbut hp
/-- At a step of a region that draws its order. -/
theorem step_app_cells {w : World} {ops : Array Oper} {o : Oper} {a : Act} {K : Act → World → Prop} {Q : Exit → Act → World → Prop} {E : Prop} (hgd : o.guard = none) (s x : Operand)
    (ho : o.op = .call { callee := .builtin .append, args := #[s, x], argTypes := #[36, 36] })
    (base : Nat) (okp : Nat → Prop) (v : Value) (xs : List RC) (L : List Rl) (hs : a.eval s = v) (h1 : OwnR okp w base v xs L)
    (ad : Option Addr) (m c : Nat) (ys : List RC) (M : List Rl) (hx : a.eval x = .slice ad m c) (hm : m = M.length) (hyl : ys.length = M.length) (hyc : ∀ p, ad = some p → ∀ j u, (cellsR ys)[j]? = some u → w.cell? (p.add j) = some u)
    (hnil : ad = none → m = 0 ∧ c = 0) (hyr : ∀ i (h : i < ys.length) (h' : i < M.length), RdC okp w ys[i] M[i]) (hp : ∀ b, okp b → v.ownBlock ≠ some b) (tot : Nat) (htot : L.length + M.length = tot)
    (hbytes : tot * 56 ≤ 140737488355328) (hbase : base ≤ w.heap.size)
    (h : ∀ ad cap w', OwnR okp w' base (.slice ad tot cap) (xs ++ ys) (L ++ M) → w.grownBy w' v.ownBlock → K (a.put o.dst (.slice ad tot cap)) w') :
    if Region.wanted o (yielded ops a.tmps) = true then Oper.wp Tryz.prog o a w K Q else E := by
  have hw : Region.wanted o (yielded ops a.tmps) = true := by simp [Region.wanted, hgd]
  rw [if_pos hw]
  exact wp_app_cells s x ho base okp v xs L hs h1 ad m c ys M hx hm hyl hyc hnil hyr hp tot htot hbytes hbase h
/-- The cells of a new row of one rule. -/
theorem one_cells {W : World} {g : Nat} {x : RC} {e : TypeId} (h : W.heap[g]? = some (.cells #[.int .i64 x.p, .string x.m, .int .i64 x.k, .slice x.a x.n x.c] e (0, 0))) : ∀ p, some (⟨g, 0, none⟩ : Addr) = some p → ∀ j u, (cellsR [x])[j]? = some u → W.cell? (p.add j) = some u := by
  intro p hp j u hj
  injection hp with hp
  subst hp
  have hc : W.cell? ⟨g, j, none⟩ = (#[Value.int .i64 x.p, .string x.m, .int .i64 x.k, .slice x.a x.n x.c] : Array Value)[j]? := by simp [World.cell?, h]
  rw [Addr.add_lit, Nat.zero_add, hc]
  simpa [cellsR, encR] using hj
theorem one_rdC {ok : Nat → Prop} {W : World} {x : RC} {r : Rl} (h : RdC ok W x r) : ∀ i (h : i < [x].length) (h' : i < [r].length), RdC ok W [x][i] [r][i] := by
  intro i h1 h2
  have : i = 0 := by simp at h1; omega
  subst this
  exact h
set_option maxHeartbeats 800000 in
set_option maxRecDepth 20000 in
theorem rAhead_any (x y : RC) (w : World) (q : Bool) (hq : aheadC x y = q) :
    Calls Tryz.prog 59 #[x.v, y.v] w fun e w' => e = .returned (.bool q) ∧ Grn w w' := by
  obtain ⟨p, m, k, a, n, c⟩ := x
  obtain ⟨p2, m2, k2, a2, n2, c2⟩ := y
  unfold aheadC Rp.aheadK at hq
  simp only at hq
  have HG : Hid (Grn w ((w.alloc (.cells #[.int .i64 p, .string m, .int .i64 k, .slice a n c] 47)).alloc (.cells #[.int .i64 p2, .string m2, .int .i64 k2, .slice a2 n2 c2] 47))) := ((Grn.refl w).alloc _).alloc _
  unfold RC.v
  simp only
  by_cases h : p = p2
  · rw [if_pos h] at hq
    unfold Rp.lessB at hq
    have hb : (p != p2) = false := by simpa using h
    clear h
    go_enter Tryz.func59, Tryz.ntmps59
    go_wp2_with fail
    go_ret
    exact ⟨by first | rfl | exact ret_bool hq, HG.out⟩
  · rw [if_neg h] at hq
    have hb : (p != p2) = true := by simpa using h
    clear h
    go_enter Tryz.func59, Tryz.ntmps59
    go_wp2_with fail
    go_ret
    exact ⟨by first | rfl | exact ret_bool hq, HG.out⟩
end Go.Proofs.YtlamhpiiikcpiaaGreatDoor
