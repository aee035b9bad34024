/-
  Walks over package cube: cut.
-/
import Derived.Deep.RegionHeld3
import Derived.Deep.AppendLies
import Derived.Test.YtlamhpiiikcpiaaGreatDoorCubeE
namespace Go.Proofs.YtlamhpiiikcpiaaGreatDoor
open Go.RowKit

/-- A list of bytes as a string. -/
abbrev bs (l : List UInt8) : ByteArray := ⟨l.toArray⟩
/-- Lists of bytes as strings' values. -/
abbrev vs (L : List (List UInt8)) : List Value := L.map fun l => Value.string (bs l)

theorem info_string : (Tryz.prog.info? 9).map (fun i => (i.zero, i.size, i.bytes)) = some (some (.string ⟨#[]⟩), 1, 16) := by kernel_rfl

theorem getD_of (a : ByteArray) (n : Nat) (h : n < a.size) : a.data.toList.getD n 0 = a[n] := by
  rw [List.getD_eq_getElem?_getD, List.getElem?_eq_getElem (by simpa using h)]; rfl

theorem cutAt_yes (a b m : ByteArray) (n : Nat) (h1 : n < a.size) (h2 : n < b.size) (ha : a[n] = 120) (hb : b[n] ≠ 120) (d : UInt8) (hd : Cb.other b[n] = d) :
    Cb.cutAt a.data.toList b.data.toList m.data.toList n = some ((m.extract 0 n ++ ⟨#[d]⟩ ++ a.extract (n + 1) a.size).data.toList) := by
  unfold Cb.cutAt
  rw [getD_of a n h1, getD_of b n h2, ha, hd]
  have hb' : (b[n] != 120) = true := by simpa using hb
  rw [hb']
  simp
  rw [List.take_of_length_le (by simp)]

theorem cutAt_no (a b m : List UInt8) (n : Nat) (h : ¬ (a.getD n 0 = 120 ∧ b.getD n 0 ≠ 120)) : Cb.cutAt a b m n = none := by
  unfold Cb.cutAt
  rw [if_neg (by simpa using h)]

theorem row_step {B e : Nat} {W wr w1 : World} {v : Value} {L L' : List (List UInt8)} {part : ByteArray} {X : Obj} {gg cap : Nat} (hbw : Below B W wr) (hB : B ≤ wr.heap.size) (hown : wr.ownsRow B e 1 v L.length (vs L))
    (hown1 : w1.ownsRow B e 1 (.slice (some ⟨gg, 0, none⟩) (L.length + 1) cap) (L.length + 1) (vs L ++ [.string part]))
    (hgrow : (wr.alloc X).drew.grownBy w1 v.ownBlock) (hL : L' = L ++ [part.data.toList]) :
    Below B W w1 ∧ w1.ownsRow B e 1 (.slice (some ⟨gg, 0, none⟩) (L.length + 1) cap) L'.length (vs L') := by
  refine ⟨((hbw.alloc hB X).drew).grown hgrow (by simp; omega) (fun k hk => (hown.lt k hk).1), ?_⟩
  subst hL
  simpa [vs, bs] using hown1

set_option maxHeartbeats 1000000 in
set_option maxRecDepth 20000 in
theorem cut_yes (a b m : ByteArray) (w : World) (hb : Hid (b.size = a.size)) (hms : Hid (m.size = a.size)) (ha : a.size ≤ 128) (hm : Cb.meet a.data.toList b.data.toList = some m.data.toList) :
    Calls Tryz.prog 68 #[.string a, .string b] w fun e w' => ∃ v, e = .returned v ∧ w'.ownsRow w.heap.size 9 1 v (Cb.cut a.data.toList b.data.toList).length (vs (Cb.cut a.data.toList b.data.toList)) ∧ Below w.heap.size w w' := by
  have HC : Hid (Cb.cut a.data.toList b.data.toList = Cb.cutTo a.data.toList b.data.toList m.data.toList a.size) := by unfold Hid Cb.cut; rw [hm]; simp
  have HM := Lib.hid hm
  clear hm
  rw [HC.out]
  obtain ⟨i0, hf0, hf1, hf2, hf3⟩ := info_parts info_string
  generalize hR : (fun (e : Ending) (w' : World) => _) = R
  have HR := Lib.hid hR
  clear hR
  go_enter Tryz.func68, Tryz.ntmps68
  go_wp2_with fail
  refine (meet_yes _ hb.out (by unfold maxLen; omega) HM.out).mono ?_
  rintro e w1 ⟨rfl, hb1⟩
  go_wp2_with fail
  go_loopw [7, 8, 9, 22] (fun v _ _ k wr => ∃ n : Nat, n ≤ a.size ∧ k = .int .i64 n ∧ Hid (Below w.heap.size w wr) ∧
    Hid (wr.ownsRow w.heap.size 9 1 v (Cb.cutTo a.data.toList b.data.toList m.data.toList n).length (vs (Cb.cutTo a.data.toList b.data.toList m.data.toList n)))) (fun _ _ _ k _ => a.size - (intOf k).toNat)
  case atStart => exact ⟨0, Nat.zero_le _, rfl, hb1, World.ownsRow_nil _ _ _ _⟩
  case round =>
    obtain ⟨n, hn, rfl, hbw, hown⟩ := hrel
    have hlw := hbw.out.size
    have hcl := Cb.cutTo_len a.data.toList b.data.toList m.data.toList n
    by_cases hlt : n < a.size
    · have hltb : n < b.size := by have := hb.out; omega
      have hltm : n ≤ m.size := by have := hms.out; omega
      by_cases hx : a[n] = 120
      · have hx1 : (((a[n].toNat : Nat) : Int) == 120) = true := by rw [hx]; rfl
        by_cases hy : b[n]'hltb = 120
        · have hy1 : (((b[n].toNat : Nat) : Int) == 120) = true := by rw [hy]; rfl
          have hy2 : (((b[n].toNat : Nat) : Int) != 120) = false := by rw [bne, hy1]; rfl
          have hno : Hid (Cb.cutTo a.data.toList b.data.toList m.data.toList (n + 1) = Cb.cutTo a.data.toList b.data.toList m.data.toList n) := by
            unfold Hid; rw [Cb.cutTo_succ, cutAt_no _ _ _ _ (by rw [getD_of b n hltb]; exact fun h => h.2 hy)]; simp
          clear hx hy
          go_wp2_with fail
          go_roundw
          case rel => exact ⟨n + 1, by omega, by go_num, hbw, by rw [hno.out]; exact hown⟩
          case measure => simp [intOf]; omega
        · have hy1 : (((b[n].toNat : Nat) : Int) == 120) = false := by rw [show (120 : Int) = ((120 : UInt8).toNat : Int) from rfl, u8_eq]; simpa using hy
          have hy2 : (((b[n].toNat : Nat) : Int) != 120) = true := by rw [bne, hy1]; rfl
          have HXY : Hid (a[n] = 120 ∧ b[n] ≠ 120) := ⟨hx, hy⟩
          clear hx hy
          by_cases hz : b[n]'hltb = 49
          · have hz1 : (((b[n].toNat : Nat) : Int) == 49) = true := by rw [hz]; rfl
            have HZ := Lib.hid hz
            have hs1 : min n m.size = n := by omega
            have hs3 : ¬ (9223372036854775807 < n + 1) := by omega
            have hs4 : ¬ (9223372036854775807 < n + 1 + (a.size - (n + 1))) := by omega
            have hi0 : (0 : Int) ≤ (n : Int) := by omega
            have hi1 : (n : Int) ≤ (m.size : Int) := by omega
            have hi2 : (n : Int) + 1 ≤ (a.size : Int) := by omega
            have hi3 : (0 : Int) ≤ (n : Int) + 1 := by omega
            have hi4 : ((n : Int) + 1).toNat = n + 1 := by omega
            have hi5 : IntKind.i64.wrap ((n : Int) + 1) = (n : Int) + 1 := IntWalk.i64_in _ (by omega)
            clear hz
            go_wp2_with fail
            go_region_held3 (fun _ => True) (trivial)
              ((refine step_append_lies _ (by rfl) _ _ _ (by rfl) w.heap.size 9 i0 _ 1 16 Tryz.underlying43 hf0 hf1 hf2 hf3 rfl (by omega) u7 _ _ (by rfl) ((hown.out.alloc _).drew) ⟨wr.heap.size, 0, none⟩ 1 1 [.string (m.extract 0 n ++ ⟨#[48]⟩ ++ a.extract (n + 1) a.size)] (by rfl) (by rfl) (World.news_of_block (cs := #[.string (m.extract 0 n ++ ⟨#[48]⟩ ++ a.extract (n + 1) a.size)]) (t := 9) (fr := (0, 0)) (heap_alloc_new wr _)) (by simp [Value.oneCell']) (by omega) (by unfold maxLen; omega) (by omega) (by simp; omega) (wr.heap.size + 1) (by simp) ?_; intro gg cap w1 hown1 hgrow hat hlt1))
            have hoth : Cb.other b[n] = 48 := by rw [HZ.out]; rfl
            have hst := Lib.hid (row_step (L' := Cb.cutTo a.data.toList b.data.toList m.data.toList (n + 1)) hbw.out (by omega) hown.out hown1 hgrow (by rw [Cb.cutTo_succ, cutAt_yes a b m n hlt hltb HXY.out.1 HXY.out.2 48 hoth]; rfl))
            clear hown1 hgrow hat hlt1 hoth hs3 hs4 hi4 hi5
            go_wp2_with fail
            go_roundw
            case rel => exact ⟨n + 1, by omega, by go_num, hst.out.1, hst.out.2⟩
            case measure => simp [intOf]; omega
          · have hz1 : (((b[n].toNat : Nat) : Int) == 49) = false := by rw [show (49 : Int) = ((49 : UInt8).toNat : Int) from rfl, u8_eq]; simpa using hz
            have HZ := Lib.hid hz
            have hs1 : min n m.size = n := by omega
            have hs3 : ¬ (9223372036854775807 < n + 1) := by omega
            have hs4 : ¬ (9223372036854775807 < n + 1 + (a.size - (n + 1))) := by omega
            have hi0 : (0 : Int) ≤ (n : Int) := by omega
            have hi1 : (n : Int) ≤ (m.size : Int) := by omega
            have hi2 : (n : Int) + 1 ≤ (a.size : Int) := by omega
            have hi3 : (0 : Int) ≤ (n : Int) + 1 := by omega
            have hi4 : ((n : Int) + 1).toNat = n + 1 := by omega
            have hi5 : IntKind.i64.wrap ((n : Int) + 1) = (n : Int) + 1 := IntWalk.i64_in _ (by omega)
            clear hz
            go_wp2_with fail
            go_region_held3 (fun _ => True) (trivial)
              ((refine step_append_lies _ (by rfl) _ _ _ (by rfl) w.heap.size 9 i0 _ 1 16 Tryz.underlying43 hf0 hf1 hf2 hf3 rfl (by omega) u7 _ _ (by rfl) ((hown.out.alloc _).drew) ⟨wr.heap.size, 0, none⟩ 1 1 [.string (m.extract 0 n ++ ⟨#[49]⟩ ++ a.extract (n + 1) a.size)] (by rfl) (by rfl) (World.news_of_block (cs := #[.string (m.extract 0 n ++ ⟨#[49]⟩ ++ a.extract (n + 1) a.size)]) (t := 9) (fr := (0, 0)) (heap_alloc_new wr _)) (by simp [Value.oneCell']) (by omega) (by unfold maxLen; omega) (by omega) (by simp; omega) (wr.heap.size + 1) (by simp) ?_; intro gg cap w1 hown1 hgrow hat hlt1))
            have hoth : Cb.other b[n] = 49 := by unfold Cb.other; rw [if_neg (by simpa using HZ.out)]
            have hst := Lib.hid (row_step (L' := Cb.cutTo a.data.toList b.data.toList m.data.toList (n + 1)) hbw.out (by omega) hown.out hown1 hgrow (by rw [Cb.cutTo_succ, cutAt_yes a b m n hlt hltb HXY.out.1 HXY.out.2 49 hoth]; rfl))
            clear hown1 hgrow hat hlt1 hoth hs3 hs4 hi4 hi5
            go_wp2_with fail
            go_roundw
            case rel => exact ⟨n + 1, by omega, by go_num, hst.out.1, hst.out.2⟩
            case measure => simp [intOf]; omega
      · have hx1 : (((a[n].toNat : Nat) : Int) == 120) = false := by rw [show (120 : Int) = ((120 : UInt8).toNat : Int) from rfl, u8_eq]; simpa using hx
        have hno : Hid (Cb.cutTo a.data.toList b.data.toList m.data.toList (n + 1) = Cb.cutTo a.data.toList b.data.toList m.data.toList n) := by
          unfold Hid; rw [Cb.cutTo_succ, cutAt_no _ _ _ _ (by rw [getD_of a n hlt]; exact fun h => hx h.1)]; simp
        clear hx
        go_wp2_with fail
        go_roundw
        case rel => exact ⟨n + 1, by omega, by go_num, hbw, by rw [hno.out]; exact hown⟩
        case measure => simp [intOf]; omega
    · have hne : n = a.size := by omega
      have HE := Lib.hid hne
      clear hne
      go_wp2_with fail
      rw [← HR.out]
      have h := hown.out
      rw [HE.out] at h
      exact ⟨u7, rfl, h, hbw.out⟩

set_option maxHeartbeats 400000 in
set_option maxRecDepth 20000 in
theorem cut_no (a b : ByteArray) (w : World) (hb : Hid (b.size = a.size)) (ha : a.size ≤ 128) (hm : Cb.meet a.data.toList b.data.toList = none) :
    Calls Tryz.prog 68 #[.string a, .string b] w fun e w' => ∃ v, e = .returned v ∧ w'.ownsRow w.heap.size 9 1 v (Cb.cut a.data.toList b.data.toList).length (vs (Cb.cut a.data.toList b.data.toList)) ∧ Below w.heap.size w w' := by
  have HC : Hid (Cb.cut a.data.toList b.data.toList = [a.data.toList]) := by unfold Hid Cb.cut; rw [hm]
  have HM := Lib.hid hm
  clear hm
  rw [HC.out]
  generalize hR : (fun (e : Ending) (w' : World) => _) = R
  have HR := Lib.hid hR
  clear hR
  go_enter Tryz.func68, Tryz.ntmps68
  go_wp2_with fail
  refine (meet_no _ hb.out (by unfold maxLen; omega) HM.out).mono ?_
  rintro e w1 ⟨rfl, hb1⟩
  go_wp2_with fail
  rw [← HR.out]
  refine ⟨_, rfl, ?_, (hb1.alloc hb1.size _)⟩
  exact World.ownsRow_lit w1 #[.string a] 1 hb1.size (by unfold maxLen; omega) (by simp)
end Go.Proofs.YtlamhpiiikcpiaaGreatDoor
