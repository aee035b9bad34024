/-
  Walks over package words: pair, step, size.
-/
import Derived.Test.YtfnfmkejkgiclaaDoorWdLaw
import Derived.Test.YtfnfmkejkgiclaaDoorRulA
namespace Go.Proofs.YtfnfmkejkgiclaaDoor
open Go.RowKit

set_option maxHeartbeats 800000 in
set_option maxRecDepth 20000 in
theorem pair_any (s : ByteArray) (w : World) : Calls Tryd.prog 33 #[.string s] w fun e w' => e = .returned (.bool (Wd.isPair s.data.toList)) ∧ w = w' := by
  have hp : Wd.isPair s.data.toList = (s.toList == [61, 61] || s.toList == [60, 61] || s.toList == [62, 61] || s.toList == [45, 62]) := by rw [ByteArray.toList_eq]; rfl
  rw [hp]
  clear hp
  go_enter Tryd.func33, Tryd.ntmps33
  go_wp2_with fail
  all_goals
    go_ret
    exact ⟨ret_bool (by simp [*]), rfl⟩

set_option maxHeartbeats 800000 in
set_option maxRecDepth 20000 in
theorem step_any (b : Nat) (x n : Int) (w : World) (h0 : 0 ≤ x) (h1 : x + n ≤ 9223372036854775807) (h2 : 0 ≤ n) (hc : w.cell? ⟨b, 1, none⟩ = some (.int .i64 x)) (hf : w.frozen? ⟨b, 1, none⟩ = false) :
    Calls Tryd.prog 38 #[.pointer (some ⟨b, 0, none⟩), .int .i64 n] w fun e w' => e = .returned (.tuple #[]) ∧ w' = w.setCell ⟨b, 1, none⟩ (.int .i64 (x + n)) := by
  go_enter Tryd.func38, Tryd.ntmps38
  go_wp2_with fail
  go_end0
  exact ⟨rfl, rfl⟩

set_option maxRecDepth 20000 in
theorem single_index (c : UInt8) : decide (0 ≤ Lib.indexByte [40, 41, 44, 124, 42, 43, 63, 46, 36, 61, 60, 62] c) = Wd.isSingle c := by
  have h : ∀ n : Fin 256, decide (0 ≤ Lib.indexByte [40, 41, 44, 124, 42, 43, 63, 46, 36, 61, 60, 62] (UInt8.ofNat n.val)) = Wd.isSingle (UInt8.ofNat n.val) := by decide
  have := h ⟨c.toNat, c.toNat_lt⟩
  simpa using this

theorem pair_is (s : ByteArray) (d : Bool) (h : Wd.isPair s.data.toList = d) (w : World) : Calls Tryd.prog 33 #[.string s] w fun e w' => e = .returned (.bool d) ∧ w = w' := by
  subst h; exact pair_any s w

theorem prefix_is (s p : ByteArray) (d : Bool) (h : Lib.hasPrefix s.data.toList p.data.toList = d) (w : World) : Calls Tryd.prog 45 #[.string s, .string p] w fun e w' => e = .returned (.bool d) ∧ w = w' := by
  subst h; exact (Tryd.strings_HasPrefix s p w).mono (by rintro e w' ⟨rfl, rfl⟩; exact ⟨rfl, rfl⟩)

theorem indexB_is (s : ByteArray) (c : UInt8) (n : Int) (h : Lib.indexByte s.data.toList c = n) (w : World) : Calls Tryd.prog 34 #[.string s, .int .u8 (c.toNat : Int)] w fun e w' => e = .returned (.int .i64 n) ∧ w = w' := by
  subst h
  have e : ((c.toNat : Int).toNat.toUInt8) = c := by simp
  have := Tryd.strings_IndexByte s (c.toNat : Int) w
  rw [e] at this
  exact this.mono (by rintro e w' ⟨rfl, rfl⟩; exact ⟨rfl, rfl⟩)

theorem arrow_prefix (l : List UInt8) : Lib.hasPrefix l [45, 62] = Wd.arrow l := by
  unfold Lib.hasPrefix Wd.arrow
  rcases l with _ | ⟨a, _ | ⟨b, l⟩⟩
  · rfl
  · simp [List.isPrefixOf]
  · rw [Bool.eq_iff_iff]
    constructor <;> (intro h; simp [List.isPrefixOf] at h ⊢; exact ⟨h.1.symm, h.2.symm⟩)

theorem lets_drop (t : ByteArray) (k : Nat) (h : k < t.size) : Wd.lets (t.data.toList.drop k) = if Rp.isLetter t[k] && !Wd.arrow (t.data.toList.drop k) then Wd.lets (t.data.toList.drop (k + 1)) + 1 else 0 := by
  have e : t.data.toList.drop k = t[k] :: t.data.toList.drop (k + 1) := by
    rw [List.drop_eq_getElem_cons (by simpa using h)]
    rfl
  rw [e]
  rfl

theorem int_eq {k : IntKind} {a b : Int} (h : a = b) : Ending.returned (.int k a) = .returned (.int k b) := by rw [h]

set_option maxHeartbeats 3200000 in
set_option maxRecDepth 20000 in
theorem size_any (b x : Nat) (s : ByteArray) (w : World) (hx : x < s.size) (hs : s.size ≤ 1048576) (c1 : w.cell? ⟨b, 1, none⟩ = some (.int .i64 x)) (c2 : w.cell? ⟨b, 2, none⟩ = some (.string s)) :
    Calls Tryd.prog 39 #[.pointer (some ⟨b, 0, none⟩)] w fun e w' => e = .returned (.int .i64 (Wd.size (s.data.toList.drop x))) ∧ ∃ k, w' = w.drewN k := by
  obtain ⟨t, ht⟩ : ∃ t, s.extract x s.size = t := ⟨_, rfl⟩
  have hL : t.data.toList = s.data.toList.drop x := by rw [← ht]; exact Lib.extract_to_end s x
  have hts : t.size = s.size - x := by rw [← ht, ByteArray.size_extract]; omega
  rw [← hL]
  have h1 : (x : Int) ≤ (s.size : Int) := by omega
  have h0 : (0 : Int) ≤ (x : Int) := by omega
  have htl : t.size ≤ 1048576 := by omega
  have ht0 : 0 < t.size := by omega
  have hlen : t.data.toList.length = t.size := (Lib.size_eq t).symm
  obtain ⟨p, hp⟩ : ∃ p, Wd.isPair (t.data.toList.take 2) = p := ⟨_, rfl⟩
  obtain ⟨q, hq⟩ : ∃ q, Wd.isSingle t[0] = q := ⟨_, rfl⟩
  obtain ⟨z, hz⟩ : ∃ z, Lib.indexByte [40, 41, 44, 124, 42, 43, 63, 46, 36, 61, 60, 62] t[0] = z := ⟨_, rfl⟩
  have hzq : decide (0 ≤ z) = q := by rw [← hz, ← hq]; exact single_index _
  have HP : Hid (∀ W, Calls Tryd.prog 33 #[.string (t.extract 0 2)] W fun e w' => e = .returned (.bool p) ∧ W = w') := fun W => pair_is _ p (by rw [Lib.extract_data, ← hp]; rfl) W
  have HI : Hid (∀ W, Calls Tryd.prog 34 #[.string ⟨#[40, 41, 44, 124, 42, 43, 63, 46, 36, 61, 60, 62]⟩, .int .u8 (t[0].toNat : Int)] W fun e w' => e = .returned (.int .i64 z) ∧ W = w') := fun W => indexB_is _ _ z hz W
  have HPe := Lib.hid hp
  have hhead : t.data.toList.headD 0 = t[0] := by
    have : t.data.toList = t[0] :: t.data.toList.drop 1 := by
      have e := List.drop_eq_getElem_cons (l := t.data.toList) (i := 0) (by rw [hlen]; exact ht0)
      rw [List.drop_zero] at e
      exact e
    rw [this]; rfl
  have HQe : Hid (Wd.isSingle (t.data.toList.headD 0) = q) := by rw [hhead]; exact hq
  have hshort : p = true → 1 < t.size := by
    intro h
    subst h
    rcases Nat.lt_or_ge 1 t.size with h | h
    · exact h
    · exfalso
      have : (t.data.toList.take 2).length ≤ 1 := by rw [List.length_take]; omega
      match hq2 : t.data.toList.take 2, this, hp with
      | [], _, hp => simp [Wd.isPair] at hp
      | [c], _, hp => simp [Wd.isPair] at hp
  have HSh := Lib.hid hshort
  have HLe := Lib.hid hL
  have HLn := Lib.hid hlen
  have HT0 := Lib.hid ht0
  clear hx hp hq hz hhead hshort hL hlen hts
  go_enter Tryd.func39, Tryd.ntmps39
  go_wp2_with fail
  go_quiet (fail)
  clear ht c1 c2 h1 h0 hs HLe
  have hi0 : (0 : Int) < (t.size : Int) := by have := HT0.out; omega
  have HF : Hid (∀ (e : Ending) (w' : World), e = .returned (.int .i64 (Wd.size t.data.toList)) → w' = w.drewN nq → (e = .returned (.int .i64 (Wd.size t.data.toList)) ∧ ∃ k, w' = w.drewN k)) := fun e w' h1 h2 => ⟨h1, _, h2⟩
  have hlt : Wd.lets t.data.toList = 0 + Wd.lets (t.data.toList.drop 0) := by simp
  have HL0 := Lib.hid hlt
  clear hlt
  by_cases hl : 1 < t.size
  case' pos =>
    have hlz : (1 : Int) < (t.size : Int) := by omega
    have hl2 : (2 : Int) ≤ (t.size : Int) := by omega
    cases p
    rotate_left
    · go_wp2_with ((with_reducible refine (HP.out _).mono ?_); rintro e w' ⟨rfl, rfl⟩)
      go_ret
      exact HF.out _ _ (int_eq (by rw [Wd.size_pair HPe.out]; rfl)) rfl
    go_wp2_with ((with_reducible refine (HP.out _).mono ?_); rintro e w' ⟨rfl, rfl⟩)
  case' neg =>
    have hlz : decide ((1 : Int) < (t.size : Int)) = false := by simp; omega
    cases p
    rotate_left
    · exact absurd (HSh.out rfl) hl
    go_wp2_with fail
  all_goals
    refine (HI.out _).mono ?_
    rintro e w' ⟨rfl, rfl⟩
    cases q
    rotate_left
    · have hz0 : (0 : Int) ≤ z := by simpa using hzq
      go_wp2_with fail
      go_ret
      exact HF.out _ _ (int_eq (by rw [Wd.size_single HPe.out HQe.out]; rfl)) rfl
    go_wp2_with fail
    have HE : Hid (∀ k : Nat, Wd.lets t.data.toList = k → Wd.size t.data.toList = k) := fun k h => by rw [Wd.size_lets HPe.out HQe.out, h]
    clear HPe HQe hzq HP HI hlz hl HSh hi0
    go_loop [4] (fun i => ∃ k : Nat, k ≤ t.size ∧ i = .int .i64 k ∧ Hid (Wd.lets t.data.toList = k + Wd.lets (t.data.toList.drop k))) (fun i => t.size - (intOf i).toNat)
    case atStart => exact ⟨0, Nat.zero_le _, rfl, HL0⟩
    case round =>
      obtain ⟨k, hk, rfl, hrel⟩ := hrel
      by_cases hkt : k < t.size
      · obtain ⟨d, hd⟩ : ∃ d, Rp.isLetter t[k] = d := ⟨_, rfl⟩
        obtain ⟨a, ha⟩ : ∃ a, Wd.arrow (t.data.toList.drop k) = a := ⟨_, rfl⟩
        have hdr := lets_drop t k hkt
        rw [hd, ha] at hdr
        have HD := Lib.hid hdr
        have HLt : Hid (∀ W, Calls Tryd.prog 31 #[.int .u8 (t[k].toNat : Int)] W fun e w' => e = .returned (.bool d) ∧ W = w') := fun W => letter_is _ d hd W
        have HPr : Hid (∀ W, Calls Tryd.prog 45 #[.string (t.extract k t.size), .string ⟨#[45, 62]⟩] W fun e w' => e = .returned (.bool a) ∧ W = w') := fun W => prefix_is _ _ a (by rw [Lib.extract_to_end, ← ha]; exact arrow_prefix _) W
        clear hd ha hdr
        have hkz : (k : Int) < (t.size : Int) := by omega
        have hkl : (k : Int) ≤ (t.size : Int) := by omega
        have hkn : (0 : Int) ≤ (k : Int) := by omega
        cases d
        · go_wp2_with (first | ((with_reducible refine (HLt.out _).mono ?_); rintro e w' ⟨rfl, rfl⟩) | ((with_reducible refine (HPr.out _).mono ?_); rintro e w' ⟨rfl, rfl⟩))
          go_ret
          exact HF.out _ _ (int_eq (by rw [HE.out k (by rw [hrel.out, HD.out]; rfl)])) rfl
        · cases a
          · go_wp2_with (first | ((with_reducible refine (HLt.out _).mono ?_); rintro e w' ⟨rfl, rfl⟩) | ((with_reducible refine (HPr.out _).mono ?_); rintro e w' ⟨rfl, rfl⟩))
            go_round
            case rel => exact ⟨k + 1, by omega, by go_num, by show _ = _; rw [hrel.out, HD.out]; simp; omega⟩
            case measure => simp [intOf]; omega
          · go_wp2_with (first | ((with_reducible refine (HLt.out _).mono ?_); rintro e w' ⟨rfl, rfl⟩) | ((with_reducible refine (HPr.out _).mono ?_); rintro e w' ⟨rfl, rfl⟩))
            go_ret
            exact HF.out _ _ (int_eq (by rw [HE.out k (by rw [hrel.out, HD.out]; rfl)])) rfl
      · have hkz : decide ((k : Int) < (t.size : Int)) = false := by simp; omega
        have hke : Hid (Wd.lets (t.data.toList.drop k) = 0) := by
          show _ = _
          rw [List.drop_of_length_le (by rw [HLn.out]; omega)]; rfl
        go_wp2_with fail
        go_ret
        exact HF.out _ _ (int_eq (by rw [HE.out k (by rw [hrel.out, hke.out]; rfl)])) rfl
end Go.Proofs.YtfnfmkejkgiclaaDoor
