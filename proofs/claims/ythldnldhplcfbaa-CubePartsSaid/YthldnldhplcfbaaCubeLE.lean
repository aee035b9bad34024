/-
  The law CubeParts of layer 1, walked.
-/
import Derived.Test.YthldnldhplcfbaaCubeLD
namespace Go.Proofs.Ythldnldhplcfbaa
open Go.RowKit

theorem lit0_row {w : World} {e : TypeId} {g b : Nat} (hg : g = w.heap.size) (hb : b ≤ g) : (w.alloc (.cells #[] e)).ownsRow b e 1 (.slice (some ⟨g, 0, none⟩) 0 0) 0 [] := by
  subst hg
  exact World.ownsRow_lit w #[] 0 hb (by unfold maxLen; omega) (by simp)

theorem cut_sizes {a b : ByteArray} (hw : Cb.wrong [a.data.toList, b.data.toList] = 0) : (∀ s ∈ (Cb.cut a.data.toList b.data.toList).map bs ++ [b], s.size ≤ maxLen) ∧ (Cb.cut a.data.toList b.data.toList).length ≤ 128 := by
  obtain ⟨ha, hb, hl⟩ := Cb.wrong_two hw
  have h1 := (Cb.ofB_len ha).2
  have h2 := (Cb.ofB_len hb).2
  refine ⟨fun s hs => ?_, Cb.cut_few _ _ h1⟩
  rcases List.mem_append.1 hs with h | h
  · obtain ⟨r, hr, rfl⟩ := List.mem_map.1 h
    rw [bs_size, Cb.cut_len hl r hr]
    unfold maxLen; omega
  · simp at h; subst h; simp at h2; unfold maxLen; omega

set_option maxHeartbeats 1000000 in
theorem CubeParts_walk (a b h : ByteArray) (w : World) (ha0 : a.size ≤ 140737488351232) (hb0 : b.size ≤ 140737488351232) (hh0 : h.size ≤ 140737488351232) :
    Calls Try.prog 7 #[.string a, .string b, .string h] w fun e w' => e = .returned (.bool true) ∧ Below w.heap.size w w' := by
  have ha := reach_max ha0
  have hb := reach_max hb0
  have hh := reach_max hh0
  clear ha0 hb0 hh0
  obtain ⟨i0, hf0, hf1, hf2, hf3⟩ := info_parts info_string
  by_cases hw : Cb.wrong [a.data.toList, b.data.toList] = 0
  · obtain ⟨hsz, hfew⟩ := cut_sizes hw
    have hap := Cb.cut_apart hw
    have hin := fun k => Cb.inS_cut (h := h.data.toList) hw k
    have C0 : Hid (∀ (W : World), Calls Try.prog 9 #[.string a, .string b] W fun e w' => ∃ v, e = .returned (.tuple #[v, .int .i64 0]) ∧ RdsS w' v ((Cb.cut a.data.toList b.data.toList).map bs) ∧ Below W.heap.size W w') := fun W => by
      have := Cut_any a b W ha hb
      rw [hw, if_pos rfl] at this
      exact this
    generalize Cb.cut a.data.toList b.data.toList = P at *
    generalize hH : Cb.HasS a.data.toList h.data.toList = H at *
    generalize hK : Cb.HasS b.data.toList h.data.toList = K at *
    have C1 : Hid (∀ (W : World), Calls Try.prog 17 #[.string a, .string h] W fun e w' => e = .returned (.tuple #[.bool H.1, .int .i64 H.2]) ∧ Below W.heap.size W w') := fun W => Has_any a h W ha hh _ hH
    have C2 : Hid (∀ (W : World), Calls Try.prog 17 #[.string b, .string h] W fun e w' => e = .returned (.tuple #[.bool K.1, .int .i64 K.2]) ∧ Below W.heap.size W w') := fun W => Has_any b h W hb hh _ hK
    clear hH hK hw
    obtain ⟨x, f⟩ := H
    obtain ⟨y, g⟩ := K
    by_cases hf : f = 0
    · subst hf
      by_cases hg : g = 0
      · subst hg
        have C3 : Hid (∀ (W : World) (v' : Value), RdsS W v' (P.map bs) → Calls Try.prog 20 #[v', .string h] W fun e w' => e = .returned (.bool (x && !y)) ∧ Below W.heap.size W w') := fun W v' hw => in_any v' (P.map bs) h W hw (fun s hs => hsz s (List.mem_append_left _ hs)) hh _ (by rw [lb_bs]; exact hin rfl)
        have C4 : Hid (∀ (W : World) (v' : Value), RdsS W v' (P.map bs ++ [b]) → Calls Try.prog 21 #[v'] W fun e w' => e = .returned (.tuple #[.bool true, .int .i64 0]) ∧ Below W.heap.size W w') := fun W v' hw => by
          have := Apart_any v' (P.map bs ++ [b]) W hw hsz
          have e : lb (P.map bs ++ [b]) = P ++ [b.data.toList] := by rw [lb, List.map_append, ← lb, lb_bs]; rfl
          rw [e, hap] at this
          exact this
        obtain ⟨M, hM⟩ : ∃ M, P.length = M := ⟨_, rfl⟩
        have HM := Lib.hid hM
        have hMb : M ≤ 128 := by omega
        clear hsz hfew hap hin hM
        cases x <;> cases y
        all_goals
          go_enter Try.func7, Try.ntmps7
          go_wp2_with fail
          refine (C0.out _).mono ?_
          rintro e w1 ⟨v1, rfl, hr1, hb1⟩
          have B1 := Lib.hid hb1
          have R1 := Lib.hid hr1
          clear hb1 hr1
          go_wp2_with fail
          refine (C1.out _).mono ?_
          rintro e w2 ⟨rfl, hb2⟩
          have B2 := Lib.hid (B1.out.trans (hb2.mono B1.out.size))
          have R2 := Lib.hid (R1.out.below hb2)
          clear hb2
          go_wp2_with fail
          refine (C2.out _).mono ?_
          rintro e w3 ⟨rfl, hb3⟩
          have B3 := Lib.hid (B2.out.trans (hb3.mono B2.out.size))
          have R3 := Lib.hid (R2.out.below hb3)
          clear hb3
          have hs3 := B3.out.size
          go_wp2_with (at_builtin; first | (refine wpList_append_rds rfl (.tmp 45) (.tmp 46) _ rfl w3.heap.size 9 i0 _ 16 Try.underlying22 hf0 hf1 hf2 hf3 rfl _ 0 [] rfl (lit0_row rfl (Nat.le_refl _)) v1 _ rfl (Rds.below R3.out ((Below.refl _ _).alloc (Nat.le_refl _) _)) str_one M (by rw [Nat.zero_add, List.length_map, List.length_map]; exact HM.out) (by unfold maxLen; omega) (by omega) (by simp) ?_; intro ad1 cap1 w4 hown4 hgrow4; rw [List.nil_append] at hown4; have HO4 := Lib.hid hown4; have HG4 := Lib.hid hgrow4; have hs4 := hgrow4.size; clear hown4 hgrow4) | (refine wpList_append_rds rfl (.tmp 47) (.tmp 49) _ rfl w3.heap.size 9 i0 _ 16 Try.underlying22 hf0 hf1 hf2 hf3 rfl _ M _ rfl (HO4.out.alloc _) _ [.string b] rfl (ownsRow_rds (lit_row rfl (Nat.zero_le _))) (by simp [Value.oneCell']) (M + 1) (by simp) (by unfold maxLen; omega) (by omega) (by simp at hs4 ⊢; omega) ?_; intro ad2 cap2 w5 hown5 hgrow5))
          have R5 : Hid (RdsS w5 (.slice ad2 (M + 1) cap2) (P.map bs ++ [b])) := by
            have := ownsRow_rds hown5
            unfold Hid RdsS
            rw [List.map_append]
            exact this
          have B4 : Hid (Below w3.heap.size w3 w4) := ((Below.refl _ _).alloc (Nat.le_refl _) _).grown HG4.out (by simp) (fun k hk => (lit0_row (e := 9) (w := w3) rfl (Nat.le_refl _)).lt k hk |>.1)
          have B5 : Hid (Below w3.heap.size w3 w5) := (B4.out.alloc B4.out.size _).grown hgrow5 (by simp; have := B4.out.size; omega) (fun k hk => (HO4.out.lt k hk).1)
          clear hown5 hgrow5
          refine (C4.out _ _ R5.out).mono ?_
          rintro e w6 ⟨rfl, hb6⟩
          have B6 := Lib.hid (B5.out.trans (hb6.mono B5.out.size))
          clear hb6
          go_wp2_with fail
          refine (C3.out _ _ (R3.out.below B6.out)).mono ?_
          rintro e w7 ⟨rfl, hb7⟩
          have B7 := Lib.hid ((B3.out.trans (B6.out.mono hs3)).trans (hb7.mono (Nat.le_trans hs3 B6.out.size)))
          clear hb7
          go_wp2_with fail
          refine (alive_any _).mono ?_
          rintro e w8 ⟨rfl, hb8⟩
          have B8 := Lib.hid (B7.out.trans (hb8.mono B7.out.size))
          clear hb8
          go_wp2_with fail
          go_ret
          exact ⟨rfl, B8.out⟩
      · have k1 : ((g : Int) != 0) = true := by simpa using hg
        clear hsz hfew hap hin hg
        go_enter Try.func7, Try.ntmps7
        go_wp2_with fail
        refine (C0.out _).mono ?_
        rintro e w1 ⟨v1, rfl, hr1, hb1⟩
        have B1 := Lib.hid hb1
        clear hb1 hr1
        go_wp2_with fail
        refine (C1.out _).mono ?_
        rintro e w2 ⟨rfl, hb2⟩
        have B2 := Lib.hid (B1.out.trans (hb2.mono B1.out.size))
        clear hb2
        go_wp2_with fail
        refine (C2.out _).mono ?_
        rintro e w3 ⟨rfl, hb3⟩
        have B3 := Lib.hid (B2.out.trans (hb3.mono B2.out.size))
        clear hb3
        go_wp2_with fail
        refine (alive_any _).mono ?_
        rintro e w6 ⟨rfl, hb6⟩
        have B6 := Lib.hid (B3.out.trans (hb6.mono B3.out.size))
        clear hb6
        go_wp2_with fail
        go_ret
        exact ⟨rfl, B6.out⟩
    · have k1 : ((f : Int) != 0) = true := by simpa using hf
      clear hsz hfew hap hin hf
      go_enter Try.func7, Try.ntmps7
      go_wp2_with fail
      refine (C0.out _).mono ?_
      rintro e w1 ⟨v1, rfl, hr1, hb1⟩
      have B1 := Lib.hid hb1
      clear hb1 hr1
      go_wp2_with fail
      refine (C1.out _).mono ?_
      rintro e w2 ⟨rfl, hb2⟩
      have B2 := Lib.hid (B1.out.trans (hb2.mono B1.out.size))
      clear hb2
      go_wp2_with fail
      refine (C2.out _).mono ?_
      rintro e w3 ⟨rfl, hb3⟩
      have B3 := Lib.hid (B2.out.trans (hb3.mono B2.out.size))
      clear hb3
      go_wp2_with fail
      refine (alive_any _).mono ?_
      rintro e w6 ⟨rfl, hb6⟩
      have B6 := Lib.hid (B3.out.trans (hb6.mono B3.out.size))
      clear hb6
      go_wp2_with fail
      go_ret
      exact ⟨rfl, B6.out⟩
  · generalize hq : Cb.wrong [a.data.toList, b.data.toList] = q at hw
    have k1 : ((q : Int) != 0) = true := by simpa using hw
    generalize hL : (if Cb.wrong [a.data.toList, b.data.toList] = 0 then Cb.cut a.data.toList b.data.toList else []).map bs = P
    have C0 : Hid (∀ (W : World), Calls Try.prog 9 #[.string a, .string b] W fun e w' => ∃ v, e = .returned (.tuple #[v, .int .i64 q]) ∧ RdsS w' v P ∧ Below W.heap.size W w') := fun W => by
      have := Cut_any a b W ha hb
      rw [hL, hq] at this
      exact this
    generalize hH : Cb.HasS a.data.toList h.data.toList = H
    generalize hK : Cb.HasS b.data.toList h.data.toList = K
    have C1 : Hid (∀ (W : World), Calls Try.prog 17 #[.string a, .string h] W fun e w' => e = .returned (.tuple #[.bool H.1, .int .i64 H.2]) ∧ Below W.heap.size W w') := fun W => Has_any a h W ha hh _ hH
    have C2 : Hid (∀ (W : World), Calls Try.prog 17 #[.string b, .string h] W fun e w' => e = .returned (.tuple #[.bool K.1, .int .i64 K.2]) ∧ Below W.heap.size W w') := fun W => Has_any b h W hb hh _ hK
    clear hH hK hq hL hw
    obtain ⟨x, f⟩ := H
    obtain ⟨y, g⟩ := K
    go_enter Try.func7, Try.ntmps7
    go_wp2_with fail
    refine (C0.out _).mono ?_
    rintro e w1 ⟨v1, rfl, hr1, hb1⟩
    have B1 := Lib.hid hb1
    clear hb1 hr1
    go_wp2_with fail
    refine (C1.out _).mono ?_
    rintro e w2 ⟨rfl, hb2⟩
    have B2 := Lib.hid (B1.out.trans (hb2.mono B1.out.size))
    clear hb2
    go_wp2_with fail
    refine (C2.out _).mono ?_
    rintro e w3 ⟨rfl, hb3⟩
    have B3 := Lib.hid (B2.out.trans (hb3.mono B2.out.size))
    clear hb3
    go_wp2_with fail
    refine (alive_any _).mono ?_
    rintro e w6 ⟨rfl, hb6⟩
    have B6 := Lib.hid (B3.out.trans (hb6.mono B3.out.size))
    clear hb6
    go_wp2_with fail
    go_ret
    exact ⟨rfl, B6.out⟩
end Go.Proofs.Ythldnldhplcfbaa
