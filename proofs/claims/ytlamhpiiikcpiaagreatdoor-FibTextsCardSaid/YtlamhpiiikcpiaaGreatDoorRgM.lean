/-
  Walks over the reference of rules: put.
-/
import Derived.Test.YtlamhpiiikcpiaaGreatDoorRgL
import Derived.Test.YtlamhpiiikcpiaaGreatDoorRgK
import Derived.BigQuiet
namespace Go.Proofs.YtlamhpiiikcpiaaGreatDoor
open Go.RowKit Go.Shelf Go.Lib Go.Sort
set_option linter.unusedVariables false
set_option linter.unusedSectionVars false
set_option linter.unusedSimpArgs false
namespace Pr
/-- What put has made of the ports so far. -/
def part (l : List (List UInt8)) (t : List UInt8) : List (List UInt8) := if l.any (fun x => decide (t < x)) = true then l.filter (fun x => decide (x < t)) ++ t :: l.filter (fun x => decide (t < x)) else l
theorem lt_of_not {a b : List UInt8} (h : ¬ a < b) (hne : a ≠ b) : b < a := ll_ne (List.not_lt.1 h) (fun e => hne e.symm)
theorem part_more {l : List (List UInt8)} {t x : List UInt8} (hp : (l ++ [x]).Pairwise (fun a b => a < b)) (hn : t ≠ x) (hd : l.any (fun x => decide (t < x)) = true) : part (l ++ [x]) t = part l t ++ [x] ∧ (l ++ [x]).any (fun x => decide (t < x)) = true := by
  obtain ⟨y, hy, hty⟩ := List.any_eq_true.1 hd
  have hyx : y < x := (List.pairwise_append.1 hp).2.2 y hy x (by simp)
  have htx : t < x := List.lt_trans (by simpa using hty) hyx
  have ha : (l ++ [x]).any (fun x => decide (t < x)) = true := by rw [List.any_append, hd]; rfl
  have hxt : ¬ x < t := fun h => List.lt_irrefl _ (List.lt_trans h htx)
  refine ⟨?_, ha⟩
  unfold part
  rw [if_pos ha, if_pos hd, List.filter_append, List.filter_append]
  simp [htx, hxt]
theorem part_here {l : List (List UInt8)} {t x : List UInt8} (ht : t ∉ l) (hd : l.any (fun x => decide (t < x)) = false) (hx : t < x) : part (l ++ [x]) t = part l t ++ [t] ++ [x] ∧ (l ++ [x]).any (fun x => decide (t < x)) = true := by
  have ha : (l ++ [x]).any (fun x => decide (t < x)) = true := by rw [List.any_append, hd]; simp [hx]
  have hxt : ¬ x < t := fun h => List.lt_irrefl _ (List.lt_trans h hx)
  have h1 : ∀ y ∈ l, ¬ t < y := fun y hy h => by
    have := List.any_eq_false.1 hd y hy
    simp [h] at this
  have h2 : l.filter (fun x => decide (t < x)) = [] := List.filter_eq_nil_iff.2 fun y hy => by simpa using h1 y hy
  have h3 : l.filter (fun x => decide (x < t)) = l := List.filter_eq_self.2 fun y hy => by simpa using lt_of_not (h1 y hy) (fun e => ht (e ▸ hy))
  refine ⟨?_, ha⟩
  unfold part
  rw [if_pos ha, if_neg (by rw [hd]; simp), List.filter_append, List.filter_append, h2, h3]
  simp [hx, hxt]
theorem part_low {l : List (List UInt8)} {t x : List UInt8} (hd : l.any (fun x => decide (t < x)) = false) (hx : ¬ t < x) : part (l ++ [x]) t = part l t ++ [x] ∧ (l ++ [x]).any (fun x => decide (t < x)) = false := by
  have ha : (l ++ [x]).any (fun x => decide (t < x)) = false := by rw [List.any_append, hd]; simp [hx]
  refine ⟨?_, ha⟩
  unfold part
  rw [if_neg (by rw [ha]; simp), if_neg (by rw [hd]; simp)]
theorem part_done {l : List (List UInt8)} {t : List UInt8} (ht : t ∉ l) (hd : l.any (fun x => decide (t < x)) = true) : part l t = putL l t := by
  unfold part putL
  rw [if_pos hd, if_neg ht]
theorem part_last {l : List (List UInt8)} {t : List UInt8} (ht : t ∉ l) (hd : l.any (fun x => decide (t < x)) = false) : part l t ++ [t] = putL l t := by
  have h1 : ∀ y ∈ l, ¬ t < y := fun y hy h => by
    have := List.any_eq_false.1 hd y hy
    simp [h] at this
  have h2 : l.filter (fun x => decide (t < x)) = [] := List.filter_eq_nil_iff.2 fun y hy => by simpa using h1 y hy
  have h3 : l.filter (fun x => decide (x < t)) = l := List.filter_eq_self.2 fun y hy => by simpa using lt_of_not (h1 y hy) (fun e => ht (e ▸ hy))
  unfold part putL
  rw [if_neg (by rw [hd]; simp), if_neg ht, h2, h3]
theorem part_len (l : List (List UInt8)) (t : List UInt8) : (part l t).length ≤ l.length + 1 := by
  unfold part
  split
  · have h : ∀ l : List (List UInt8), (l.filter (fun x => decide (x < t))).length + (l.filter (fun x => decide (t < x))).length ≤ l.length := by
      intro l
      induction l with
      | nil => simp
      | cons a l ih =>
        simp only [List.filter_cons, List.length_cons]
        by_cases h1 : a < t
        · have h2 : ¬ t < a := fun h => List.lt_irrefl _ (List.lt_trans h1 h)
          simp [h1, h2]; omega
        · by_cases h2 : t < a
          · simp [h1, h2]; omega
          · simp [h1, h2]; omega
    have := h l
    simp; omega
  · omega
end Pr
/-- append of one string, told by its cell. -/
theorem wp_app_strR {w : World} {o : Oper} {a : Act} {K : Act → World → Prop} {Q : Exit → Act → World → Prop} (s x : Operand)
    (ho : o.op = .call { callee := .builtin .append, args := #[s, x], argTypes := #[43, 43] })
    (base : Nat) (v : Value) (n : Nat) (xs : List Value) (hs : a.eval s = v) (h1 : w.ownsRow base 9 1 v n xs)
    (g0 c : Nat) (y : ByteArray) (hx : a.eval x = .slice (some ⟨g0, 0, none⟩) 1 c) (hyc : w.heap[g0]? = some (.cells #[.string y] 9 (0, 0)))
    (tot : Nat) (htot : n + 1 = tot) (hbytes : tot * 16 ≤ 140737488355328) (hbase : base ≤ w.heap.size)
    (h : ∀ ad cap w', w'.ownsRow base 9 1 (.slice ad tot cap) tot (xs ++ [.string y]) → w.grownBy w' v.ownBlock → K (a.put o.dst (.slice ad tot cap)) w') : o.wp Tryz.prog a w K Q := by
  subst htot
  obtain ⟨i0, hi, hz0, hz1, hz2⟩ := info_parts infoS
  refine wp_append_lies w s x 43 ho base 9 i0 _ 1 16 Tryz.underlying43 hi hz0 hz1 hz2 rfl (by decide) v n xs hs h1 ⟨g0, 0, none⟩ 1 c [.string y] hx rfl (fun j u hj => ?_) (fun u hu => by simp at hu; subst hu; rfl)
    (by omega) (by unfold maxLen; omega) hbytes hbase w.heap.size rfl fun g cap w' hown hg hgg hlt => h _ cap w' hown hg
  rw [Addr.add_lit, Nat.zero_add]
  match j, hj with
  | 0, hj => simp at hj; subst hj; simp [World.cell?, hyc]
theorem grown_bel {w0 w w' : World} {base : Nat} {e : TypeId} {k n : Nat} {v : Value} {xs : List Value} (hb : Below base w0 w) (hl : base ≤ w0.heap.size) (h : w.ownsRow base e k v n xs) (hg : w.grownBy w' v.ownBlock) : Below base w0 w' := by
  have hbt : But (fun b => v.ownBlock = some b) w w' := ⟨hg.os, hg.tape, hg.output, hg.size, fun k hk hn => hg.block k hk (fun e => hn e.symm)⟩
  exact hb.trans (hbt.toBelow (Nat.le_trans hl hb.size) fun k hk => (own_ge h k hk).1)
theorem row_strs {w : World} {base n : Nat} {e : TypeId} {v : Value} {P : List (List UInt8)} (h : w.ownsRow base e 1 v n (P.map fun t => Value.string (Wd.mkB t))) : RdsO (fun b => base ≤ b) w v (P.map Wd.mkB) := by
  refine ⟨?_, fun a n c hv hn => ?_⟩
  · have := ownsRow_rds h
    show Rds w v ((P.map Wd.mkB).map Value.string)
    rw [List.map_map]
    exact this
  · subst hv
    exact (own_ge h a.block rfl).1
set_option maxHeartbeats 3200000 in
set_option maxRecDepth 20000 in
theorem put_any {ok : Nat → Prop} {w : World} {a0 : Option Addr} {n c0 : Nat} {T : List (List UInt8)} (h : RdsO ok w (.slice a0 n c0) (T.map Wd.mkB)) (hn : T.length = n) (hm : n ≤ 4000000) (hT : T.Pairwise (fun a b => a < b)) (s : ByteArray) :
    Calls Tryz.prog 125 #[.slice a0 n c0, .string s] w fun e w' => ∃ ad m c, e = .returned (.slice ad m c) ∧ (Pr.putL T s.data.toList).length = m ∧ RdsO (fun b => ok b ∨ w.heap.size ≤ b) w' (.slice ad m c) ((Pr.putL T s.data.toList).map Wd.mkB) ∧ Below w.heap.size w w' := by
  have H := Lib.hid h
  have HN := Lib.hid hn
  have HT := Lib.hid hT
  obtain ⟨t, ht⟩ : ∃ t, s.data.toList = t := ⟨_, rfl⟩
  rw [ht]
  have HTt := Lib.hid ht
  clear h hn hT ht
  go_enter Tryz.func125, Tryz.ntmps125
  go_wp2_with fail
  go_loopw [5, 6, 7] (fun s5 s6 s7 wr => ∃ (i m : Nat) (dn : Bool) (ad : Option Addr) (c : Nat), s7 = .int .i64 i ∧ s6 = .bool dn ∧ s5 = .slice ad m c ∧ i ≤ n ∧ m ≤ i + 1 ∧ Hid (t ∉ T.take i) ∧ Hid ((T.take i).any (fun x => decide (t < x)) = dn) ∧ Hid ((Pr.part (T.take i) t).length = m) ∧ Hid (wr.ownsRow w.heap.size 9 1 (.slice ad m c) m ((Pr.part (T.take i) t).map fun t => Value.string (Wd.mkB t))) ∧ Hid (Below w.heap.size w wr)) (fun _ _ s7 _ => n - (intOf s7).toNat)
  case atStart => exact ⟨0, 0, false, none, 0, rfl, rfl, rfl, Nat.zero_le _, Nat.zero_le _, by show ¬ _; simp, rfl, rfl, World.ownsRow_nil _ _ _ _, Below.refl _ _⟩
  case round =>
    obtain ⟨wo, rfl⟩ : ∃ wo : World, wo = wr := ⟨wr, rfl⟩
    obtain ⟨i, m, dn, ad, c, rfl, rfl, rfl, hin, hmi, HNo, HDn, HLm, HOw, HBl⟩ := hrel
    by_cases hlt : i < n
    · have hik : i < T.length := by rw [HN.out]; exact hlt
      obtain ⟨b, off, len, cap, hv, hlen, hlc, hcm, hb, hcell⟩ : ∃ b off len cap, Value.slice a0 n c0 = .slice (some ⟨b, off, none⟩) len cap ∧ len = T.length ∧ len ≤ cap ∧ cap ≤ maxLen ∧ b < w.heap.size ∧ ∀ i (h : i < T.length), w.cell? ⟨b, off + i, none⟩ = some (.string (Wd.mkB T[i])) := by
        rcases rdsS_cases H.out.1 with ⟨a, c, h1, h2⟩ | ⟨b, off, len, cap, h1, h2, h3, h4, h5, h6⟩
        · have : T.length = 0 := by rw [← List.length_map (f := Wd.mkB), h2]; rfl
          omega
        · exact ⟨b, off, len, cap, h1, by rw [h2, List.length_map], h3, h4, h5, fun i hi => by rw [h6 i (by rw [List.length_map]; exact hi)]; simp⟩
      injection hv with hv1 hv2 hv3
      subst hv1
      have hcl := hcell i hik
      obtain ⟨x, hx⟩ : ∃ x, Wd.mkB T[i] = x := ⟨_, rfl⟩
      have hxt : x.data.toList = T[i] := by rw [← hx]; rfl
      rw [hx] at hcl
      have hc := (HBl.out.cell (p := ⟨b, off + i, none⟩) hb).trans hcl
      have HXt := Lib.hid hxt
      have htk : T.take (i + 1) = T.take i ++ [T[i]] := List.take_succ_eq_append_getElem hik
      have HTk := Lib.hid htk
      clear hv2 hv3 hlen hlc hcm hcell hcl hx hxt htk
      have heq : (x.toList == s.toList) = decide (T[i] = t) := by rw [str_beq, HXt.out, HTt.out]; by_cases h : T[i] = t <;> simp [h]
      by_cases he : T[i] = t
      · have hbt : (x.toList == s.toList) = true := by rw [heq]; simpa using he
        have HE : Hid (Pr.putL T t = T) := by show _ = _; unfold Pr.putL; rw [if_pos (by rw [← he]; exact List.getElem_mem hik)]
        clear heq he
        go_wp2_with fail
        go_ret
        exact ⟨_, _, _, rfl, by rw [HE.out]; exact HN.out, by rw [HE.out]; exact (H.out.below HBl.out).mono fun b hb => .inl hb, HBl.out⟩
      · have hbt : (x.toList == s.toList) = false := by rw [heq]; simpa using he
        have HNe : Hid (t ≠ T[i]) := fun e => he e.symm
        have HNo2 : Hid (t ∉ T.take (i + 1)) := by
          show ¬ _
          rw [HTk.out, List.mem_append, List.mem_singleton]
          exact fun h => h.elim HNo.out HNe.out
        clear heq he
        cases dn with
        | true =>
          have HP : Hid (Pr.part (T.take (i + 1)) t = Pr.part (T.take i) t ++ [T[i]] ∧ (T.take (i + 1)).any (fun x => decide (t < x)) = true) := by
            show _ ∧ _
            rw [HTk.out]
            exact Pr.part_more (by rw [← HTk.out]; exact HT.out.sublist (List.take_sublist _ _)) HNe.out HDn.out
          have HYr : Hid (Value.string x = Value.string (Wd.mkB T[i])) := by show _ = _; rw [← HXt.out, Wd.mkB_of]
          go_wp2_with (at_builtin; go_loud (refine wpList_plain rfl (fun _ hK => wp_app_strR (.tmp 35) (.tmp 40) rfl w.heap.size (.slice ad m c) m _ (by rfl) (HOw.out.alloc _) wo.heap.size 1 x (by rfl) (heap_alloc_new _ _) (m + 1) rfl (by omega) (by have := HBl.out.size; simp; omega) (fun ad2 c2 w2 ho2 hg2 => hK _ _ ?_))); have HO2 := Lib.hid ho2; have HG2 := Lib.hid hg2; clear ho2 hg2 hK)
          go_roundw
          case rel =>
            refine ⟨i + 1, m + 1, true, ad2, c2, by first | rfl | go_num, rfl, rfl, by omega, by omega, HNo2.out, HP.out.2, ?_, ?_, ?_⟩
            · show _ = _
              rw [HP.out.1, List.length_append, HLm.out]; rfl
            · show World.ownsRow _ _ _ _ _ _ _
              rw [HP.out.1, List.map_append, List.map_singleton, ← HYr.out]
              exact HO2.out
            · exact grown_bel (HBl.out.alloc HBl.out.size _) (Nat.le_refl _) (HOw.out.alloc _) HG2.out
          case measure => simp [intOf]; omega
        | false =>
          have hbl : Op.bytesLess s.toList x.toList = decide (t < T[i]) := by rw [bytesLess_eq, Lib.toList_data, Lib.toList_data, HXt.out, HTt.out]
          have HYr : Hid (Value.string x = Value.string (Wd.mkB T[i])) := by show _ = _; rw [← HXt.out, Wd.mkB_of]
          have HYs : Hid (Value.string s = Value.string (Wd.mkB t)) := by show _ = _; rw [← HTt.out, Wd.mkB_of]
          by_cases hlx : t < T[i]
          · have hb1 : Op.bytesLess s.toList x.toList = true := by rw [hbl]; simpa using hlx
            have hmi2 : m ≤ i := by
              have h := HLm.out
              unfold Pr.part at h
              rw [if_neg (by rw [HDn.out]; simp), List.length_take] at h
              omega
            have HP : Hid (Pr.part (T.take (i + 1)) t = Pr.part (T.take i) t ++ [t] ++ [T[i]] ∧ (T.take (i + 1)).any (fun x => decide (t < x)) = true) := by
              show _ ∧ _
              rw [HTk.out]
              exact Pr.part_here HNo.out HDn.out hlx
            clear hbl hlx
            go_wp2_with (at_builtin; go_loud (first
              | (refine wpList_plain rfl (fun _ hK => wp_app_strR (.tmp 31) (.tmp 33) rfl w.heap.size (.slice ad m c) m _ (by rfl) (HOw.out.alloc _) wo.heap.size 1 s (by rfl) (heap_alloc_new _ _) (m + 1) rfl (by omega) (by have := HBl.out.size; simp; omega) (fun ad2 c2 w2 ho2 hg2 => hK _ _ ?_)); have HB2 := Lib.hid (grown_bel (HBl.out.alloc HBl.out.size _) (Nat.le_refl _) (HOw.out.alloc _) hg2); have HO2 := Lib.hid ho2; have hc2 := (HB2.out.cell (p := ⟨b, off + i, none⟩) hb).trans ((HBl.out.cell (p := ⟨b, off + i, none⟩) hb).symm.trans hc); clear ho2 hg2 hK)
              | (refine wpList_plain rfl (fun _ hK => wp_app_strR (.tmp 35) (.tmp 40) rfl w.heap.size (.slice ad2 (m + 1) c2) (m + 1) _ (by rfl) (HO2.out.alloc _) w2.heap.size 1 x (by rfl) (heap_alloc_new _ _) (m + 1 + 1) rfl (by omega) (by have := HB2.out.size; simp; omega) (fun ad3 c3 w3 ho3 hg3 => hK _ _ ?_)); have HB3 := Lib.hid (grown_bel (HB2.out.alloc HB2.out.size _) (Nat.le_refl _) (HO2.out.alloc _) hg3); have HO3 := Lib.hid ho3; clear ho3 hg3 hK)))
            go_roundw
            case rel =>
              refine ⟨i + 1, m + 1 + 1, true, ad3, c3, by first | rfl | go_num, rfl, rfl, by omega, by omega, HNo2.out, HP.out.2, ?_, ?_, HB3.out⟩
              · show _ = _
                rw [HP.out.1, List.length_append, List.length_append, HLm.out]; rfl
              · show World.ownsRow _ _ _ _ _ _ _
                rw [HP.out.1, List.map_append, List.map_append, List.map_singleton, List.map_singleton, ← HYr.out, ← HYs.out]
                exact HO3.out
            case measure => simp [intOf]; omega
          · have hb1 : Op.bytesLess s.toList x.toList = false := by rw [hbl]; simpa using hlx
            have HP : Hid (Pr.part (T.take (i + 1)) t = Pr.part (T.take i) t ++ [T[i]] ∧ (T.take (i + 1)).any (fun x => decide (t < x)) = false) := by
              show _ ∧ _
              rw [HTk.out]
              exact Pr.part_low HDn.out hlx
            clear hbl hlx
            go_wp2_with (at_builtin; go_loud (refine wpList_plain rfl (fun _ hK => wp_app_strR (.tmp 35) (.tmp 40) rfl w.heap.size (.slice ad m c) m _ (by rfl) (HOw.out.alloc _) wo.heap.size 1 x (by rfl) (heap_alloc_new _ _) (m + 1) rfl (by omega) (by have := HBl.out.size; simp; omega) (fun ad2 c2 w2 ho2 hg2 => hK _ _ ?_))); have HO2 := Lib.hid ho2; have HG2 := Lib.hid hg2; clear ho2 hg2 hK)
            go_roundw
            case rel =>
              refine ⟨i + 1, m + 1, false, ad2, c2, by first | rfl | go_num, rfl, rfl, by omega, by omega, HNo2.out, HP.out.2, ?_, ?_, ?_⟩
              · show _ = _
                rw [HP.out.1, List.length_append, HLm.out]; rfl
              · show World.ownsRow _ _ _ _ _ _ _
                rw [HP.out.1, List.map_append, List.map_singleton, ← HYr.out]
                exact HO2.out
              · exact grown_bel (HBl.out.alloc HBl.out.size _) (Nat.le_refl _) (HOw.out.alloc _) HG2.out
            case measure => simp [intOf]; omega
    · have hie : i = T.length := by rw [HN.out]; omega
      have hta : T.take i = T := by rw [hie, List.take_length]
      rw [hta] at HNo HDn HLm HOw
      clear hie hta
      have HYs : Hid (Value.string s = Value.string (Wd.mkB t)) := by show _ = _; rw [← HTt.out, Wd.mkB_of]
      cases dn with
      | true =>
        have HE : Hid (Pr.putL T t = Pr.part T t) := (Pr.part_done HNo.out HDn.out).symm
        go_wp2_with fail
        go_ret
        refine ⟨ad, m, c, rfl, by rw [HE.out]; exact HLm.out, ?_, HBl.out⟩
        rw [HE.out]
        exact (row_strs HOw.out).mono fun b hb => .inr hb
      | false =>
        have HE : Hid (Pr.putL T t = Pr.part T t ++ [t]) := (Pr.part_last HNo.out HDn.out).symm
        go_wp2_with (at_builtin; go_loud (refine wpList_plain rfl (fun _ hK => wp_app_strR (.tmp 44) (.tmp 46) rfl w.heap.size (.slice ad m c) m _ (by rfl) (HOw.out.alloc _) wo.heap.size 1 s (by rfl) (heap_alloc_new _ _) (m + 1) rfl (by omega) (by have := HBl.out.size; simp; omega) (fun ad2 c2 w2 ho2 hg2 => hK _ _ ?_))); have HO2 := Lib.hid ho2; have HB2 := Lib.hid (grown_bel (HBl.out.alloc HBl.out.size _) (Nat.le_refl _) (HOw.out.alloc _) hg2); clear ho2 hg2 hK)
        go_ret
        refine ⟨ad2, m + 1, c2, rfl, by rw [HE.out, List.length_append, HLm.out]; rfl, ?_, HB2.out⟩
        rw [HE.out]
        refine (row_strs (e := 9) (n := m + 1) (P := Pr.part T t ++ [t]) ?_).mono fun b hb => .inr hb
        rw [List.map_append, List.map_singleton, ← HYs.out]
        exact HO2.out
theorem idx_names (s : ByteArray) : Pr.idx Pr.names s = if s = ⟨#[]⟩ then 0 else if s = ⟨#[100, 114, 111, 112]⟩ then 1 else if s = ⟨#[100, 101, 108, 105, 118, 101, 114]⟩ then 2 else if s = ⟨#[97, 108, 108]⟩ then 3 else if s = ⟨#[97, 110, 121]⟩ then 4 else -1 := by
  unfold Pr.idx Pr.names
  simp only [List.findIdx?_cons, List.findIdx?_nil, decide_eq_true_eq]
  by_cases h0 : s = ⟨#[]⟩
  · simp [h0]
  by_cases h1 : s = ⟨#[100, 114, 111, 112]⟩
  · simp [h0, h1]
  by_cases h2 : s = ⟨#[100, 101, 108, 105, 118, 101, 114]⟩
  · simp [h0, h1, h2]
  by_cases h3 : s = ⟨#[97, 108, 108]⟩
  · simp [h0, h1, h2, h3]
  by_cases h4 : s = ⟨#[97, 110, 121]⟩
  · simp [h0, h1, h2, h3, h4]
  simp [h0, h1, h2, h3, h4]
theorem str_ne {s : ByteArray} {l : List UInt8} (h : ¬ s = ⟨l.toArray⟩) : ¬ s.toList = l := fun e => h (by
  rw [Lib.toList_data] at e
  cases s with
  | mk d => simp only at e; rw [← e])
theorem str_is {s : ByteArray} {l : List UInt8} (h : s = ⟨l.toArray⟩) : s.toList = l := by rw [h, Lib.toList_data]
/-- What the reference's reading of an action leaves. -/
def RActPost (ok : Nat → Prop) (rb i : Nat) (v : Value) (ws : List Wrd) (w : World) (e : Ending) (w' : World) : Prop :=
  match Pr.act ws i with
  | .ok (k, P, j) => ∃ a n c, e = .returned (.agg #[.int .i64 k, .slice a n c]) ∧ RdsO (fun b => w.heap.size ≤ b) w' (.slice a n c) P ∧ RRd ok rb j 0 0 0 v ws w' ∧ But (fun b => b = rb) w w'
  | .error (c, j) => (∃ k a n cc, e = .returned (.agg #[.int .i64 k, .slice a n cc])) ∧ (∃ j', RRd ok rb j' (Pr.wd ws j).l (Pr.wd ws j).c c v ws w') ∧ But (fun b => b = rb) w w'
theorem res_ract (w : World) (b : Nat) (tmps : Array Value) (k : Int) (a : Option Addr) (n c : Nat) (h2 : tmps.getD 2 undef = .pointer (some ⟨b, 0, none⟩)) (h0 : w.cell? ⟨b, 0, none⟩ = some (.int .i64 k)) (h1 : w.cell? ⟨b, 1, none⟩ = some (.slice a n c)) :
    (results Tryz.f96 tmps).run Tryz.prog w = .ok (.agg #[.int .i64 k, .slice a n c]) w := by
  rw [Array.getD_eq_getD_getElem?] at h2
  simp [results, Tryz.results96, h2, loadVar, asAddr, go_sem, Tryz.isAgg45, Tryz.sizeOf45, h0, h1]
set_option maxHeartbeats 3200000 in
set_option maxRecDepth 20000 in
theorem ract_plain {ok : Nat → Prop} {rb i : Nat} {v : Value} {ws : List Wrd} {w : World} (h : RRd ok rb i 0 0 0 v ws w) (hok : ∀ b, ok b → b < w.heap.size) (hi : i ≤ 10) (h3 : ¬ (Pr.wd ws i).t = ⟨#[97, 108, 108]⟩) (h4 : ¬ (Pr.wd ws i).t = ⟨#[97, 110, 121]⟩) :
    Calls Tryz.prog 96 #[.pointer (some ⟨rb, 0, none⟩)] w (RActPost ok rb i v ws w) := by
  obtain ⟨W0, hW0⟩ : ∃ W0, W0 = w.alloc (.cells #[.int .i64 0, .slice none 0 0] 45) := ⟨_, rfl⟩
  have hb0 : Below w.heap.size w W0 := by rw [hW0]; exact (Below.refl _ _).alloc (Nat.le_refl _) _
  have hh0 : W0.heap[w.heap.size]? = some (.cells #[.int .i64 0, .slice none 0 0] 45 (0, 0)) := by rw [hW0]; exact heap_alloc_new _ _
  have hs0 : W0.heap.size = w.heap.size + 1 := by rw [hW0]; simp
  have hlt := h.r.lt
  have H0 := Lib.hid (h.below hb0)
  have HB0 := Lib.hid hb0
  have HH0 := Lib.hid hh0
  have HS0 := Lib.hid hs0
  have HW0 := Lib.hid hW0
  have HOk := Lib.hid hok
  obtain ⟨x, hx⟩ : ∃ x, Pr.wd ws i = x := ⟨_, rfl⟩
  rw [hx] at h3 h4
  have HX := Lib.hid hx
  have hf := word_field
  have n3 : (x.t.toList == [97, 108, 108]) = false := beq_eq_false_iff_ne.2 (str_ne h3)
  have n4 : (x.t.toList == [97, 110, 121]) = false := beq_eq_false_iff_ne.2 (str_ne h4)
  have H3 := Lib.hid h3
  have H4 := Lib.hid h4
  clear h hb0 hh0 hs0 hW0 hok h3 h4
  by_cases h1 : x.t = ⟨#[100, 114, 111, 112]⟩
  · go_enter Tryz.func96, Tryz.ntmps96
    have nn : (x.t.toList == [100, 114, 111, 112]) = true := beq_iff_eq.2 (str_is h1)
    skip
    go_upto_region 1 with fail
    rw [← HW0.out]
    clear HW0
    have HW1 := Lib.hid (rword_any H0.out.r x hx)
    clear hx
    go_wp2_with fail
    refine HW1.out.mono ?_
    rintro e w1 ⟨rfl, hb1⟩
    have HR1 := Lib.hid (H0.out.below hb1)
    have HB1 := Lib.hid (HB0.out.trans (hb1.mono HB0.out.size))
    have hh1 := (hb1.block _ (by rw [HS0.out]; omega)).trans HH0.out
    have c1 := HR1.out.r.c1
    have f1 := HR1.out.r.f1
    have hw9 : IntKind.i64.wrap ((i : Int) + 1) = (i : Int) + 1 := IntWalk.i64_in _ (by omega)
    have hst := HR1.out.step (i + 1)
    have hlw1 : w.heap.size < w1.heap.size := (Array.getElem?_eq_some_iff.1 hh1).1
    obtain ⟨w2, hw2⟩ : ∃ w2, w2 = w1.setCell ⟨rb, 1, none⟩ (.int .i64 ((i : Int) + 1)) := ⟨_, rfl⟩
    have hst : RRd ok rb (i + 1) 0 0 0 v ws w2 ∧ But (fun b => b = rb) w1 w2 := by rw [hw2]; exact hst
    have hh2 := (hst.2.block _ hlw1 (by omega)).trans hh1
    have t0 : w2.cell? ⟨w.heap.size, 0, none⟩ = some (.int .i64 0) := by simp [World.cell?, hh2]
    have t1 : w2.cell? ⟨w.heap.size, 1, none⟩ = some (.slice none 0 0) := by simp [World.cell?, hh2]
    have g0 : w2.frozen? ⟨w.heap.size, 0, none⟩ = false := by simp [World.frozen?, hh2]
    have g1 : w2.frozen? ⟨w.heap.size, 1, none⟩ = false := by simp [World.frozen?, hh2]
    have HR2 := Lib.hid hst.1
    have HB2 := Lib.hid hst.2
    have HW2 := Lib.hid hw2
    have hP : Pr.act ws i = .ok (1, [], i + 1) := by unfold Pr.act; rw [HX.out, idx_names, h1]; simp
    have HP := Lib.hid hP
    have Hh := Lib.hid h1
    clear hb1 H0 HW1 hh1 hh2 hst hw2 hP h1
    go_upto_region 4 with fail
    rw [← HW2.out]
    clear HW2
    go_wp2_with fail
    refine bodyPost_ret (res_ract _ w.heap.size _ 1 none 0 0 rfl ?_ ?_) rfl ?_
    · exact cell_setd2 (cell_set_same _ t0) (by simp)
    · exact cell_set_same _ (cell_setd2 t1 (by simp))
    unfold RActPost
    rw [HP.out]
    have hbs : But (fun b => b = w.heap.size) w2 ((w2.setCell ⟨w.heap.size, 0, none⟩ (.int .i64 1)).setCell ⟨w.heap.size, 1, none⟩ (.slice none 0 0)) := (But.set (S := fun b => b = w.heap.size) (a := ⟨w.heap.size, 0, none⟩) rfl _).trans (But.set (S := fun b => b = w.heap.size) (a := ⟨w.heap.size, 1, none⟩) rfl _)
    exact ⟨none, 0, 0, rfl, ⟨rdsS_nil _, okV_nil _ _ _⟩, HR2.out.but hbs (fun e => by omega) (fun b hb e => by have := HOk.out b hb; omega), but_fresh ((But.below HB1.out).trans HB2.out) hbs (fun b hb => by omega)⟩
  by_cases h2 : x.t = ⟨#[100, 101, 108, 105, 118, 101, 114]⟩
  · go_enter Tryz.func96, Tryz.ntmps96
    have nn : (x.t.toList == [100, 101, 108, 105, 118, 101, 114]) = true := beq_iff_eq.2 (str_is h2)
    have n1 : (x.t.toList == [100, 114, 111, 112]) = false := beq_eq_false_iff_ne.2 (str_ne h1)
    go_upto_region 1 with fail
    rw [← HW0.out]
    clear HW0
    have HW1 := Lib.hid (rword_any H0.out.r x hx)
    clear hx
    go_wp2_with fail
    refine HW1.out.mono ?_
    rintro e w1 ⟨rfl, hb1⟩
    have HR1 := Lib.hid (H0.out.below hb1)
    have HB1 := Lib.hid (HB0.out.trans (hb1.mono HB0.out.size))
    have hh1 := (hb1.block _ (by rw [HS0.out]; omega)).trans HH0.out
    have c1 := HR1.out.r.c1
    have f1 := HR1.out.r.f1
    have hw9 : IntKind.i64.wrap ((i : Int) + 1) = (i : Int) + 1 := IntWalk.i64_in _ (by omega)
    have hst := HR1.out.step (i + 1)
    have hlw1 : w.heap.size < w1.heap.size := (Array.getElem?_eq_some_iff.1 hh1).1
    obtain ⟨w2, hw2⟩ : ∃ w2, w2 = w1.setCell ⟨rb, 1, none⟩ (.int .i64 ((i : Int) + 1)) := ⟨_, rfl⟩
    have hst : RRd ok rb (i + 1) 0 0 0 v ws w2 ∧ But (fun b => b = rb) w1 w2 := by rw [hw2]; exact hst
    have hh2 := (hst.2.block _ hlw1 (by omega)).trans hh1
    have t0 : w2.cell? ⟨w.heap.size, 0, none⟩ = some (.int .i64 0) := by simp [World.cell?, hh2]
    have t1 : w2.cell? ⟨w.heap.size, 1, none⟩ = some (.slice none 0 0) := by simp [World.cell?, hh2]
    have g0 : w2.frozen? ⟨w.heap.size, 0, none⟩ = false := by simp [World.frozen?, hh2]
    have g1 : w2.frozen? ⟨w.heap.size, 1, none⟩ = false := by simp [World.frozen?, hh2]
    have HR2 := Lib.hid hst.1
    have HB2 := Lib.hid hst.2
    have HW2 := Lib.hid hw2
    have hP : Pr.act ws i = .ok (2, [], i + 1) := by unfold Pr.act; rw [HX.out, idx_names, h2]; simp
    have HP := Lib.hid hP
    have Hh := Lib.hid h2
    clear hb1 H0 HW1 hh1 hh2 hst hw2 hP h2
    go_upto_region 4 with fail
    rw [← HW2.out]
    clear HW2
    go_wp2_with fail
    refine bodyPost_ret (res_ract _ w.heap.size _ 2 none 0 0 rfl ?_ ?_) rfl ?_
    · exact cell_setd2 (cell_set_same _ t0) (by simp)
    · exact cell_set_same _ (cell_setd2 t1 (by simp))
    unfold RActPost
    rw [HP.out]
    have hbs : But (fun b => b = w.heap.size) w2 ((w2.setCell ⟨w.heap.size, 0, none⟩ (.int .i64 2)).setCell ⟨w.heap.size, 1, none⟩ (.slice none 0 0)) := (But.set (S := fun b => b = w.heap.size) (a := ⟨w.heap.size, 0, none⟩) rfl _).trans (But.set (S := fun b => b = w.heap.size) (a := ⟨w.heap.size, 1, none⟩) rfl _)
    exact ⟨none, 0, 0, rfl, ⟨rdsS_nil _, okV_nil _ _ _⟩, HR2.out.but hbs (fun e => by omega) (fun b hb e => by have := HOk.out b hb; omega), but_fresh ((But.below HB1.out).trans HB2.out) hbs (fun b hb => by omega)⟩
  have n1 : (x.t.toList == [100, 114, 111, 112]) = false := beq_eq_false_iff_ne.2 (str_ne h1)
  have n2 : (x.t.toList == [100, 101, 108, 105, 118, 101, 114]) = false := beq_eq_false_iff_ne.2 (str_ne h2)
  go_enter Tryz.func96, Tryz.ntmps96
  go_upto_region 1 with fail
  rw [← HW0.out]
  clear HW0
  have HW1 := Lib.hid (rword_any H0.out.r x hx)
  clear hx
  go_wp2_with fail
  refine HW1.out.mono ?_
  rintro e w1 ⟨rfl, hb1⟩
  have HR1 := Lib.hid (H0.out.below hb1)
  have HF := Lib.hid (fail_any HR1.out 51 x HX.out)
  have HB1 := Lib.hid (HB0.out.trans (hb1.mono HB0.out.size))
  have HH1 := Lib.hid ((hb1.block _ (by rw [HS0.out]; omega)).trans HH0.out)
  clear hb1 H0 HW1
  go_wp2_with fail
  refine HF.out.mono ?_
  rintro e w2 ⟨rfl, hr2, hb2⟩
  have hh2 := (hb2.block _ (Array.getElem?_eq_some_iff.1 HH1.out).1 (by omega)).trans HH1.out
  have t0 : w2.cell? ⟨w.heap.size, 0, none⟩ = some (.int .i64 0) := by simp [World.cell?, hh2]
  have t1 : w2.cell? ⟨w.heap.size, 1, none⟩ = some (.slice none 0 0) := by simp [World.cell?, hh2]
  have g0 : w2.frozen? ⟨w.heap.size, 0, none⟩ = false := by simp [World.frozen?, hh2]
  have g1 : w2.frozen? ⟨w.heap.size, 1, none⟩ = false := by simp [World.frozen?, hh2]
  have HR2 := Lib.hid hr2
  have HB2 := Lib.hid hb2
  have hP : Pr.act ws i = .error (51, i) := by unfold Pr.act; rw [HX.out, idx_names, if_neg h1, if_neg h2, if_neg H3.out, if_neg H4.out]; by_cases h0 : x.t = ⟨#[]⟩ <;> simp [h0]
  have HP := Lib.hid hP
  clear hr2 hb2 hh2 hP
  go_wp2_with fail
  refine bodyPost_ret (res_ract _ w.heap.size _ 0 none 0 0 rfl ?_ ?_) rfl ?_
  · exact cell_setd2 (cell_set_same _ t0) (by simp)
  · exact cell_set_same _ (cell_setd2 t1 (by simp))
  unfold RActPost
  rw [HP.out]
  have hbs : But (fun b => b = w.heap.size) w2 ((w2.setCell ⟨w.heap.size, 0, none⟩ (.int .i64 0)).setCell ⟨w.heap.size, 1, none⟩ (.slice none 0 0)) := (But.set (S := fun b => b = w.heap.size) (a := ⟨w.heap.size, 0, none⟩) rfl _).trans (But.set (S := fun b => b = w.heap.size) (a := ⟨w.heap.size, 1, none⟩) rfl _)
  refine ⟨⟨0, none, 0, 0, rfl⟩, ⟨i, ?_⟩, but_fresh ((But.below HB1.out).trans HB2.out) hbs (fun b hb => by omega)⟩
  rw [HX.out]
  exact HR2.out.but hbs (fun e => by omega) (fun b hb e => by have := HOk.out b hb; omega)
namespace Pr
theorem putL_len (l : List (List UInt8)) (t : List UInt8) : (putL l t).length ≤ l.length + 1 := by
  unfold putL
  split
  · omega
  · have h : ∀ l : List (List UInt8), (l.filter (fun x => decide (x < t))).length + (l.filter (fun x => decide (t < x))).length ≤ l.length := by
      intro l
      induction l with
      | nil => simp
      | cons a l ih =>
        simp only [List.filter_cons, List.length_cons]
        by_cases h1 : a < t
        · have h2 : ¬ t < a := fun h => List.lt_irrefl _ (List.lt_trans h1 h)
          simp [h1, h2]; omega
        · by_cases h2 : t < a
          · simp [h1, h2]; omega
          · simp [h1, h2]; omega
    have := h l
    simp; omega
theorem foldl_put_len : ∀ (T l : List (List UInt8)), (T.foldl putL l).length ≤ l.length + T.length
  | [], l => by simp
  | s :: T, l => by
    have h1 := foldl_put_len T (putL l s)
    have h2 := putL_len l s
    simp only [List.foldl_cons, List.length_cons]
    omega
theorem foldl_put_snoc (T : List (List UInt8)) (s : List UInt8) : (T ++ [s]).foldl putL [] = putL (T.foldl putL []) s := by rw [List.foldl_append]; rfl
end Pr
theorem knownB_take {L : List Rl} {i : Nat} (h : i < L.length) (p : Int) (m : ByteArray) : knownB (L.take (i + 1)) p m = (knownB (L.take i) p m || (p == L[i].p && decide (m = L[i].m))) := by
  unfold knownB
  rw [List.take_succ_eq_append_getElem h, List.any_append]
  simp
theorem knownB_of {L : List Rl} {i : Nat} {p : Int} {m : ByteArray} (h : i < L.length) (hp : L[i].p = p) (hm : L[i].m = m) : knownB L p m = true :=
  (known_iff L p m).2 ⟨L[i], List.getElem_mem h, hp.symm, hm.symm⟩
set_option maxHeartbeats 1600000 in
set_option maxRecDepth 20000 in
theorem rknown_any {ok : Nat → Prop} {v : Value} {L : List Rl} {w : World} (h : RdsR ok w v L) (x : RC) :
    Calls Tryz.prog 45 #[v, .agg #[.int .i64 x.p, .string x.m, .int .i64 x.k, .slice x.a x.n x.c]] w fun e w' => e = .returned (.bool (knownB L x.p x.m)) ∧ Below w.heap.size w w' := by
  obtain ⟨ad, cap, rfl, hcap, hmax⟩ := h.form
  obtain ⟨n, hn⟩ : ∃ n, n = L.length := ⟨_, rfl⟩
  rw [← hn] at h hcap ⊢
  have HN := Lib.hid hn
  obtain ⟨W0, hW0⟩ : ∃ W0, W0 = w.alloc (.cells #[.int .i64 x.p, .string x.m, .int .i64 x.k, .slice x.a x.n x.c] 47) := ⟨_, rfl⟩
  have hb0 : Below w.heap.size w W0 := by rw [hW0]; exact (Below.refl _ _).alloc (Nat.le_refl _) _
  have hh0 : W0.heap[w.heap.size]? = some (.cells #[.int .i64 x.p, .string x.m, .int .i64 x.k, .slice x.a x.n x.c] 47 (0, 0)) := by rw [hW0]; exact heap_alloc_new _ _
  have z0 : W0.cell? ⟨w.heap.size, 0, none⟩ = some (.int .i64 x.p) := by simp [World.cell?, hh0]
  have z1 : W0.cell? ⟨w.heap.size, 1, none⟩ = some (.string x.m) := by simp [World.cell?, hh0]
  have hl0 : w.heap.size < W0.heap.size := (Array.getElem?_eq_some_iff.1 hh0).1
  have H := Lib.hid (h.below hb0)
  have HB0 := Lib.hid hb0
  have HW0 := Lib.hid hW0
  unfold maxLen at hmax
  clear h hn hb0 hh0 hW0
  go_enter Tryz.func45, Tryz.ntmps45
  go_upto_region 1 with fail
  rw [← HW0.out]
  clear HW0
  go_wp2_with fail
  go_loopw [5] (fun s5 wr => ∃ i : Nat, s5 = .int .i64 i ∧ i ≤ n ∧ Hid (knownB (L.take i) x.p x.m = false) ∧ Hid (Below W0.heap.size W0 wr)) (fun s5 _ => n - (intOf s5).toNat)
  case atStart => exact ⟨0, rfl, Nat.zero_le _, (by show _ = _; rfl), Below.refl _ _⟩
  case round =>
    obtain ⟨wo, rfl⟩ : ∃ wo : World, wo = wr := ⟨wr, rfl⟩
    obtain ⟨i, rfl, hin, HK, HB⟩ := hrel
    by_cases hlt : i < n
    · have hiL : i < L.length := by rw [← HN.out]; exact hlt
      obtain ⟨b, off, y, rfl, hb, _, y0, y1, y2, y3, hy⟩ := (H.out.below HB.out).get i hiL
      have Z0 := (HB.out.cell (p := ⟨w.heap.size, 0, none⟩) hl0).trans z0
      have Z1 := (HB.out.cell (p := ⟨w.heap.size, 1, none⟩) hl0).trans z1
      have hyp := hy.p
      have hym := hy.m
      have HKs : Hid (knownB (L.take (i + 1)) x.p x.m = (x.p == L[i].p && decide (x.m = L[i].m))) := by
        show _ = _
        rw [knownB_take hiL, HK.out, Bool.false_or]
      by_cases hp : y.p = x.p
      · by_cases hm : y.m = x.m
        · have e1 : (y.p == x.p) = true := by simpa using hp
          have e2 : (y.m.toList == x.m.toList) = true := by rw [hm]; simp
          have HF : Hid (knownB L x.p x.m = true) := knownB_of hiL (by rw [← hyp]; exact hp) (by rw [← hym]; exact hm)
          clear y2 y3 hy hyp hym hp hm
          go_wp2_with fail
          go_quiet (fail)
          go_wp2_with fail
          go_ret
          exact ⟨ret_bool HF.out.symm, HB0.out.trans ((below_dN HB.out nq).mono (by omega))⟩
        · have e1 : (y.p == x.p) = true := by simpa using hp
          have e2 : (y.m.toList == x.m.toList) = false := by rw [is_eq]; simpa using hm
          have HK2 : Hid (knownB (L.take (i + 1)) x.p x.m = false) := by
            show _ = _
            rw [HKs.out, ← hym]
            have : ¬ x.m = y.m := fun e => hm e.symm
            simp [this]
          clear y2 y3 hy hyp hym hp hm
          go_wp2_with fail
          go_quiet (fail)
          go_wp2_with fail
          go_roundw
          case rel => exact ⟨i + 1, by first | rfl | go_num, by omega, HK2, below_dN HB.out nq⟩
          case measure => simp [intOf]; omega
      · have e1 : (y.p == x.p) = false := by simpa using hp
        have HK2 : Hid (knownB (L.take (i + 1)) x.p x.m = false) := by
          show _ = _
          rw [HKs.out, ← hyp]
          have : ¬ x.p = y.p := fun e => hp e.symm
          simp [this]
        clear y2 y3 hy hyp hym hp
        go_wp2_with fail
        go_quiet (fail)
        go_wp2_with fail
        go_roundw
        case rel => exact ⟨i + 1, by first | rfl | go_num, by omega, HK2, below_dN HB.out nq⟩
        case measure => simp [intOf]; omega
    · have hie : i = L.length := by rw [← HN.out]; omega
      have HF : Hid (knownB L x.p x.m = false) := by
        have := HK.out
        rw [hie, List.take_length] at this
        exact this
      clear hie
      go_wp2_with fail
      go_ret
      exact ⟨ret_bool HF.out.symm, HB0.out.trans (HB.out.mono (by omega))⟩
end Go.Proofs.YtlamhpiiikcpiaaGreatDoor
