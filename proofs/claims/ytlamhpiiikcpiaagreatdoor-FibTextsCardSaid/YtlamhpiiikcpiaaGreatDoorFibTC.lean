/-
  Walks: FibTexts.
-/
import Derived.Test.YtlamhpiiikcpiaaGreatDoorFibTB
import Derived.BigQuiet
import Derived.Deep.RegionHeld3
namespace Go.Proofs.YtlamhpiiikcpiaaGreatDoor
open Go.RowKit Go.Shelf Go.Lib Go.Sort
set_option linter.unusedVariables false
set_option linter.unusedSectionVars false
set_option linter.unusedSimpArgs false
theorem Tab.less {vo wo : Nat} {ok : Nat → Prop} {w : World} {tb : Nat} {v : Value} {L : List Rl} {W : Int} (h : Tab vo wo ok w tb v L W) : Tab vo wo (fun b => ok b ∧ b < w.heap.size) w tb v L W :=
  ⟨h.c0, h.c1, h.f0, h.rd.lt, fun b hb => h.no b hb.1, h.lo, h.hi⟩
theorem load_back {L : List Rl} {W : Int} {t : List UInt8} (hO : Fb.Ok W L) (h : Pr.print L W = .ok t) (hs : ¬ (1048576 : Int) < (Wd.mkB t).size) : loadL (Wd.mkB t) W [] = (0, 0, 0, L) := by
  unfold loadL
  rw [Pr.parse_printX h (by rw [← Wd.mkB_size]; exact hs)]
  simp only
  rw [Pr.order_id hO]
theorem load_long {L : List Rl} {W : Int} {s : ByteArray} (hs : (1048576 : Int) < s.size) : loadL s W L = (0, 0, 2, L) := by
  unfold loadL Pr.parseX
  rw [if_pos hs]
  rfl
set_option maxHeartbeats 3200000 in
set_option maxRecDepth 20000 in
theorem FibTexts_walk (W : Int) (v1 : Value) (l : List (Int × Rl)) (s : ByteArray) (w : World) (h1 : RdsC (fun _ => True) w v1 l) (z1 : l.length * 64 ≤ 140737488351232) (ht : Tab10 w) :
    Calls Tryz.prog 3 #[.int .i64 W, v1, .string s] w fun e w' => e = .returned (.bool true) ∧ Below w.heap.size w w' := by
  have HAw : Hid (∀ Wx, Calls Tryz.prog 6 #[] Wx fun e w' => e = .returned (.bool true) ∧ Below Wx.heap.size Wx w') := fun Wx => awake_any Wx
  have HTt := Lib.hid ht
  by_cases hW : W < 1 ∨ W > 128
  · have HM := Lib.hid (made_bad W v1 w hW)
    clear h1 hW ht
    go_enter Tryz.func3, Tryz.ntmps3
    go_wp2_with fail
    refine HM.out.mono ?_
    rintro e w1 ⟨rfl, rfl⟩
    go_wp2_with fail
    refine (HAw.out _).mono ?_
    rintro e w2 ⟨rfl, hb⟩
    have HB := Lib.hid hb
    clear hb
    go_wp2_with fail
    go_ret
    exact ⟨rfl, HB.out⟩
  have hW1 : 1 ≤ W := by omega
  have hW2 : W ≤ 128 := by omega
  have HM := Lib.hid (made_ok W v1 l w hW1 hW2 h1 z1)
  have HNw : Hid (∀ Wx, Calls Tryz.prog 9 #[.int .i64 W] Wx fun e w' => e = .returned (.tuple #[.pointer (some ⟨Wx.heap.size, 0, none⟩), .int .i64 0]) ∧ w' = Wx.alloc (.cells #[.slice none 0 0, .int .i64 W] 53)) := fun Wx => new_ok W Wx hW1 hW2
  have HN2 : Hid (∀ Wx : World, Tab 0 1 (fun _ => False) (Wx.alloc (.cells #[.slice none 0 0, .int .i64 W] 53)) Wx.heap.size (.slice none 0 0) [] W) := fun Wx => tab_new Wx W hW1 hW2
  obtain ⟨L, hL⟩ : ∃ L, L = Fb.mkL W (l.take 100) := ⟨_, rfl⟩
  have HOk : Hid (Fb.Ok W L) := by rw [hL]; exact Fb.mkL_ok W _
  have HL := Lib.hid hL
  obtain ⟨t, hpt⟩ := Pr.print_some HOk.out hW1 hW2
  have HPt := Lib.hid hpt
  obtain ⟨a, ha⟩ : ∃ a, a = Wd.mkB t := ⟨_, rfl⟩
  have HA := Lib.hid ha
  obtain ⟨S, hS⟩ : ∃ S, S = loadL s W L := ⟨_, rfl⟩
  have HS := Lib.hid hS
  have HSf : Hid (S.2.2.2.length ≤ 4096) := by show _ ≤ _; rw [hS]; exact loadL_few HOk.out.few
  obtain ⟨x1, x2, x3, LS⟩ := S
  simp only at HSf
  clear h1 hW hL hS hpt ha ht hW1 hW2
  go_enter Tryz.func3, Tryz.ntmps3
  go_wp2_with fail
  refine HM.out.mono ?_
  rintro e w1 ⟨hb1, tb, rb, v, vr, htb, hrb, hne, rfl, hT, hR⟩
  rw [← HL.out] at hT hR
  have HB1 := Lib.hid hb1
  have HT1 := Lib.hid hT
  have HR1 := Lib.hid hR
  clear hb1 hT hR
  go_wp2_with fail
  refine (HAw.out _).mono ?_
  rintro e w2 ⟨rfl, hb2⟩
  have HB2 : Hid (Below w.heap.size w w2) := HB1.out.trans (hb2.mono HB1.out.size)
  have HT2 := Lib.hid (HT1.out.below hb2)
  have HR2 := Lib.hid (HR1.out.below hb2)
  have HX2 := Lib.hid (text_tab HT2.out HPt.out (tab10_below HTt.out HB2.out))
  rw [← HA.out] at HX2
  clear hb2
  go_wp2_with fail
  refine HX2.out.mono ?_
  rintro e w3 ⟨rfl, hb3⟩
  have HB3 : Hid (Below w.heap.size w w3) := HB2.out.trans (hb3.mono HB2.out.size)
  have HT3 := Lib.hid (HT2.out.below hb3)
  have HR3 := Lib.hid (HR2.out.below hb3)
  have HX3 := Lib.hid (rtext_tab HR3.out HPt.out (tab10_below HTt.out HB3.out))
  rw [← HA.out] at HX3
  clear hb3
  go_wp2_with fail
  refine HX3.out.mono ?_
  rintro e w4 ⟨rfl, hb4⟩
  have HB4 : Hid (Below w.heap.size w w4) := HB3.out.trans (hb4.mono HB3.out.size)
  have hT4 := (HT3.out.below hb4).less
  have hR4 := (HR3.out.below hb4).less
  obtain ⟨W5, hW5⟩ : ∃ W5, W5 = w4.alloc (.cells #[.slice none 0 0, .int .i64 W] 53) := ⟨_, rfl⟩
  have hb5 : Below w4.heap.size w4 W5 := by rw [hW5]; exact (Below.refl _ _).alloc (Nat.le_refl _) _
  have hs5 : W5.heap.size = w4.heap.size + 1 := by rw [hW5]; simp
  have hO5 : Tab 0 1 (fun _ => False) W5 w4.heap.size (.slice none 0 0) [] W := by rw [hW5]; exact HN2.out w4
  obtain ⟨ob, hob⟩ : ∃ ob, ob = w4.heap.size := ⟨_, rfl⟩
  rw [← hob] at hO5 hs5 hT4 hR4
  have hlt : tb < w4.heap.size := hT4.lt
  have hlr : rb < w4.heap.size := hR4.lt
  have HT5 := Lib.hid (hT4.below hb5)
  have HR5 := Lib.hid (hR4.below hb5)
  have HO5 := Lib.hid hO5
  have hob0 : w.heap.size ≤ ob := by rw [hob]; exact HB4.out.size
  have HB5 : Hid (Below w.heap.size w W5) := HB4.out.trans (hb5.mono HB4.out.size)
  have HLo := Lib.hid (load_tab a HO5.out)
  have htn : tb ≠ ob := by omega
  have hrn : rb ≠ ob := by omega
  have HTn := Lib.hid htn
  have HRn := Lib.hid hrn
  have HS5 := Lib.hid hs5
  have HW5 := Lib.hid hW5
  have HOb := Lib.hid hob
  have HOb0 := Lib.hid hob0
  clear hb4 hb5 hs5 hO5 hob hlt hlr hob0 hW5 hT4 hR4 htn hrn
  go_wp2_with fail
  refine (HNw.out _).mono ?_
  rintro e w5 ⟨rfl, rfl⟩
  rw [← HW5.out, ← HOb.out]
  clear HW5 HNw
  by_cases hlen : (1048576 : Int) < a.size
  · have HLl := Lib.hid (load_long (L := []) (W := W) hlen)
    go_wp2_with fail
    refine HLo.out.mono ?_
    intro e w6 hp
    unfold LoadPost at hp
    rw [HLl.out] at hp
    obtain ⟨rfl, _, hbt⟩ := hp
    have HB6 : Hid (Below w.heap.size w w6) := HB5.out.trans (hbt.toBelow HB5.out.size (fun k hk => by rw [hk]; exact HOb0.out))
    clear hbt
    go_upto_region 12 with fail
    go_quiet (fail)
    go_wp2_with fail
    go_ret
    exact ⟨rfl, by first | exact below_dN HB6.out _ | exact HB6.out⟩
  have HLs : Hid (loadL a W [] = (0, 0, 0, L)) := by
    show _ = _
    rw [HA.out] at hlen ⊢
    exact load_back HOk.out HPt.out hlen
  go_wp2_with fail
  refine HLo.out.mono ?_
  intro e w6 hp
  unfold LoadPost at hp
  rw [HLs.out] at hp
  obtain ⟨rfl, ⟨v6, hO6⟩, hbt6⟩ := hp
  have HB6 : Hid (Below w.heap.size w w6) := HB5.out.trans (hbt6.toBelow HB5.out.size (fun k hk => by rw [hk]; exact HOb0.out))
  have HT6 := Lib.hid (HT5.out.but hbt6 HTn.out (fun b hb e => by have := hb.2; omega))
  have HR6 := Lib.hid (HR5.out.but hbt6 HRn.out (fun b hb e => by have := hb.2; omega))
  have HO6 := Lib.hid hO6
  have hTl := HT6.out.lt
  have hRl := HR6.out.lt
  have HTl := Lib.hid hTl
  have HRl := Lib.hid hRl
  have c6 := HR6.out.c0
  have HRu := Lib.hid (rules_loose HO6.out HOk.out.few)
  have HSa := Lib.hid (same_loose (L := L) (w := w6))
  clear hO6 hbt6 hTl hRl
  go_upto_region 12 with fail
  go_region_with (first
    | (go_at_call 12; refine (HRu.out _ (by repeat (first | (with_reducible exact Below.refl _ _) | (with_reducible refine Below.drew ?_)))).mono ?_; rintro _ w7 ⟨ad7, n7, c7, rfl, hr7, hb7⟩; have c7' := ((HR6.out.below hb7).c0); have HR7 := Lib.hid hr7; have HB7 := Lib.hid hb7; clear hr7 hb7)
    | (go_at_call 11; refine (HSa.out _ _ _ _ _ HR7.out (HR6.out.below HB7.out).rd HB7.out).mono ?_; rintro _ w8 ⟨rfl, hb8⟩; have HB8 := Lib.hid hb8; clear hb8))
  all_goals
    have HT8 := Lib.hid (HT6.out.below HB8.out)
    have HR8 := Lib.hid (HR6.out.below HB8.out)
    have hB8 : Below w.heap.size w w8 := HB6.out.trans (HB8.out.mono HB6.out.size)
    have HB08 := Lib.hid hB8
    have hl8 := hB8.size
    have htl : tb < w8.heap.size := HT8.out.lt
    have hrl : rb < w8.heap.size := HR8.out.lt
    have hd := load_tab s HT8.out
    unfold LoadPost at hd
    rw [← HS.out] at hd
    simp only at hd
    have HD := Lib.hid hd
    clear hd hB8 c6 c7'
    go_wp2_with fail
    refine HD.out.mono ?_
    rintro e w9 ⟨rfl, ⟨v9, hT9⟩, hbt9⟩
    have HT9 := Lib.hid hT9
    have HR9 := Lib.hid (HR8.out.but hbt9 (fun e => hne e.symm) (fun b hb e => hb.1.2.1 e))
    have hs9 := hbt9.size
    have HBt9 := Lib.hid hbt9
    have hd := rload_tab s HR9.out
    unfold LoadPost at hd
    rw [← HS.out] at hd
    simp only at hd
    have HD2 := Lib.hid hd
    clear hd hT9 hbt9
    go_wp2_with fail
    refine HD2.out.mono ?_
    rintro e w10 ⟨rfl, ⟨v10, hR10⟩, hbt10⟩
    have HR10 := Lib.hid hR10
    have HT10 := Lib.hid (HT9.out.but hbt10 (fun e => hne e) (fun b hb e => hb.elim (fun h => h.1.1.2.2 e) (fun h => by omega)))
    have HB10 : Hid (Below w.heap.size w w10) := (HB08.out.trans (HBt9.out.toBelow hl8 (fun k hk => by omega))).trans (hbt10.toBelow (by omega) (fun k hk => by omega))
    obtain ⟨n10, hn10⟩ : ∃ n10, n10 = LS.length := ⟨_, rfl⟩
    have HRu10 := Lib.hid (rules_loose HT10.out HSf.out)
    have HSa10 := Lib.hid (same_loose (L := LS) (w := w10))
    obtain ⟨ad10, cp10, rfl, _, _⟩ := HR10.out.rd.form
    rw [← hn10] at HR10
    have c10 := HR10.out.c0
    clear hR10 hbt10 hn10
    go_upto_region 16 with fail
    go_region_held3 (fun w' => w'.cell? ⟨rb, 1, none⟩ = some (.slice ad10 n10 cp10)) (first | assumption | go_keep) (first
      | (go_at_call 12; refine (HRu10.out _ (by repeat (first | (with_reducible exact Below.refl _ _) | (with_reducible refine Below.drew ?_)))).mono ?_; rintro _ w11 ⟨ad11, n11, c11, rfl, hr11, hb11⟩; have c11' := ((HR10.out.below hb11).c0); have HR11 := Lib.hid hr11; have HB11 := Lib.hid hb11; clear hr11 hb11)
      | (go_at_call 11; refine (HSa10.out _ _ _ _ _ HR11.out (HR10.out.below HB11.out).rd HB11.out).mono ?_; rintro _ w12 ⟨rfl, hb12⟩; have HB12 := Lib.hid hb12; have c12 := ((HR10.out.below hb12).c0); clear hb12))
    all_goals
      go_wp2_with fail
      go_ret
      exact ⟨rfl, HB10.out.trans (HB12.out.mono HB10.out.size)⟩
end Go.Proofs.YtlamhpiiikcpiaaGreatDoor
