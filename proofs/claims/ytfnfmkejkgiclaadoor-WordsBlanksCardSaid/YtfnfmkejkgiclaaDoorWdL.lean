/-
  Walks over the laws of words: cut, alive.
-/
import Derived.Test.YtfnfmkejkgiclaaDoorWdK
import Derived.Test.YtfnfmkejkgiclaaDoorWdH
namespace Go.Proofs.YtfnfmkejkgiclaaDoor
open Go.RowKit Go.Shelf
set_option linter.unusedVariables false
set_option linter.unusedSimpArgs false

def cutB (s : ByteArray) : ByteArray := if 4000 < s.size then s.extract 0 4000 else s
theorem cutB_size (s : ByteArray) : (cutB s).size ≤ 4000 := by
  unfold cutB
  split
  · rw [ByteArray.size_extract]; omega
  · omega

theorem cut_any (s : ByteArray) (w : World) : Calls Tryd.prog 10 #[.string s] w fun e w' => e = .returned (.string (cutB s)) ∧ w = w' := by
  by_cases h : 4000 < s.size
  · have hz : (4000 : Int) < (s.size : Int) := by omega
    have hz2 : (4000 : Int) ≤ (s.size : Int) := by omega
    have he : Hid (cutB s = s.extract 0 4000) := by show _ = _; unfold cutB; rw [if_pos h]
    clear h
    go_enter Tryd.func10, Tryd.ntmps10
    go_wp2_with fail
    go_ret
    rw [he.out]
    exact ⟨rfl, rfl⟩
  · have hz : decide ((4000 : Int) < (s.size : Int)) = false := by simp; omega
    have he : Hid (cutB s = s) := by show _ = _; unfold cutB; rw [if_neg h]
    clear h
    go_enter Tryd.func10, Tryd.ntmps10
    go_wp2_with fail
    go_ret
    rw [he.out]
    exact ⟨rfl, rfl⟩

def aliveT : ByteArray := ⟨#[97, 45, 62, 98, 32, 60, 61, 50]⟩
def aliveW : List Wrd := [⟨⟨#[97]⟩, 1, 1⟩, ⟨⟨#[45, 62]⟩, 1, 2⟩, ⟨⟨#[98]⟩, 1, 4⟩, ⟨⟨#[60, 61]⟩, 1, 6⟩, ⟨⟨#[50]⟩, 1, 8⟩]
theorem alive_lines : Wd.lines aliveT.data.toList = .ok [aliveW] := by kernel_rfl
theorem alive_say : Wd.say ([(⟨#[97]⟩ : ByteArray), ⟨#[98]⟩, ⟨#[45, 62]⟩].map fun x => x.data.toList) = some [97, 32, 98, 45, 62] := by kernel_rfl

theorem alive_say_any (v : Value) (w : World) (hr : RdsS w v [(⟨#[97]⟩ : ByteArray), ⟨#[98]⟩, ⟨#[45, 62]⟩]) :
    Calls Tryd.prog 14 #[v] w fun e w' => e = .returned (.tuple #[.string ⟨#[97, 32, 98, 45, 62]⟩, .int .i64 0]) ∧ Below w.heap.size w w' :=
  (say_any v _ w hr (by decide) (by decide)).mono fun e w' h => by
    unfold SayPost at h
    rw [alive_say] at h
    exact h

set_option maxHeartbeats 3200000 in
set_option maxRecDepth 20000 in
theorem alive_any (w : World) : Calls Tryd.prog 9 #[] w fun e w' => e = .returned (.bool true) ∧ Below w.heap.size w w' := by
  have HL := Lib.hid (fun W => lines_ok aliveT W (by decide) [aliveW] alive_lines)
  go_enter Tryd.func9, Tryd.ntmps9
  go_wp2_with fail
  refine (HL.out _).mono ?_
  rintro e w1 ⟨ad, cap, rfl, hr, hb⟩
  have HB := Lib.hid hb
  obtain ⟨b, off, adw, capw, rfl, hlt, hcell, hrw⟩ := rdsLn_one hr
  have HRw := Lib.hid hrw
  clear hb hr hrw
  go_wp2_with fail
  refine (alive_say_any _ _ (rdsS_lit (l := [(⟨#[97]⟩ : ByteArray), ⟨#[98]⟩, ⟨#[45, 62]⟩]) (World.alloc_heap_new w1 _) (by simp [maxLen]))).mono ?_
  rintro e w2 ⟨rfl, hb2⟩
  have hb3 : Below w1.heap.size w1 w2 := ((Below.refl _ _).alloc (Nat.le_refl _) _).trans (hb2.mono (by simp))
  have h2cell := (hb3.cell (p := ⟨b, off, none⟩) hlt).trans hcell
  obtain ⟨ad', cap', e, _, _, hg⟩ := HRw.out.below hb3
  injection e with e1 _ _
  subst e1
  obtain ⟨bw, ow, rfl, hbl, _, k0, k1, k2⟩ := hg 1 (by decide)
  obtain ⟨bw', ow', e2, _, _, q0, _⟩ := hg 4 (by decide)
  injection e2 with e2
  injection e2 with e2 e3
  subst e2 e3
  have HB3 := Lib.hid hb3
  clear hb2 hb3 hcell hg
  have k0' : w2.cell? ⟨bw, ow + 3, none⟩ = some (.string ⟨#[45, 62]⟩) := k0
  have k1' : w2.cell? ⟨bw, ow + 3 + 1, none⟩ = some (.int .i64 1) := k1
  have k2' : w2.cell? ⟨bw, ow + 3 + 2, none⟩ = some (.int .i64 2) := k2
  have q0' : w2.cell? ⟨bw, ow + 12, none⟩ = some (.string ⟨#[50]⟩) := q0
  clear k0 k1 k2 q0
  go_wp2_with fail
  go_ret
  exact ⟨rfl, HB.out.trans (HB3.out.mono HB.out.size)⟩
end Go.Proofs.YtfnfmkejkgiclaaDoor
