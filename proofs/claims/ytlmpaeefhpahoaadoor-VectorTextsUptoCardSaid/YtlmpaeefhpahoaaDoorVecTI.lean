/-
  Walks: what the code's Read calls: Cut, Atoi, ParseUint, Split, at any text.
-/
import Derived.BigQuiet
import Derived.Test.YtlmpaeefhpahoaaDoorVecTH
namespace Go.Proofs.YtlmpaeefhpahoaaDoor
open Go.RowKit

/-- What is or is not an error. -/
def ErrShape (v : Value) : Prop := v = .nilIface ∨ ∃ te pe, v = .iface te pe

/-- The cells of the library's variables that the walks read. -/
def DoorOk (w : World) : Prop := (∃ m, w.cell? ⟨0, 0, none⟩ = some (.int .i64 m)) ∧ (∃ v, w.cell? ⟨1, 0, none⟩ = some v ∧ ErrShape v) ∧ (∃ v, w.cell? ⟨2, 0, none⟩ = some v ∧ ErrShape v)

theorem lt_of_cell {w : World} {a : Addr} {v : Value} (h : w.cell? a = some v) : a.block < w.heap.size := by
  unfold World.cell? at h
  split at h
  · rename_i hb; exact (Array.getElem?_eq_some_iff.1 hb).1
  · cases h

theorem DoorOk.below {w w' : World} (h : DoorOk w) (hb : Below w.heap.size w w') : DoorOk w' := by
  obtain ⟨⟨m, h1⟩, ⟨v1, h2, s1⟩, ⟨v2, h3, s2⟩⟩ := h
  exact ⟨⟨m, (hb.cell (p := ⟨0, 0, none⟩) (lt_of_cell h1)).trans h1⟩, ⟨v1, (hb.cell (p := ⟨1, 0, none⟩) (lt_of_cell h2)).trans h2, s1⟩, ⟨v2, (hb.cell (p := ⟨2, 0, none⟩) (lt_of_cell h3)).trans h3, s2⟩⟩

theorem bytesWorld_below (w : World) (t : TypeId) (s : ByteArray) : Below w.heap.size w (Lib.bytesWorld w t s) := by
  first | exact Lib.bytesWorld_below .. | exact (Below.refl w.heap.size w).alloc (Nat.le_refl _) _ | (unfold Lib.bytesWorld; exact (Below.refl w.heap.size w).alloc (Nat.le_refl _) _)

theorem Cut_any (s : ByteArray) (w : World) (hd : DoorOk w) (hs : s.size ≤ 1048576) :
    Calls Tryd.prog 47 #[.string s, .string ⟨#[58]⟩] w fun e w' => ∃ A B : ByteArray, ∃ c, e = .returned (.tuple #[.string A, .string B, .bool c]) ∧ Hid (A.data.toList = (Lib.cut s.data.toList [58]).1) ∧ Hid (B.data.toList = (Lib.cut s.data.toList [58]).2.1) ∧ A.size ≤ s.size ∧ B.size ≤ s.size ∧ ∃ n, w' = w.drewN n := by
  obtain ⟨⟨m, h1⟩, _⟩ := hd
  refine (Tryd.strings_Cut s ⟨#[58]⟩ m w (by omega) h1).mono ?_
  rintro e w' ⟨rfl, n, rfl⟩
  refine ⟨_, _, _, rfl, rfl, rfl, ?_, ?_, n, rfl⟩
  · show (Lib.cut s.data.toList [58]).1.length ≤ s.data.size
    rw [← Array.length_toList]
    unfold Lib.cut
    split <;> simp
    omega
  · show (Lib.cut s.data.toList [58]).2.1.length ≤ s.data.size
    rw [← Array.length_toList]
    unfold Lib.cut
    split <;> simp

theorem Atoi_any (s : ByteArray) (w : World) (hd : DoorOk w) (hs : s.size ≤ 1048576) :
    Calls Tryd.prog 48 #[.string s] w fun e w' => ∃ a ev, e = .returned (.tuple #[.int .i64 a, ev]) ∧ ((ev = .nilIface ∧ Hid (Lib.atoiAll s.data.toList = .ok a)) ∨ ((∃ N, ev = .iface 106 (.pointer (some ⟨N, 0, none⟩))) ∧ Hid (∀ a', Lib.atoiAll s.data.toList ≠ .ok a'))) ∧ Below w.heap.size w w' := by
  obtain ⟨_, ⟨v1, h1, s1⟩, ⟨v2, h2, s2⟩⟩ := hd
  cases h : Lib.atoiAll s.data.toList with
  | ok a =>
    refine (Tryd.strconv_Atoi_ok s (by omega) a h w).mono ?_
    rintro e w' ⟨rfl, hw⟩
    refine ⟨a, _, rfl, .inl ⟨rfl, rfl⟩, ?_⟩
    rcases hw with rfl | ⟨t, rfl⟩
    · exact Below.refl _ _
    · exact bytesWorld_below _ _ _
  | «syntax» =>
    refine (Tryd.strconv_Atoi_syntax s (by omega) h v1 w h1 s1).mono ?_
    rintro e w' ⟨N, rfl, _, _, hb⟩
    exact ⟨_, _, rfl, .inr ⟨⟨N, rfl⟩, fun a' h' => by cases h'⟩, hb⟩
  | range =>
    refine (Tryd.strconv_Atoi_range s (by omega) h v2 w h2 s2).mono ?_
    rintro e w' ⟨N, rfl, _, _, hb⟩
    exact ⟨_, _, rfl, .inr ⟨⟨N, rfl⟩, fun a' h' => by cases h'⟩, hb⟩

theorem ParseUint_any (s : ByteArray) (w : World) (hd : DoorOk w) (hs : s.size ≤ 1048576) :
    Calls Tryd.prog 49 #[.string s, .int .i64 10, .int .i64 64] w fun e w' => ∃ b : Nat, ∃ ev, e = .returned (.tuple #[.int .u64 b, ev]) ∧ ((ev = .nilIface ∧ Hid (Lib.parseUintB 64 s.data.toList = .ok b)) ∨ ((∃ N, ev = .iface 106 (.pointer (some ⟨N, 0, none⟩))) ∧ Hid (∀ a', Lib.parseUintB 64 s.data.toList ≠ .ok a'))) ∧ Below w.heap.size w w' := by
  obtain ⟨_, ⟨v1, h1, s1⟩, ⟨v2, h2, s2⟩⟩ := hd
  cases h : Lib.parseUintB 64 s.data.toList with
  | ok b =>
    refine (Tryd.strconv_ParseUint_10_at64_ok s (by omega) b h w).mono ?_
    rintro e w' ⟨rfl, hw⟩
    refine ⟨b, _, rfl, .inl ⟨rfl, rfl⟩, ?_⟩
    rcases hw with rfl | rfl
    · exact Below.refl _ _
    · exact bytesWorld_below _ _ _
  | «syntax» =>
    refine (Tryd.strconv_ParseUint_10_at64_syntax s (by omega) h v1 w h1 s1).mono ?_
    rintro e w' ⟨N, rfl, _, _, hb⟩
    exact ⟨0, _, rfl, .inr ⟨⟨N, rfl⟩, fun a' h' => by cases h'⟩, hb⟩
  | range =>
    refine (Tryd.strconv_ParseUint_10_at64_range s (by omega) h v2 w h2 s2).mono ?_
    rintro e w' ⟨N, rfl, _, _, hb⟩
    exact ⟨18446744073709551615, _, rfl, .inr ⟨⟨N, rfl⟩, fun a' h' => by cases h'⟩, hb⟩

theorem pieces_sum : ∀ (s : List UInt8), ((Tx.pieces s).map fun p => p.length + 1).sum = s.length + 1
  | [] => rfl
  | c :: r => by
    have ih := pieces_sum r
    unfold Tx.pieces
    split
    · rw [List.map_cons, List.sum_cons, ih]; simp; omega
    · split
      · rename_i h; exact absurd h (Tx.pieces_ne r)
      · rename_i h
        rw [h] at ih
        simp at ih ⊢
        omega

theorem Split_any (s : ByteArray) (w : World) (hd : DoorOk w) (hs : s.size ≤ 1048576) :
    Calls Tryd.prog 46 #[.string s, .string ⟨#[32]⟩] w fun e w' => ∃ L : List ByteArray, L.length ≤ s.size + 1 ∧ e = .returned (.slice (some ⟨w.heap.size, 0, none⟩) L.length L.length) ∧ Hid (L.map (·.data.toList) = Tx.pieces s.data.toList) ∧ w' = w.alloc (.cells (L.map Value.string).toArray 9) := by
  obtain ⟨⟨m, h1⟩, _⟩ := hd
  refine (Tryd.strings_Split s ⟨#[32]⟩ m w (by omega) h1 (Nat.le_refl _)).mono ?_
  rintro e w' ⟨rfl, rfl⟩
  have hc : Lib.countB s ⟨#[32]⟩ = s.data.toList.count 32 := Lib.count_one 32 s.data.toList
  have hl := Lib.splitB_all ⟨#[32]⟩ (Nat.le_refl _) 0 _ s rfl
  have hle := Lib.countB_le ⟨#[32]⟩ (Nat.le_refl _) s.size s (Nat.le_refl _)
  refine ⟨Lib.splitB ⟨#[32]⟩ 0 (Lib.countB s ⟨#[32]⟩) s, by omega, by rw [hl], ?_, rfl⟩
  show _ = _
  rw [Lib.splitB_data, hc]
  exact Tx.split_pieces _
end Go.Proofs.YtlmpaeefhpahoaaDoor
