/-
  The wrap of a tied card's row that hands on that the first world is shaped.
-/
import Derived.HandedShaped
import Derived.Test.YtlamhpiiikcpiaaGreatDoorProg
import Derived.SizedLaws
import Derived.SliceStrings
import Derived.ProofKit
import Derived.Deep.Slices
import Derived.Deep.Strs
import Derived.Test.YtlamhpiiikcpiaaGreatDoorRgC
import Derived.Lib.LaidTab
import Derived.LaidLaws
import Derived.Test.YtlamhpiiikcpiaaGreatDoorFtB
namespace Go.Proofs.YtlamhpiiikcpiaaGreatDoor
theorem handed_both {H : Type} {enc : TypeId × Value → H} {a : Assume} {C : Checked} {os : Os} {f : FuncId} {fn : Func} {s : ChangeSpec} {conds : List PathCond} {apart fresh handsOn again : Bool} {X : World → Array Value → Prop}
    (hX : ∀ (w w' : World) (args : Array Value), w.heap = w'.heap → X w args → X w' args)
    (own : ownKnob C.prog.godebug = none) (started : os.Started) (noInit : C.prog.inits.idxOf? f = none) (hfn : C.prog.funcs[f]? = some fn)
    (witness : ∃ (w : World) (tape : Tape) (i : Input), w.os = os ∧ (w.forCall tape i).Shaped C.prog ∧ i.vars = [] ∧ Input.okWide C.prog (w.forCall tape i) .any w.heap.size f i ∧
      ((s.pre enc C.prog fn conds apart (w.forCall tape i).memory i.args ∧ X (w.forCall tape i).memory i.args) ∧ sizedMet enc C.prog fn (OpenSpec.ofChange s) apart (w.forCall tape i).memory i.args) ∧ a.holds C.prog (lone (Frame.enter C.prog f i.args .normal) [] (w.forCall tape i)))
    (contract : ∀ (W : World) (base : Nat) (args : Array Value) (ds gs : List (DataW H)) (before : List MemPlace),
      (∀ (j : Nat) t v, fn.params[j]? = some t → args[j]? = some v → Value.okWide C.prog W .any base t v) →
      DataW.Whole enc C.prog fn.params.toList s.vars apart W args.toList ds gs before →
      (DataW.weightsEach C.prog (fn.params.toList ++ s.plain.varTypes C.prog) (ds ++ gs)).all (· ≤ reachBytes) = true → X W args → W.ShapedOpen C.prog →
      Calls C.prog f args W fun e W' => ∃ v, e = .returned v ∧ s.post enc C.prog fn apart fresh handsOn again W args v W') :
    ReturnsInHanded a C os f .any (fun w args => (s.pre enc C.prog fn conds apart w args ∧ X w args) ∧ sizedMet enc C.prog fn (OpenSpec.ofChange s) apart w args) (s.post enc C.prog fn apart fresh handsOn again) := by
  refine returnsInHanded_of_calls own started noInit witness ?_
  intro w tape i _ hsh _ hok hpre _
  obtain ⟨_, _, _, fn', hfn', _, _, _, _, hval⟩ := hok
  have e : fn' = fn := Option.some.inj (hfn'.symm.trans hfn)
  subst e
  obtain ⟨⟨⟨ds, gs, before, hw, _⟩, hx⟩, hz⟩ := hpre
  have hw' := DataW.Whole.of_heap (w' := w.forCall tape i) (by rfl) hw
  refine (contract (w.forCall tape i) w.heap.size i.args ds gs before hval hw' (hz.weights hw) (hX _ _ _ (by rfl) hx) hsh).mono fun e W' ⟨v, he, hp⟩ => ?_
  subst he
  exact ChangeSpec.post_blind hp
end Go.Proofs.YtlamhpiiikcpiaaGreatDoor
/-
  Slices of rules that came in read as rules, and are no longer than their weights allow.
-/
namespace Go.Proofs.YtlamhpiiikcpiaaGreatDoor
open Go.ChangeShapes Go.WideShapes Go.RowKit Go.Deep
section
variable {H : Type} {P : Program}
theorem w_all {e : TypeId} : ∀ {l : List (DataW H)} {d : DataW H}, d ∈ l → ∀ n ∈ d.weights P e, n ∈ DataW.weightsAll P e l
  | x :: l, d, hd, n, hn => by
    rcases List.mem_cons.1 hd with rfl | hd
    · simp only [DataW.weightsAll, List.mem_append]; exact .inl hn
    · simp only [DataW.weightsAll, List.mem_append]; exact .inr (w_all hd n hn)
theorem w_elem {t e : TypeId} (hu : P.underlying t = some (.slice e)) {el sp : List (DataW H)} {d : DataW H} (hd : d ∈ el) : ∀ n ∈ d.weights P e, n ∈ (DataW.slice el sp).weights P t := by
  intro n hn
  simp only [DataW.weights, hu, List.mem_cons, List.mem_append]
  exact .inr (.inl (w_all hd n hn))
theorem w_len {t e : TypeId} (hu : P.underlying t = some (.slice e)) {el sp : List (DataW H)} : (el.length + sp.length) * P.bytesOf e ∈ (DataW.slice el sp).weights P t := by
  simp only [DataW.weights, hu, List.mem_cons]
  exact .inl trivial
theorem w_field {t : TypeId} {fs : Array Field} (hu : P.underlying t = some (.struct fs)) {parts : List (DataW H)} {j : Nat} {e : TypeId} {d : DataW H} (hf : (fs.toList.map (·.type))[j]? = some e) (hd : parts[j]? = some d) : ∀ n ∈ d.weights P e, n ∈ (DataW.agg parts).weights P t := by
  intro n hn
  simp only [DataW.weights, hu]
  exact DataW.weights_mem_each hf hd n hn
theorem w_string {t : TypeId} {bytes : List UInt8} : bytes.length ∈ (DataW.lit (.string bytes) : DataW H).weights P t := by simp [DataW.weights]
end
theorem spot_none {W : World} {x : Addr} {v : Value} (h : W.cell? x = some v) : x.spot = none := by
  cases hs : x.spot with
  | none => rfl
  | some n =>
    unfold World.cell? at h
    split at h
    · rw [hs] at h; simp at h
    · cases h
theorem reach_is : reachBytes = 140737488351232 := by decide
/-- A slice of strings inside of what came in. -/
theorem strs_in {H : Type} {enc : TypeId × Value → H} {P : Program} {W : World} {base : Nat} {spare : Nat → Bool} {held : Bool} {t e : TypeId} {v : Value} {d : DataW H} {ps : List MemPlace} {fuel : Nat}
    (hu : P.underlying t = some (.slice e)) (he : P.underlying e = some .string) (hc : P.cellsOf e = 1) (hB : P.bytesOf e = 16) (hw : ∀ n ∈ d.weights P t, n ≤ reachBytes)
    (h : DataW.trod enc P W base spare held fuel t [v] = some (d, ps)) : ∃ ad n c ss, v = .slice ad n c ∧ RdsS W v ss ∧ (∀ s ∈ ss, s.size ≤ 140737488351232) ∧ ss.length * 16 ≤ 140737488351232 := by
  rw [reach_is] at hw
  rcases open_strings hu he hc h with ⟨hcs, _⟩ | ⟨x, l, c, ss, hcs, _, hl, hm, hz, hx, hcell, hws⟩
  · simp at hcs
    subst hcs
    exact ⟨none, 0, 0, [], rfl, rdsS_nil W, by simp, by simp⟩
  · simp at hcs
    subst hcs
    obtain ⟨hx, _⟩ := Prod.mk.inj hx
    subst hx
    have z := hw _ (w_len hu)
    rw [hB] at z
    have hl2 : l ≤ ss.length := by
      rw [hz]
      split
      · exact hl
      · exact Nat.le_refl _
    have h1 : (strs (H := H) (ss.take l)).length + (strs (H := H) (ss.drop l)).length = ss.length := by
      simp [strs]
      omega
    rw [h1] at z
    have htl : (ss.take l).length = l := by simp; omega
    refine ⟨some x, l, c, ss.take l, rfl, ?_, fun s hs => ?_, by rw [htl]; omega⟩
    · rcases Nat.eq_zero_or_pos l with h0 | h0
      · subst h0
        simp only [List.take_zero]
        exact rdsS_empty W x c
      · have hc0 := hcell 0 (by omega)
        have hx0 : x.add 0 = x := by unfold Addr.add; rw [if_pos rfl]
        rw [hx0] at hc0
        have hsp := spot_none hc0
        obtain ⟨b, off, sp⟩ := x
        simp only at hsp
        subst hsp
        have hlt := World.block_lt_of_cell? W _ hc0
        have hadd : ∀ i, (⟨b, off, none⟩ : Addr).add i = ⟨b, off + i, none⟩ := fun i => by unfold Addr.add; split <;> simp_all
        have := rdsS_mk (w := W) (ss := ss.take l) (b := b) (off := off) (cap := c) (by omega) hm hlt (fun i hi => by
          have hi' : i < l := by omega
          have := hcell i (by omega)
          rw [hadd] at this
          rw [this, List.getD_eq_getElem?_getD, List.getElem?_eq_getElem (show i < ss.length by omega)]
          simp)
        rw [htl] at this
        exact this
    · have hm2 : (DataW.lit (.string s.data.toList) : DataW H) ∈ strs (H := H) (ss.take l) := by
        unfold strs
        exact List.mem_map.2 ⟨s, hs, rfl⟩
      have := hw _ (w_elem hu hm2 _ w_string)
      simpa using this
theorem list4 : ∀ {l : List Value}, l.length = 4 → ∃ a b c d, l = [a, b, c, d]
  | [a, b, c, d], _ => ⟨a, b, c, d, rfl⟩
theorem list5 : ∀ {l : List Value}, l.length = 5 → ∃ a b c d e, l = [a, b, c, d, e]
  | [a, b, c, d, e], _ => ⟨a, b, c, d, e, rfl⟩
/-- A rule inside of what came in. -/
theorem rule_in {H : Type} {enc : TypeId × Value → H} {W : World} {base : Nat} {spare : Nat → Bool} {held : Bool} {cs : List Value} {d : DataW H} {ps : List MemPlace} {fuel : Nat} (hw : ∀ n ∈ d.weights Tryz.prog 47, n ≤ reachBytes)
    (h : DataW.trod enc Tryz.prog W base spare held fuel 47 cs = some (d, ps)) : ∃ (x : RC) (r : Rl), cs = encR x ∧ RdC (fun _ => True) W x r := by
  have he := Tryz.underlying47
  obtain ⟨y0, y1, y2, n, hx, hl, h0, h1, h2⟩ := trod_struct3 he h
  have hC : Tryz.prog.cellsOf 47 = 4 := by kernel_rfl
  have hl4 : cs.length = 4 := hl.trans hC
  clear hl
  obtain ⟨c0, c1, c2, c3, rfl⟩ := list4 hl4
  · clear hl4
    have k0 : Tryz.prog.cellsOf 3 = 1 := by kernel_rfl
    have k1 : Tryz.prog.cellsOf 9 = 1 := by kernel_rfl
    have k2 : Tryz.prog.cellsOf 45 = 2 := by kernel_rfl
    simp only [k0, k1, k2, List.drop_zero, List.take_succ_cons, List.take_zero, List.drop_succ_cons] at h0 h1 h2
    obtain ⟨hd, _⟩ := Prod.mk.inj hx
    subst hd
    have ha := Tryz.underlying45
    obtain ⟨z0, z1, n2, hx2, _, g0, g1⟩ := trod_struct2 ha h2
    have k3 : Tryz.prog.cellsOf 42 = 1 := by kernel_rfl
    have k4 : Tryz.prog.cellsOf 43 = 1 := by kernel_rfl
    simp only [k3, k4, List.drop_zero, List.take_succ_cons, List.take_zero, List.drop_succ_cons] at g0 g1
    obtain ⟨p, e0, _⟩ := DataW.trod_int Tryz.underlying3 h0
    obtain ⟨m, e1, q1⟩ := DataW.trod_string Tryz.underlying9 h1
    obtain ⟨k, e2, _⟩ := DataW.trod_int Tryz.underlying42 g0
    have w1 : ∀ n ∈ y1.1.weights Tryz.prog 9, n ≤ reachBytes := fun n hn => hw n (w_field he (j := 1) rfl rfl n hn)
    have w2 : ∀ n ∈ y2.1.weights Tryz.prog 45, n ≤ reachBytes := fun n hn => hw n (w_field he (j := 2) rfl rfl n hn)
    rw [hx2] at w2
    have w3 : ∀ n ∈ z1.1.weights Tryz.prog 43, n ≤ reachBytes := fun n hn => w2 n (w_field ha (j := 1) rfl rfl n hn)
    obtain ⟨ad, l, c, ss, e3, hr, hs, hn⟩ := strs_in Tryz.underlying43 Tryz.underlying9 (by kernel_rfl) (by kernel_rfl) w3 g1
    simp only [List.cons.injEq, and_true] at e0 e1 e2
    subst e0 e1 e2 e3
    rw [q1.1] at w1
    have hm := w1 _ w_string
    rw [Array.length_toList, reach_is] at hm
    exact ⟨⟨p, m, k, ad, l, c⟩, ⟨p, m, k, ss⟩, rfl, ⟨rfl, rfl, rfl, ⟨hr, fun _ _ _ _ _ => trivial⟩, ⟨hm, hn, hs⟩⟩⟩
theorem rules_of {H : Type} {enc : TypeId × Value → H} {W : World} {base : Nat} {spare : Nat → Bool} {held : Bool} {t : TypeId} {a : Option Addr} {len cap : Nat} {d : DataW H} {ps : List MemPlace} (ht : Tryz.prog.underlying t = some (.slice 47)) (hw : ∀ n ∈ d.weights Tryz.prog t, n ≤ reachBytes)
    (h : DataW.Trod enc Tryz.prog W base spare held t (.slice a len cap) d ps) : ∃ L : List Rl, RdsR (fun _ => True) W (.slice a len cap) L ∧ L.length * 56 ≤ 140737488351232 := by
  obtain ⟨fuel, hf⟩ := h
  rcases open_slice ht hf with ⟨hcs, _⟩ | ⟨x, l, c, m, n, D, Pl, hcs, _, hl, hm, hmm, hx, hel⟩
  · simp [Value.cells] at hcs
    obtain ⟨rfl, rfl, rfl⟩ := hcs
    exact ⟨[], rdsR_nil _ W, by simp⟩
  · simp [Value.cells] at hcs
    obtain ⟨rfl, rfl, rfl⟩ := hcs
    obtain ⟨hx, _⟩ := Prod.mk.inj hx
    subst hx
    have hlm : len ≤ m := by rw [hmm]; split <;> omega
    have z := hw _ (w_len ht)
    rw [show Tryz.prog.bytesOf 47 = 56 by kernel_rfl, reach_is] at z
    simp only [List.length_map, List.length_range] at z
    have hC : Tryz.prog.cellsOf 47 = 4 := by kernel_rfl
    rw [hC] at hel
    have each : ∀ i, i < len → ∃ q : RC × Rl, RdC (fun _ => True) W q.1 q.2 ∧ W.cell? (x.add (i * 4)) = some (.int .i64 q.1.p) ∧ W.cell? (x.add (i * 4 + 1)) = some (.string q.1.m) ∧ W.cell? (x.add (i * 4 + 2)) = some (.int .i64 q.1.k) ∧ W.cell? (x.add (i * 4 + 3)) = some (.slice q.1.a q.1.n q.1.c) := by
      intro i hi
      obtain ⟨cs', h1, h2⟩ := hel i (by omega)
      obtain ⟨y, r, rfl, hr⟩ := rule_in (fun n hn => hw n (w_elem ht (List.mem_map.2 ⟨i, List.mem_range.2 hi, rfl⟩) n hn)) h2
      obtain ⟨_, _, hcell⟩ := World.cells?_some h1
      have g0 := hcell 0 (by decide)
      have g1 := hcell 1 (by decide)
      have g2 := hcell 2 (by decide)
      have g3 := hcell 3 (by decide)
      rw [add_add] at g0 g1 g2 g3
      exact ⟨(y, r), hr, by simpa [encR] using g0, by simpa [encR] using g1, by simpa [encR] using g2, by simpa [encR] using g3⟩
    obtain ⟨q, hq⟩ := choose_lt each
    refine ⟨(List.range len).map fun i => (q i).2, ⟨(List.range len).map fun i => (q i).1, some x, len, cap, rfl, by simp, by simp, ⟨by omega, fun h => by cases h⟩, by omega, fun _ _ _ _ _ => trivial, fun i hi => ?_, fun i hi hi' => ?_⟩, ?_⟩
    · have hi' : i < len := by simpa using hi
      obtain ⟨_, c0, c1, c2, c3⟩ := hq i hi'
      have hc0 := (hq 0 (by omega)).2.1
      have hx0 : x.add (0 * 4) = x := by rw [Nat.zero_mul]; unfold Addr.add; rw [if_pos rfl]
      rw [hx0] at hc0
      have hsp := spot_none hc0
      obtain ⟨b, off, sp⟩ := x
      simp only at hsp
      subst hsp
      have hadd : ∀ i, (⟨b, off, none⟩ : Addr).add i = ⟨b, off + i, none⟩ := fun i => by unfold Addr.add; split <;> simp_all
      have hlt := World.block_lt_of_cell? W _ hc0
      rw [hadd] at c0 c1 c2 c3
      exact ⟨b, off, rfl, hlt, by simpa using c0, by simpa [Nat.add_assoc] using c1, by simpa [Nat.add_assoc] using c2, by simpa [Nat.add_assoc] using c3⟩
    · have hi' : i < len := by simpa using hi
      simpa using (hq i hi').1
    · rw [List.length_map, List.length_range]
      omega
end Go.Proofs.YtlamhpiiikcpiaaGreatDoor
/-
  What a list of laid variables tells of one of them.
-/
namespace Go.Proofs.YtlamhpiiikcpiaaGreatDoor
theorem laidVars_mem {P : Program} {w : World} : ∀ {l : List (String × DataW Unit)} {ps : List MemPlace} {n : String} {d : DataW Unit}, DataW.LaidVars P w l ps → (n, d) ∈ l →
    ∃ g t cs fuel p, P.globalNamed n = some g ∧ (P.globals[g]?).map (·.type) = some t ∧ w.var? P n = some cs ∧ DataW.trod (fun _ => ()) P w 0 (fun _ => true) false fuel t cs.toList = some (d, p)
  | [], _, _, _, _, hm => by cases hm
  | x :: r, ps, n, d, h, hm => by
    obtain ⟨g, t, cs, fuel, p, q, h1, h2, h3, h4, h5, _⟩ := h
    rcases List.mem_cons.1 hm with e | hm
    · subst e; exact ⟨g, t, cs, fuel, p, h1, h2, h3, h4⟩
    · exact laidVars_mem h5 hm
theorem tabIs_of_mem {P : Program} {W : World} {name : String} {k : IntKind} {zs : List Int} {l : List (String × DataW Unit)} {g : Nat} {t e : TypeId} {n : Nat}
    (hg : P.globalNamed name = some g) (hty : (P.globals[g]?).map (·.type) = some t) (ht : P.underlying t = some (.array n e)) (he : P.underlying e = some (.int k)) (hce : P.cellsOf e = 1) (hct : P.cellsOf t = n)
    (h : laidMet P l W) (hm : (name, Lib.tabData k zs) ∈ l) : Lib.TabIs P W name k zs := by
  obtain ⟨ps, hl, _⟩ := h
  obtain ⟨g', t', cs, fuel, p, hg', ht', hvar, hd⟩ := laidVars_mem hl hm
  obtain rfl := Option.some.inj (hg.symm.trans hg')
  obtain rfl := Option.some.inj (hty.symm.trans ht')
  unfold Lib.TabIs
  rw [hvar, ← Lib.cells_of_tab ht he hce hct hd]
end Go.Proofs.YtlamhpiiikcpiaaGreatDoor
/-
  A slice of changes that came in reads as changes, and is no longer than its weight allows.
-/
namespace Go.Proofs.YtlamhpiiikcpiaaGreatDoor
open Go.ChangeShapes Go.WideShapes Go.RowKit Go.Deep
theorem changes_of {H : Type} {enc : TypeId × Value → H} {W : World} {base : Nat} {spare : Nat → Bool} {held : Bool} {t : TypeId} {a : Option Addr} {len cap : Nat} {d : DataW H} {ps : List MemPlace} (ht : Tryz.prog.underlying t = some (.slice 49)) (hw : ∀ n ∈ d.weights Tryz.prog t, n ≤ reachBytes)
    (h : DataW.Trod enc Tryz.prog W base spare held t (.slice a len cap) d ps) : ∃ L : List (Int × Rl), RdsC (fun _ => True) W (.slice a len cap) L ∧ L.length * 64 ≤ 140737488351232 := by
  obtain ⟨fuel, hf⟩ := h
  rcases open_slice ht hf with ⟨hcs, _⟩ | ⟨x, l, c, m, n, D, Pl, hcs, _, hl, hm, hmm, hx, hel⟩
  · simp [Value.cells] at hcs
    obtain ⟨rfl, rfl, rfl⟩ := hcs
    exact ⟨[], rdsC_nil _ W, by simp⟩
  · simp [Value.cells] at hcs
    obtain ⟨rfl, rfl, rfl⟩ := hcs
    obtain ⟨hx, _⟩ := Prod.mk.inj hx
    subst hx
    have hlm : len ≤ m := by rw [hmm]; split <;> omega
    have z := hw _ (w_len ht)
    rw [show Tryz.prog.bytesOf 49 = 64 by kernel_rfl, reach_is] at z
    simp only [List.length_map, List.length_range] at z
    have hC : Tryz.prog.cellsOf 49 = 5 := by kernel_rfl
    rw [hC] at hel
    have each : ∀ i, i < len → ∃ q : Int × RC × Rl, RdC (fun _ => True) W q.2.1 q.2.2 ∧ W.cell? (x.add (i * 5)) = some (.int .i64 q.1) ∧ W.cell? (x.add (i * 5 + 1)) = some (.int .i64 q.2.1.p) ∧ W.cell? (x.add (i * 5 + 2)) = some (.string q.2.1.m) ∧ W.cell? (x.add (i * 5 + 3)) = some (.int .i64 q.2.1.k) ∧ W.cell? (x.add (i * 5 + 4)) = some (.slice q.2.1.a q.2.1.n q.2.1.c) := by
      intro i hi
      obtain ⟨cs', h1, h2⟩ := hel i (by omega)
      have he := Tryz.underlying49
      have hwi : ∀ n ∈ (D i).weights Tryz.prog 49, n ≤ reachBytes := fun n hn => hw n (w_elem ht (List.mem_map.2 ⟨i, List.mem_range.2 hi, rfl⟩) n hn)
      obtain ⟨y0, y1, n2, hx, hlc, h3, h4⟩ := trod_struct2 he h2
      obtain ⟨_, _, hcell⟩ := World.cells?_some h1
      have hl5 : cs'.length = 5 := hlc.trans hC
      clear hlc
      obtain ⟨c0, c1, c2, c3, c4, rfl⟩ := list5 hl5
      · clear hl5
        have k0 : Tryz.prog.cellsOf 41 = 1 := by kernel_rfl
        have k1 : Tryz.prog.cellsOf 47 = 4 := by kernel_rfl
        simp only [k0, k1, List.drop_zero, List.take_succ_cons, List.take_zero, List.drop_succ_cons] at h3 h4
        obtain ⟨k, e0, _⟩ := DataW.trod_int Tryz.underlying41 h3
        have hd := (Prod.mk.inj hx).1
        rw [hd] at hwi
        obtain ⟨y, r, e1, hr⟩ := rule_in (fun n hn => hwi n (w_field he (j := 1) rfl rfl n hn)) h4
        simp only [encR, List.cons.injEq, and_true] at e0 e1
        obtain ⟨rfl, rfl, rfl, rfl⟩ := e1
        subst e0
        have g0 := hcell 0 (by decide)
        have g1 := hcell 1 (by decide)
        have g2 := hcell 2 (by decide)
        have g3 := hcell 3 (by decide)
        have g4 := hcell 4 (by decide)
        rw [add_add] at g0 g1 g2 g3 g4
        exact ⟨(k, y, r), hr, by simpa using g0, by simpa using g1, by simpa using g2, by simpa using g3, by simpa using g4⟩
    obtain ⟨q, hq⟩ := choose_lt each
    refine ⟨(List.range len).map fun i => ((q i).1, (q i).2.2), ⟨(List.range len).map fun i => ((q i).1, (q i).2.1), some x, len, cap, rfl, by simp, by simp, ⟨by omega, fun h => by cases h⟩, by omega, fun _ _ _ _ _ => trivial, fun i hi => ?_, fun i hi hi' => ?_⟩, ?_⟩
    · have hi' : i < len := by simpa using hi
      obtain ⟨_, c0, c1, c2, c3, c4⟩ := hq i hi'
      have hc0 := (hq 0 (by omega)).2.1
      have hx0 : x.add (0 * 5) = x := by rw [Nat.zero_mul]; unfold Addr.add; rw [if_pos rfl]
      rw [hx0] at hc0
      have hsp := spot_none hc0
      obtain ⟨b, off, sp⟩ := x
      simp only at hsp
      subst hsp
      have hadd : ∀ i, (⟨b, off, none⟩ : Addr).add i = ⟨b, off + i, none⟩ := fun i => by unfold Addr.add; split <;> simp_all
      have hlt := World.block_lt_of_cell? W _ hc0
      rw [hadd] at c0 c1 c2 c3 c4
      exact ⟨b, off, rfl, hlt, by simpa using c0, by simpa [Nat.add_assoc] using c1, by simpa [Nat.add_assoc] using c2, by simpa [Nat.add_assoc] using c3, by simpa [Nat.add_assoc] using c4⟩
    · have hi' : i < len := by simpa using hi
      exact ⟨by simp, by simpa using (hq i hi').1⟩
    · rw [List.length_map, List.length_range]
      omega
end Go.Proofs.YtlamhpiiikcpiaaGreatDoor
