/-
  Arguments of the types []api.Rule and api.Entry, opened. Conditions: what the form of the claim says of the lengths of texts.
-/
import Derived.Test.YtlbbjcggjmaehaaDoorOpenI
import Derived.Test.YtlbbjcggjmaehaaDoorFew13
namespace Go.Proofs.YtlbbjcggjmaehaaDoor
open Go Go.RowKit Go.ChangeShapes Go.WideShapes Go.Deep

theorem mem_weightsAll {H : Type} {P : Program} {e : TypeId} {d : DataW H} {x : Nat} : ∀ {l : List (DataW H)}, d ∈ l → x ∈ d.weights P e → x ∈ DataW.weightsAll P e l
  | [], h, _ => by cases h
  | a :: l, h, hx => by
    simp only [DataW.weightsAll, List.mem_append]
    rcases List.mem_cons.1 h with rfl | h
    · exact .inl hx
    · exact .inr (mem_weightsAll h hx)

theorem mem_weightsEach {H : Type} {P : Program} {t : TypeId} {d : DataW H} {x : Nat} : ∀ {i : Nat} {ts : List TypeId} {ds : List (DataW H)}, ts[i]? = some t → ds[i]? = some d → x ∈ d.weights P t → x ∈ DataW.weightsEach P ts ds
  | _, [], _, h, _, _ => by simp at h
  | _, _ :: _, [], _, h, _ => by simp at h
  | 0, a :: ts, b :: ds, h, h', hx => by
    simp at h h'; subst h h'
    simp only [DataW.weightsEach, List.mem_append]; exact .inl hx
  | i + 1, a :: ts, b :: ds, h, h', hx => by
    simp only [DataW.weightsEach, List.mem_append]
    exact .inr (mem_weightsEach (i := i) (by simpa using h) (by simpa using h') hx)

theorem rows_list {α : Type} {row : α → List Value} {size : Nat} (P : α → Prop) : ∀ (n : Nat) (cs : List Value), cs.length = n * size → (∀ i, i < n → ∃ l, l.length = size ∧ (∃ a, l = row a ∧ P a) ∧ ∀ j, j < size → cs[i * size + j]? = l[j]?) →
    ∃ al : List α, al.length = n ∧ cs = al.flatMap row ∧ ∀ a ∈ al, P a
  | 0, cs, h, _ => ⟨[], rfl, List.eq_nil_of_length_eq_zero (by simpa using h), by simp⟩
  | n + 1, cs, h, hx => by
    have hn : (n + 1) * size = size + n * size := by rw [Nat.succ_mul, Nat.add_comm]
    rw [hn] at h
    obtain ⟨l, hl, ⟨a, rfl, ha⟩, hj⟩ := hx 0 (by omega)
    obtain ⟨al, h1, h2, h3⟩ := rows_list (row := row) (size := size) P n (cs.drop size) (by rw [List.length_drop]; omega) (fun i hi => by
      obtain ⟨l', hl', hq, hj'⟩ := hx (i + 1) (by omega)
      refine ⟨l', hl', hq, fun j hjs => ?_⟩
      rw [List.getElem?_drop, ← hj' j hjs, Nat.succ_mul]
      congr 1
      omega)
    refine ⟨a :: al, by simp [h1], ?_, fun b hb => ?_⟩
    · rw [List.flatMap_cons, ← h2]
      have e : cs.take size = row a := by
        apply List.ext_getElem?
        intro j
        rcases Nat.lt_or_ge j size with hjs | hjs
        · rw [List.getElem?_take_of_lt hjs, ← hj j hjs, Nat.zero_mul, Nat.zero_add]
        · rw [List.getElem?_eq_none (by rw [List.length_take]; omega), List.getElem?_eq_none (by omega)]
      rw [← e, List.take_append_drop]
    · rcases List.mem_cons.1 hb with rfl | hb
      · exact ha
      · exact h3 b hb

section
variable {H : Type} {enc : TypeId × Value → H} {P : Program} {W : World} {held : Bool}

/-- As open_rows; what each element weighs is at hand. -/
theorem open_rows_w {t e : TypeId} {size B : Nat} (ht : P.underlying t = some (.slice e)) (hC : P.cellsOf e = size) (hs : 0 < size) (Q : List Value → Prop)
    (hQ : ∀ m cs y, cs.length = size → DataW.trod enc P W 0 (fun _ => true) held m e cs = some y → (∀ x ∈ y.1.weights P e, x ≤ B) → Q cs)
    {A : Option Addr} {n c m : Nat} {y : DataW H × List MemPlace} (h : DataW.trod enc P W 0 (fun _ => true) held m t [.slice A n c] = some y) (hw : ∀ x ∈ y.1.weights P t, x ≤ B) :
    ∃ cs : List Value, cs.length = n * size ∧ (0 < n → ∃ b o, A = some ⟨b, o, none⟩ ∧ b < W.heap.size ∧ ∀ j u, cs[j]? = some u → W.cell? ⟨b, o + j, none⟩ = some u) ∧
      ∀ i, i < n → ∃ l, l.length = size ∧ Q l ∧ ∀ j, j < size → cs[i * size + j]? = l[j]? := by
  rcases open_slice ht h with ⟨h0, _⟩ | ⟨a, len, cap, m', n', D, Pl, hcs, _, hl, hm, hmm, rfl, hx⟩
  · simp only [List.cons.injEq, Value.slice.injEq, and_true] at h0
    obtain ⟨rfl, rfl, rfl⟩ := h0
    exact ⟨[], by simp, fun h => absurd h (by omega), fun i hi => absurd hi (by omega)⟩
  · simp only [List.cons.injEq, Value.slice.injEq, and_true] at hcs
    obtain ⟨rfl, rfl, rfl⟩ := hcs
    have hle : n ≤ m' := by rw [hmm]; simpa using hl
    have hD : ∀ i, i < n → ∀ x ∈ (D i).weights P e, x ≤ B := fun i hi x hx => hw x (by
      simp only [DataW.weights, ht]
      exact List.mem_cons_of_mem _ (List.mem_append_left _ (mem_weightsAll (List.mem_map.2 ⟨i, List.mem_range.2 hi, rfl⟩) hx)))
    obtain ⟨cs, hlen, hc⟩ := collect size (fun i l => W.cells? 0 (a.add (i * size)) size = some l ∧ Q l) n (fun i hi => by
      obtain ⟨cs', h1, h2⟩ := hx i (by omega)
      rw [hC] at h1
      have hl' := (World.cells?_some h1).2.1
      exact ⟨cs', hl', h1, hQ _ _ _ hl' h2 (hD i hi)⟩)
    refine ⟨cs, hlen, fun hn => ?_, fun i hi => ?_⟩
    · have cell : ∀ j u, cs[j]? = some u → W.cell? (a.add j) = some u := by
        intro j u hu
        have hj : j < n * size := by rw [← hlen]; exact (List.getElem?_eq_some_iff.1 hu).1
        obtain ⟨h1, h2, h3⟩ := mul_div_lt hj
        obtain ⟨l, hll, ⟨hcell, _⟩, hjl⟩ := hc (j / size) h1
        have h4 := hjl (j % size) (h3 hs)
        rw [h2] at h4
        have h5 := (World.cells?_some hcell).2.2 (j % size) (h3 hs)
        rw [add_add, h2] at h5
        rw [h5, ← h4]; exact hu
      have h0 : 0 < cs.length := by rw [hlen]; exact Nat.mul_pos hn hs
      have hp := addr_plain (cell 0 cs[0] (List.getElem?_eq_getElem h0))
      have e0 : a.add 0 = a := by simp [Addr.add]
      rw [e0] at hp
      refine ⟨a.block, a.off, by rw [← hp], ?_, fun j u hu => ?_⟩
      · have := World.block_lt_of_cell? W a (by rw [← e0]; exact cell 0 cs[0] (List.getElem?_eq_getElem h0)); exact this
      · have := cell j u hu
        rw [hp, Addr.add_lit] at this
        exact this
    · obtain ⟨l, hll, ⟨_, hq⟩, hj⟩ := hc i hi
      exact ⟨l, hll, hq, hj⟩

theorem slice_cell {t e : TypeId} (ht : P.underlying t = some (.slice e)) {cs : List Value} {m : Nat} {y : DataW H × List MemPlace} (h : DataW.trod enc P W 0 (fun _ => true) held m t cs = some y) : ∃ A n c, cs = [.slice A n c] := by
  rcases open_slice ht h with ⟨rfl, _⟩ | ⟨a, len, cap, m', n', D, Pl, rfl, _⟩
  · exact ⟨none, 0, 0, rfl⟩
  · exact ⟨some a, len, cap, rfl⟩
end

theorem cells_item : Tryd.prog.cellsOf 48 = 3 := by kernel_rfl
theorem cells_rule : Tryd.prog.cellsOf 51 = 6 := by kernel_rfl
theorem cells_bool : Tryd.prog.cellsOf 4 = 1 := by kernel_rfl
theorem cells_string : Tryd.prog.cellsOf 9 = 1 := by kernel_rfl
theorem cells_ints : Tryd.prog.cellsOf 23 = 1 := by kernel_rfl
theorem cells_items : Tryd.prog.cellsOf 49 = 1 := by kernel_rfl
theorem cells_entry : Tryd.prog.cellsOf 25 = 2 := by kernel_rfl

theorem two_of {α : Type} {l : List α} (h : l.length = 2) : ∃ a b, l = [a, b] := by
  match l, h with
  | [a, b], _ => exact ⟨a, b, rfl⟩
theorem three_of {α : Type} {l : List α} (h : l.length = 3) : ∃ a b c, l = [a, b, c] := by
  match l, h with
  | [a, b, c], _ => exact ⟨a, b, c, rfl⟩
theorem six_of {α : Type} {l : List α} (h : l.length = 6) : ∃ a b c d e f, l = [a, b, c, d, e, f] := by
  match l, h with
  | [a, b, c, d, e, f], _ => exact ⟨a, b, c, d, e, f, rfl⟩

theorem strv_back (s : ByteArray) : (⟨s.data.toList.toArray⟩ : ByteArray) = s := by cases s; simp

section
variable {H : Type} {enc : TypeId × Value → H} {W : World} {held : Bool}

theorem item_cells (m : Nat) (cs : List Value) (y : DataW H × List MemPlace) (hl : cs.length = 3) (h : DataW.trod enc Tryd.prog W 0 (fun _ => true) held m 48 cs = some y) :
    ∃ x : It, cs = x.row ∧ Sl W 1 x.S x.set.length (intCells x.set) := by
  obtain ⟨xs, n, _, _, _, hxl, hf⟩ := DataW.trod_struct Tryd.underlying48 h
  obtain ⟨c0, c1, c2, rfl⟩ := three_of hl
  have l3 : xs.length = 3 := hxl
  have f0 : DataW.trod enc Tryd.prog W 0 (fun _ => true) held n 4 (([c0, c1, c2].drop 0).take (Tryd.prog.cellsOf 4)) = xs[0]? := hf 0 _ rfl
  have f1 : DataW.trod enc Tryd.prog W 0 (fun _ => true) held n 4 (([c0, c1, c2].drop 1).take (Tryd.prog.cellsOf 4)) = xs[1]? := hf 1 _ rfl
  have f2 : DataW.trod enc Tryd.prog W 0 (fun _ => true) held n 23 (([c0, c1, c2].drop 2).take (Tryd.prog.cellsOf 23)) = xs[2]? := hf 2 _ rfl
  rw [cells_bool, List.getElem?_eq_getElem (by omega)] at f0 f1
  rw [cells_ints, List.getElem?_eq_getElem (by omega)] at f2
  obtain ⟨a, e0, _⟩ := DataW.trod_bool Tryd.underlying4 f0
  obtain ⟨b, e1, _⟩ := DataW.trod_bool Tryd.underlying4 f1
  obtain ⟨A, k, c, e2⟩ := slice_cell Tryd.underlying23 f2
  rw [e2] at f2
  obtain ⟨zs, hz, _, hs⟩ := ints_open f2
  simp at e0 e1 e2
  subst hz
  exact ⟨⟨a, b, A, c, zs⟩, by rw [e0, e1, e2]; rfl, hs⟩

theorem it_one : ∀ x : It, ∀ v ∈ x.row, v.oneCell' = true := by
  intro x v hv
  simp only [It.row, List.mem_cons, List.not_mem_nil, or_false] at hv
  rcases hv with rfl | rfl | rfl <;> rfl

theorem ru_one : ∀ x : Ru, ∀ v ∈ x.row, v.oneCell' = true := by
  intro x v hv
  simp only [Ru.row, List.mem_cons, List.not_mem_nil, or_false] at hv
  rcases hv with rfl | rfl | rfl | rfl | rfl | rfl <;> rfl

theorem cond_open {A : Option Addr} {n c m : Nat} {y : DataW H × List MemPlace} (h : DataW.trod enc Tryd.prog W 0 (fun _ => true) held m 49 [.slice A n c] = some y) :
    ∃ l : List It, l.length = n ∧ CondAt W A l := by
  obtain ⟨_, _, cs, hlen, hc, hx⟩ := open_rows Tryd.underlying49 cells_item (by omega) (fun l => ∃ x : It, l = x.row ∧ Sl W 1 x.S x.set.length (intCells x.set)) item_cells h
  have hsl := sl_of_rows hlen hc (by rintro l ⟨x, rfl, _⟩; exact it_one x) hx
  obtain ⟨l, h1, rfl, h3⟩ := rows_list (fun x : It => Sl W 1 x.S x.set.length (intCells x.set)) n cs hlen hx
  subst h1
  exact ⟨l, rfl, hsl, h3⟩

theorem rule_cells (m : Nat) (cs : List Value) (y : DataW H × List MemPlace) (hl : cs.length = 6) (h : DataW.trod enc Tryd.prog W 0 (fun _ => true) held m 51 cs = some y)
    (hw : ∀ x ∈ y.1.weights Tryd.prog 51, x ≤ 1152921504606846976) : ∃ r : Ru, cs = r.row ∧ RuRaw W r := by
  obtain ⟨xs, n, _, rfl, _, hxl, hf⟩ := DataW.trod_struct Tryd.underlying51 h
  obtain ⟨c0, c1, c2, c3, c4, c5, rfl⟩ := six_of hl
  have l6 : xs.length = 6 := hxl
  have f0 : DataW.trod enc Tryd.prog W 0 (fun _ => true) held n 4 (([c0, c1, c2, c3, c4, c5].drop 0).take (Tryd.prog.cellsOf 4)) = xs[0]? := hf 0 _ rfl
  have f1 : DataW.trod enc Tryd.prog W 0 (fun _ => true) held n 3 (([c0, c1, c2, c3, c4, c5].drop 1).take (Tryd.prog.cellsOf 3)) = xs[1]? := hf 1 _ rfl
  have f2 : DataW.trod enc Tryd.prog W 0 (fun _ => true) held n 4 (([c0, c1, c2, c3, c4, c5].drop 2).take (Tryd.prog.cellsOf 4)) = xs[2]? := hf 2 _ rfl
  have f3 : DataW.trod enc Tryd.prog W 0 (fun _ => true) held n 9 (([c0, c1, c2, c3, c4, c5].drop 3).take (Tryd.prog.cellsOf 9)) = xs[3]? := hf 3 _ rfl
  have f4 : DataW.trod enc Tryd.prog W 0 (fun _ => true) held n 9 (([c0, c1, c2, c3, c4, c5].drop 4).take (Tryd.prog.cellsOf 9)) = xs[4]? := hf 4 _ rfl
  have f5 : DataW.trod enc Tryd.prog W 0 (fun _ => true) held n 49 (([c0, c1, c2, c3, c4, c5].drop 5).take (Tryd.prog.cellsOf 49)) = xs[5]? := hf 5 _ rfl
  rw [cells_bool, List.getElem?_eq_getElem (by omega)] at f0 f2
  rw [cells_int, List.getElem?_eq_getElem (by omega)] at f1
  rw [cells_string, List.getElem?_eq_getElem (by omega)] at f3 f4
  rw [cells_items, List.getElem?_eq_getElem (by omega)] at f5
  obtain ⟨b0, e0, _⟩ := DataW.trod_bool Tryd.underlying4 f0
  obtain ⟨z, e1, _⟩ := DataW.trod_int Tryd.underlying3 f1
  obtain ⟨b2, e2, _⟩ := DataW.trod_bool Tryd.underlying4 f2
  obtain ⟨s, e3, x3, _⟩ := DataW.trod_string Tryd.underlying9 f3
  obtain ⟨t, e4, x4, _⟩ := DataW.trod_string Tryd.underlying9 f4
  obtain ⟨A, k, c, e5⟩ := slice_cell Tryd.underlying49 f5
  rw [e5] at f5
  obtain ⟨l, hll, hl⟩ := cond_open f5
  have w3 : s.data.toList.length ≤ 1152921504606846976 := hw _ (by
    simp only [DataW.weights, Tryd.underlying51]
    exact mem_weightsEach (i := 3) (t := 9) (d := .lit (.string s.data.toList)) rfl (by rw [List.getElem?_map, List.getElem?_eq_getElem (by omega), x3]; rfl) (by simp [DataW.weights]))
  have w4 : t.data.toList.length ≤ 1152921504606846976 := hw _ (by
    simp only [DataW.weights, Tryd.underlying51]
    exact mem_weightsEach (i := 4) (t := 9) (d := .lit (.string t.data.toList)) rfl (by rw [List.getElem?_map, List.getElem?_eq_getElem (by omega), x4]; rfl) (by simp [DataW.weights]))
  simp at e0 e1 e2 e3 e4 e5
  subst hll
  refine ⟨⟨b0, z, b2, s.data.toList, t.data.toList, A, c, l⟩, ?_, ⟨hl, w3, w4⟩⟩
  rw [e0, e1, e2, e3, e4, e5, Ru.row, strv_back, strv_back]

theorem rules_open {A : Option Addr} {n c m : Nat} {y : DataW H × List MemPlace} (h : DataW.trod enc Tryd.prog W 0 (fun _ => true) held m 22 [.slice A n c] = some y)
    (hw : ∀ x ∈ y.1.weights Tryd.prog 22, x ≤ 1152921504606846976) : ∃ l : List Ru, l.length = n ∧ RusRaw W A l := by
  obtain ⟨cs, hlen, hc, hx⟩ := open_rows_w Tryd.underlying22 cells_rule (by omega) (fun l => ∃ r : Ru, l = r.row ∧ RuRaw W r) rule_cells h hw
  have hsl := sl_of_rows hlen hc (by rintro l ⟨x, rfl, _⟩; exact ru_one x) hx
  obtain ⟨l, h1, rfl, h3⟩ := rows_list (fun r : Ru => RuRaw W r) n cs hlen hx
  subst h1
  exact ⟨l, rfl, hsl, h3⟩

theorem entry_open {m : Nat} {cs : List Value} {y : DataW H × List MemPlace} (hl : cs.length = 2) (h : DataW.trod enc Tryd.prog W 0 (fun _ => true) held m 25 cs = some y) :
    ∃ e : En, cs = e.row ∧ Sl W 1 e.F e.flags.length (intCells e.flags) := by
  obtain ⟨xs, n, _, _, _, hxl, hf⟩ := DataW.trod_struct Tryd.underlying25 h
  obtain ⟨c0, c1, rfl⟩ := two_of hl
  have l2 : xs.length = 2 := hxl
  have f0 : DataW.trod enc Tryd.prog W 0 (fun _ => true) held n 9 (([c0, c1].drop 0).take (Tryd.prog.cellsOf 9)) = xs[0]? := hf 0 _ rfl
  have f1 : DataW.trod enc Tryd.prog W 0 (fun _ => true) held n 23 (([c0, c1].drop 1).take (Tryd.prog.cellsOf 23)) = xs[1]? := hf 1 _ rfl
  rw [cells_string, List.getElem?_eq_getElem (by omega)] at f0
  rw [cells_ints, List.getElem?_eq_getElem (by omega)] at f1
  obtain ⟨s, e0, _⟩ := DataW.trod_string Tryd.underlying9 f0
  obtain ⟨A, k, c, e1⟩ := slice_cell Tryd.underlying23 f1
  rw [e1] at f1
  obtain ⟨zs, hz, _, hs⟩ := ints_open f1
  simp at e0 e1
  subst hz
  exact ⟨⟨s.data.toList, A, c, zs⟩, by rw [e0, e1, En.row, strv_back], hs⟩
end
end Go.Proofs.YtlbbjcggjmaehaaDoor
