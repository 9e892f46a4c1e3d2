/-
  Slices that read as a list of cells, and append of one to a row of the call's own. No conditions beyond those that each lemma names.
-/
import Derived.Test.YtdcdhcgfhapbnaaDoorQuiet
import Derived.Maps.AppendAt
import Derived.Laws.AppendOwnNone
namespace Go.Proofs.YtdcdhcgfhapbnaaDoor
open Go Go.RowKit

/-- The slice value '.slice A n c' holds the cells cs (n elements of 'size' cells). -/
def Sl (w : World) (size : Nat) (A : Option Addr) (n : Nat) (cs : List Value) : Prop :=
  cs.length = n * size ∧ (∀ x ∈ cs, x.oneCell' = true) ∧ (0 < n → ∃ b o, A = some ⟨b, o, none⟩ ∧ ∀ j u, cs[j]? = some u → w.cell? ⟨b, o + j, none⟩ = some u)

/-- Block l is not the slice's (where it has an element). -/
def Off (A : Option Addr) (n : Nat) (l : Nat) : Prop := 0 < n → ∀ a, A = some a → a.block ≠ l

section
variable {w w' : World} {size n c : Nat} {A : Option Addr} {cs : List Value}

theorem Sl.nil (w : World) (size : Nat) (A : Option Addr) : Sl w size A 0 [] := ⟨by simp, by simp, fun h => absurd h (by omega)⟩

theorem Sl.kept (h : Sl w size A n cs) {r : Option Nat} (g : w.grownBy w' r) (hr : ∀ l, r = some l → Off A n l) : Sl w' size A n cs := by
  refine ⟨h.1, h.2.1, fun hn => ?_⟩
  obtain ⟨b, o, rfl, hc⟩ := h.2.2 hn
  refine ⟨b, o, rfl, fun j u hu => ?_⟩
  have := hc j u hu
  exact g.cell this (fun e => hr b e.symm hn _ rfl rfl)

theorem Sl.lt (h : Sl w size A n cs) (hs : 0 < size) (hn : 0 < n) : ∃ a, A = some a ∧ a.block < w.heap.size := by
  obtain ⟨b, o, rfl, hc⟩ := h.2.2 hn
  have hl : 0 < cs.length := by rw [h.1]; exact Nat.mul_pos hn hs
  exact ⟨_, rfl, World.block_lt_of_cell? w ⟨b, o + 0, none⟩ (hc 0 cs[0] (List.getElem?_eq_getElem hl))⟩

theorem Sl.off_new (h : Sl w size A n cs) (hs : 0 < size) {l : Nat} (hl : w.heap.size ≤ l) : Off A n l := by
  intro hn a ha
  obtain ⟨a', ha', hlt⟩ := h.lt hs hn
  rw [ha] at ha'; cases ha'
  omega

theorem Sl.of_own {base : Nat} {e : TypeId} (h : w.ownsRow base e size (.slice A n c) n cs) (h1 : ∀ x ∈ cs, x.oneCell' = true) : Sl w size A n cs := by
  refine ⟨h.1, h1, fun hn => ?_⟩
  rcases h.2 with ⟨_, h0⟩ | ⟨g, cap, cur, hv, _, hh, _, _, _, ht⟩
  · omega
  · cases hv
    refine ⟨g, 0, rfl, fun j u hu => ?_⟩
    have := h.cells (g := g) rfl j u hu
    rwa [Addr.add_lit] at this

theorem Sl.at_ (h : Sl w size A n cs) (hn : 0 < n) : ∃ b o, A = some ⟨b, o, none⟩ ∧ ∀ j u, cs[j]? = some u → w.cell? ⟨b, o + j, none⟩ = some u := h.2.2 hn

/-- What an append leaves. -/
def Appended (base : Nat) (e : TypeId) (size : Nat) (v : Value) (k : Nat) (xs : List Value) (w : World) (v' : Value) (w' : World) : Prop :=
  w'.ownsRow base e size v' k xs ∧ w.grownBy w' v.ownBlock ∧ (v'.ownBlock = v.ownBlock ∨ v'.ownBlock = some w.heap.size)

theorem run_append_sl {P : Program} (w : World) (base : Nat) (t ty e : TypeId) (i : TypeInfo) (z : Value) (size bytes : Nat) (ht : P.underlying t = some (.slice e)) (hi : P.info? e = some i) (hz : i.zero = some z)
    (hsize : i.size = size) (hby : i.bytes = bytes) (hzs : z.cells.size = size) (hsz : 0 < size)
    (v : Value) (n : Nat) (xs : List Value) (hown : w.ownsRow base e size v n xs)
    (A : Option Addr) (m c : Nat) (news : List Value) (hr : Sl w size A m news)
    (h63 : n + m ≤ maxLen) (hbytes : (n + m) * bytes ≤ 140737488355328) (hbase : base ≤ w.heap.size) :
    ∃ v' w', (Builtin.append_ #[t, t] ty #[v, .slice A m c]).run P w = .ok v' w' ∧ Appended base e size v (n + m) (xs ++ news) w v' w' := by
  rcases Nat.eq_zero_or_pos m with rfl | hm
  · have hn : news = [] := List.eq_nil_of_length_eq_zero (by simpa using hr.1)
    subst hn
    refine ⟨v, w, ?_, by simpa using hown, grownBy_refl _ _, .inl rfl⟩
    rcases hown.2 with ⟨rfl, rfl⟩ | ⟨g, cap, cur, rfl, _, _, hnc, _⟩
    · cases A <;> simp [Builtin.append_, run_underlying ht, sizeOf, typeInfo, hi, Builtin.lenOf, Builtin.firstCells, loadCells, loadCellsFrom]
    · cases A <;> simp [Builtin.append_, run_underlying ht, sizeOf, typeInfo, hi, Builtin.lenOf, Builtin.firstCells, hnc, storeCells, loadCells, loadCellsFrom]
  · obtain ⟨b, o, rfl, hc⟩ := hr.2.2 hm
    obtain ⟨v', w', hrun, h2, h3, _, h5⟩ := run_append_own_at (P := P) w base t ty e i z size bytes ht hi hz hsize hby hzs hsz v n xs hown ⟨b, o, none⟩ m c news hr.1
      (fun j u hu => by rw [Addr.add_lit]; exact hc j u hu) hr.2.1 h63 hbytes hbase
    exact ⟨v', w', hrun, h2, h3, h5⟩

theorem wpList_append_sl {P : Program} (w : World) {ops : Array Oper} {rest : List Oper} {o : Oper} {a : Act} {Q : Exit → Act → World → Prop} (hgd : o.guard = none) (s x : Operand) (t : TypeId)
    (ho : o.op = .call { callee := .builtin .append, args := #[s, x], argTypes := #[t, t] })
    (base : Nat) (e : TypeId) (i : TypeInfo) (z : Value) (size bytes : Nat) (ht : P.underlying t = some (.slice e)) (hi : P.info? e = some i) (hz : i.zero = some z)
    (hsize : i.size = size) (hby : i.bytes = bytes) (hzs : z.cells.size = size) (hsz : 0 < size)
    (v : Value) (n : Nat) (xs : List Value) (hs : a.eval s = v) (hown : w.ownsRow base e size v n xs)
    (A : Option Addr) (m c : Nat) (news : List Value) (hx : a.eval x = .slice A m c) (hr : Sl w size A m news)
    (h63 : n + m ≤ maxLen) (hbytes : (n + m) * bytes ≤ 140737488355328) (hbase : base ≤ w.heap.size)
    (h : ∀ v' w', Appended base e size v (n + m) (xs ++ news) w v' w' → wpList P ops Q rest (a.put o.dst v') w') : wpList P ops Q (o :: rest) a w := by
  obtain ⟨v', w', hrun, h2⟩ := run_append_sl (P := P) w base t o.type e i z size bytes ht hi hz hsize hby hzs hsz v n xs hown A m c news hr h63 hbytes hbase
  refine wpList_plain hgd fun K hK => ?_
  unfold Oper.wp execOp
  simp only [ho, resolve, invoke, builtin, Sem.run_bind, Sem.run_pure, Result.andThen_ok, List.map_toArray, List.map_cons, List.map_nil, hs, hx, hrun]
  exact hK _ _ (h v' w' h2)

theorem step_append_sl {P : Program} (w : World) {ops : Array Oper} {o : Oper} {a : Act} {K : Act → World → Prop} {Q : Exit → Act → World → Prop} {E : Prop} (hgd : o.guard = none) (s x : Operand) (t : TypeId)
    (ho : o.op = .call { callee := .builtin .append, args := #[s, x], argTypes := #[t, t] })
    (base : Nat) (e : TypeId) (i : TypeInfo) (z : Value) (size bytes : Nat) (ht : P.underlying t = some (.slice e)) (hi : P.info? e = some i) (hz : i.zero = some z)
    (hsize : i.size = size) (hby : i.bytes = bytes) (hzs : z.cells.size = size) (hsz : 0 < size)
    (v : Value) (n : Nat) (xs : List Value) (hs : a.eval s = v) (hown : w.ownsRow base e size v n xs)
    (A : Option Addr) (m c : Nat) (news : List Value) (hx : a.eval x = .slice A m c) (hr : Sl w size A m news)
    (h63 : n + m ≤ maxLen) (hbytes : (n + m) * bytes ≤ 140737488355328) (hbase : base ≤ w.heap.size)
    (h : ∀ v' w', Appended base e size v (n + m) (xs ++ news) w v' w' → K (a.put o.dst v') w') :
    if Region.wanted o (yielded ops a.tmps) = true then Oper.wp P o a w K Q else E := by
  obtain ⟨v', w', hrun, h2⟩ := run_append_sl (P := P) w base t o.type e i z size bytes ht hi hz hsize hby hzs hsz v n xs hown A m c news hr h63 hbytes hbase
  have hw : Region.wanted o (yielded ops a.tmps) = true := by simp [Region.wanted, hgd]
  rw [if_pos hw]
  unfold Oper.wp execOp
  simp only [ho, resolve, invoke, builtin, Sem.run_bind, Sem.run_pure, Result.andThen_ok, List.map_toArray, List.map_cons, List.map_nil, hs, hx, hrun]
  exact h v' w' h2

theorem own_none (v : Value) : v.ownBlock = none ∨ v.ownBlock ≠ none := by
  cases v.ownBlock <;> simp

/-- A row of the call's own that has an element: its value written out. -/
theorem own_form {w : World} {base : Nat} {e : TypeId} {size n : Nat} {v : Value} {xs : List Value} (h : w.ownsRow base e size v n xs) (hn : 0 < n) :
    ∃ q cap, v = .slice (some ⟨q, 0, none⟩) n cap ∧ n ≤ cap ∧ base ≤ q ∧ q < w.heap.size := by
  rcases h.2 with ⟨_, h0⟩ | ⟨q, cap, _, hv, hb, hh, hc, _⟩
  · omega
  · exact ⟨q, cap, hv, hc, hb, heap_lt hh⟩

/-- A cut at the beginning, by one element. -/
theorem Sl.tail {w : World} {A : Option Addr} {b o n : Nat} {cs : List Value} (h : Sl w 1 (some ⟨b, o, none⟩) (n + 1) cs) (hA : 0 < n → A = some ⟨b, o + 1, none⟩) : Sl w 1 A n cs.tail := by
  refine ⟨by simp [h.1], fun x hx => h.2.1 x (List.mem_of_mem_tail hx), fun hn => ⟨b, o + 1, hA hn, fun j u hu => ?_⟩⟩
  obtain ⟨b', o', e, hc⟩ := h.2.2 (by omega)
  cases e
  rw [show o + 1 + j = o + (j + 1) by omega]
  exact hc (j + 1) u (by simpa using hu)

/-- A cut at the end. -/
theorem Sl.take {w : World} {size : Nat} {A : Option Addr} {n : Nat} {cs : List Value} (h : Sl w size A n cs) {m : Nat} (hm : m ≤ n) : Sl w size A m (cs.take (m * size)) := by
  refine ⟨by rw [List.length_take, h.1]; exact Nat.min_eq_left (Nat.mul_le_mul_right _ hm), fun x hx => h.2.1 x (List.mem_of_mem_take hx), fun h0 => ?_⟩
  obtain ⟨b, o, e, hc⟩ := h.2.2 (by omega)
  refine ⟨b, o, e, fun j u hu => hc j u ?_⟩
  rcases Nat.lt_or_ge j (m * size) with hj | hj
  · rwa [List.getElem?_take_of_lt hj] at hu
  · rw [List.getElem?_eq_none (by rw [List.length_take]; omega)] at hu; cases hu
end
end Go.Proofs.YtdcdhcgfhapbnaaDoor
