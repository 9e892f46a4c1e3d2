/-
  slices.SortFunc over spans, by their order: the library's contract at this dump. No conditions beyond those that each law names.
-/
import Derived.Test.YtijpienjejfmiaaMkV
import Derived.Test.YtijpienjejfmiaaMkW
import Derived.Test.YtijpienjejfmiaaShelf
import Derived.Shelf.SlSortCmp.NoneTotal
namespace Go.Proofs.Ytijpienjejfmiaa
open Go Go.RowKit Go.Shelf Go.Sort

def encS (s : Sp) : List Value := [.int .i64 s.a, .int .i64 s.b, .int .i64 s.k]

instance : Inhabited Sp := ⟨⟨0, 0, 0⟩⟩

theorem ltOf_cmp (x y : Sp) : ltOf cmpS x y = decide (x.lt y) := by
  unfold ltOf
  rcases cmpS_cases x y with ⟨h1, h2⟩ | ⟨h1, h2⟩ | ⟨h1, h2⟩
  · rw [h1]; simp [h2]
  · rw [h1, h2]; simp [Sp.lt_irrefl]
  · rw [h1]
    have : ¬ x.lt y := fun h => Sp.lt_irrefl _ (Sp.lt_trans h h2)
    simp [this]

theorem swo_cmp : SWO (ltOf cmpS) where
  irrefl x := by rw [ltOf_cmp]; simp [Sp.lt_irrefl]
  trans x y z h1 h2 := by rw [ltOf_cmp] at *; simp at *; exact Sp.lt_trans h1 h2
  ntrans x y z h1 h2 := by
    rw [ltOf_cmp] at *
    simp at *
    intro h
    rcases Sp.lt_tri x y with h3 | h3 | h3
    · exact h1 h3
    · subst h3; exact h2 h
    · exact h2 (Sp.lt_trans h3 h)

theorem tot_cmp (x y : Sp) (h1 : (ltOf cmpS) x y = false) (h2 : (ltOf cmpS) y x = false) : x = y := by
  rw [ltOf_cmp] at *
  simp at *
  rcases Sp.lt_tri x y with h | h | h
  · exact absurd h h1
  · exact h
  · exact absurd h h2

/-- In order. -/
def sortS (l : List Sp) : List Sp := l.mergeSort fun x y => !(ltOf cmpS) y x

theorem order_lays (blk off size : Nat) (w : World) : CmpLays Try.prog 51 #[] encS 3 cmpS blk off size w := fun m os dk _ x y => by
  refine (order_exact x y _).mono ?_
  rintro e w' ⟨rfl, rfl⟩
  refine ⟨rfl, 1, #[(Obj.cells #[Value.int IntKind.i64 x.a, Value.int IntKind.i64 x.b, Value.int IntKind.i64 x.k] 25)] ++ #[(Obj.cells #[Value.int IntKind.i64 y.a, Value.int IntKind.i64 y.b, Value.int IntKind.i64 y.k] 25)] ++ #[(Obj.cells #[.int .i64 (cmpI x.a y.a), .int .i64 (cmpI x.b y.b), .int .i64 (cmpI x.k y.k)] 3)], ?_⟩
  rw [alloc_eq_grow, alloc_eq_grow, alloc_eq_grow, grow_grow, grow_grow]
  rfl

theorem rowS_get : ∀ (l : List Sp) (t : Nat), t < l.length * 3 → (rowS l)[t]! = (encS l[t / 3]!)[t % 3]!
  | [], t, h => by simp at h
  | s :: l, t, h => by
    rcases t with _ | _ | _ | t
    · rfl
    · rfl
    · rfl
    · have e1 : (t + 1 + 1 + 1) / 3 = t / 3 + 1 := by omega
      have e2 : (t + 1 + 1 + 1) % 3 = t % 3 := by omega
      rw [e1, e2]
      show (rowS l)[t]! = _
      rw [rowS_get l t (by simp at h; omega)]
      simp

theorem flat_rowS (l : List Sp) : flatK encS 3 l.toArray = (rowS l).toArray := by
  apply ext_get!
  · simp [rowS_length]
  · intro t ht
    rw [size_flatK] at ht
    rw [get_flatK _ _ _ _ ht]
    simp at ht
    have := rowS_get l t ht
    simp only [List.getElem!_toArray] at this ⊢
    exact this.symm

theorem sortS_length (l : List Sp) : (sortS l).length = l.length := List.length_mergeSort _

set_option maxHeartbeats 1000000 in
theorem sort_walk {base : Nat} {v : Value} {l : List Sp} (w : World) (h : Spans w base v l) (hn : l.length ≤ 2199023255552) :
    Calls Try.prog 50 #[v, .func (.func 51) #[] #[]] w fun e w' => e = .returned (.tuple #[]) ∧ Spans w' base v (sortS l) ∧ w.grownBy w' v.ownBlock := by
  have hlen := h.1
  rcases h.2 with ⟨rfl, h0⟩ | ⟨g, cap, cur, rfl, hb, hh, hnc, hcm, hcs, ht⟩
  · have hl : l = [] := List.eq_nil_of_length_eq_zero h0
    subst hl
    have hcon := AnyF.slices_SortFunc_none (P := Try.prog) Try.sortSpan none 0 (.func (.func 51) #[] #[]) w
    change Calls Try.prog 50 _ _ _ at hcon
    refine hcon.mono ?_
    rintro e w' ⟨rfl, rfl⟩
    refine ⟨rfl, ?_, grownBy_refl _ _⟩
    have : sortS [] = [] := by simp [sortS]
    rw [this]
    exact World.ownsRow_nil _ _ _ _
  · have hlt := heap_lt hh
    have eg : ∀ args w, (callFunc 51 args).run Try.prog w = .ok (.enter 51 args) w := enters_of Try.func51 (by kernel_rfl) rfl
    have hH : HoldsK encS 3 w g 0 l.toArray := by
      intro j hj
      rw [flat_rowS] at hj ⊢
      simp [rowS_length] at hj
      have hjc : j < cur.size := by rw [hcs]; omega
      have hcell := cell_of_heap hh (0 + j)
      have hfr := frozen_of_heap hh (0 + j)
      refine ⟨?_, hfr⟩
      rw [hcell, ← ht]
      simp [hjc, hj]
    have hcon := AnyQ.slices_SortFunc_total Try.sortSpan 3 Try.isAgg25 Try.sizeOf25 encS (fun _ => rfl) (fun x v hv => by simp [encS] at hv; rcases hv with rfl | rfl | rfl <;> rfl) cmpS swo_cmp 51 #[] g 0 cap l.toArray w eg (order_lays g 0 _ w) hH hlt (by simp; omega) tot_cmp
    change Calls Try.prog 50 _ _ _ at hcon
    refine hcon.mono ?_
    rintro e w' ⟨rfl, n, os, rfl⟩
    refine ⟨rfl, ⟨by rw [rowS_length], .inr ⟨g, cap, putCells id 0 (flatK encS 3 (sortS l).toArray) cur, by rw [sortS_length], hb, ?_, by rw [sortS_length]; exact hnc, hcm, by simp [putCells, hcs], ?_⟩⟩, ?_⟩
    · show (w.heap.modify g (onCells (putCells id 0 (flatK encS 3 (sortS l).toArray))) ++ os)[g]? = _
      rw [Array.getElem?_append_left (by simpa using hlt), Array.getElem?_modify, if_pos rfl, hh]
      rfl
    · rw [sortS_length]
      have hsz : (putCells id 0 (flatK encS 3 (sortS l).toArray) cur).toList = ((rowS (sortS l)) ++ cur.toList.drop (l.length * 3)) := by
        apply List.ext_getElem?
        intro j
        rw [flat_rowS]
        simp only [putCells, Array.toList_mapIdx, List.getElem?_mapIdx, Array.getElem?_toList, List.size_toArray, rowS_length, sortS_length]
        rcases Nat.lt_or_ge j (l.length * 3) with hj | hj
        · rw [List.getElem?_append_left (by rw [rowS_length, sortS_length]; exact hj)]
          have hjc : j < cur.size := by rw [hcs]; omega
          have hjr : j < (rowS (sortS l)).length := by rw [rowS_length, sortS_length]; exact hj
          simp [hjc, hj, hjr]
        · rw [List.getElem?_append_right (by rw [rowS_length, sortS_length]; exact hj), rowS_length, sortS_length, List.getElem?_drop]
          rw [show l.length * 3 + (j - l.length * 3) = j by omega, Array.getElem?_toList]
          have : ¬ j < l.length * 3 := by omega
          simp [this]
      rw [hsz, List.take_append_of_le_length (by rw [rowS_length, sortS_length]; exact Nat.le_refl _), List.take_of_length_le (by rw [rowS_length, sortS_length]; exact Nat.le_refl _)]
    · refine ⟨rfl, rfl, rfl, ?_, fun k hk hne => ?_⟩
      · show w.heap.size ≤ (w.heap.modify g (onCells (putCells id 0 (flatK encS 3 (sortS l).toArray))) ++ os).size
        simp
      · show (w.heap.modify g (onCells (putCells id 0 (flatK encS 3 (sortS l).toArray))) ++ os)[k]? = _
        rw [Array.getElem?_append_left (by simpa using hk), Array.getElem?_modify, if_neg (fun e => hne (by rw [e]; rfl))]
end Go.Proofs.Ytijpienjejfmiaa
