/-
  suggest.Top's two functions without a name: which offer stands first; whether a word is empty. slices.SortFunc over offers. No conditions beyond those that each law names.
-/
import Derived.Test.YtdcdhcgfhapbnaaDoorSgA
import Derived.Test.YtdcdhcgfhapbnaaDoorPre
import Derived.Test.YtdcdhcgfhapbnaaDoorShelf
import Derived.Test.YtdcdhcgfhapbnaaDoorShelf2
import Derived.Test.YtdcdhcgfhapbnaaDoorChecked
import Derived.Test.YtdcdhcgfhapbnaaDoorSl
import Derived.Shelf.SlSortCmp.NoneTotal
import Derived.Deep.CutBlock
import Derived.Deep.QuietTactic
namespace Go.Proofs.YtdcdhcgfhapbnaaDoor.Sg
open Go Go.RowKit Go.Shelf Go.Sort

abbrev ofV (x : Of) : Value := .agg #[.string ⟨x.1.toArray⟩, .int .i64 (x.2 : Int)]
abbrev ofO (x : Of) : Obj := .cells #[.string ⟨x.1.toArray⟩, .int .i64 (x.2 : Int)] 41

theorem heap_new (w : World) (o : Obj) : (w.alloc o).heap[w.heap.size]? = some o := by
  show (w.heap.push o)[w.heap.size]? = some o
  simp
theorem heap_new' (w : World) (o : Obj) {k : Nat} (h : k = w.heap.size) : (w.alloc o).heap[k]? = some o := h ▸ heap_new w o

def or2 (a b : Int) : Int := if a ≠ 0 then a else b

def OrRel (a b : Int) (w : World) (iv : Value) (wr : World) : Prop :=
  ∃ i : Nat, i ≤ 2 ∧ iv = .int .i64 (i : Int) ∧ wr = w ∧ (0 < i → a = 0) ∧ (1 < i → b = 0)

set_option maxHeartbeats 1000000 in
theorem or_walk (q : Nat) (a b : Int) (w : World) (h : w.heap[q]? = some (.cells #[.int .i64 a, .int .i64 b] 3 (0, 0))) :
    Calls Tryd.prog 25 #[.slice (some ⟨q, 0, none⟩) 2 2] w fun e w' => e = .returned (.int .i64 (or2 a b)) ∧ w' = w := by
  have c0 := cell_of_heap h 0
  have c1 := cell_of_heap h 1
  have hw1 : IntKind.i64.wrap 1 = 1 := by decide
  have hw2 : IntKind.i64.wrap 2 = 2 := by decide
  clear h
  go_enter Tryd.func25, Tryd.ntmps25
  go_wp2_with fail
  go_loopw [8] (fun iv wr => OrRel a b w iv wr) (fun iv _ => 2 - (RowKit.intOf iv).toNat)
  case atStart => exact ⟨0, by omega, rfl, rfl, by omega, by omega⟩
  case round =>
    obtain ⟨i, hi, rfl, rfl, h1, h2⟩ := hrel
    rcases (show i = 0 ∨ i = 1 ∨ i = 2 by omega) with rfl | rfl | rfl
    · by_cases hz : a = 0
      · go_wp2_with fail
        go_roundw
        case rel => exact ⟨1, by omega, by first | rfl | go_num, rfl, fun _ => hz, by omega⟩
        case measure => simp [RowKit.intOf]
      · have HE := Lib.hid (show or2 a b = a from if_pos hz)
        go_wp2_with fail
        go_ret
        exact ⟨by rw [HE.out]; rfl, rfl⟩
    · have ha := h1 (by omega)
      subst ha
      have HE := Lib.hid (show or2 0 b = b by unfold or2; rw [if_neg (by omega)])
      by_cases hz : b = 0
      · go_wp2_with fail
        go_roundw
        case rel => exact ⟨2, by omega, by first | rfl | go_num, rfl, fun _ => rfl, fun _ => hz⟩
        case measure => simp [RowKit.intOf]
      · go_wp2_with fail
        go_ret
        exact ⟨by rw [HE.out]; rfl, rfl⟩
    · have HE := Lib.hid (show or2 a b = 0 by unfold or2; rw [if_neg (by have := h1 (by omega); omega)]; exact h2 (by omega))
      go_wp2_with fail
      go_ret
      exact ⟨by rw [HE.out]; rfl, rfl⟩

/-- Two boxes. -/
def TwoAt (sz : Nat) (x y : Of) (u : World) : Prop := u.heap[sz]? = some (ofO x) ∧ u.heap[sz + 1]? = some (ofO y)

set_option maxHeartbeats 1000000 in
theorem order_exact (x y : Of) (w : World) : Calls Tryd.prog 24 #[ofV x, ofV y] w fun e w' => e = .returned (.int .i64 (cmpO x y)) ∧ w' = (((w.alloc (ofO x)).alloc (ofO y)).alloc (Obj.cells #[.int .i64 (Lib.compareInt (x.2 : Int) (y.2 : Int)), .int .i64 (Lib.compareBytes x.1 y.1)] 3)).drew := by
  have hcs := fun w => Tryd.strings_Compare ⟨x.1.toArray⟩ ⟨y.1.toArray⟩ w
  have hci := fun w => Tryd.cmp_Compare_int (x.2 : Int) (y.2 : Int) w
  simp only [List.toList_toArray] at hcs
  have hor : cmpO x y = or2 (Lib.compareInt (x.2 : Int) (y.2 : Int)) (Lib.compareBytes x.1 y.1) := rfl
  rw [hor]
  generalize Lib.compareInt (x.2 : Int) (y.2 : Int) = c1 at *
  generalize Lib.compareBytes x.1 y.1 = c2 at *
  clear hor
  go_enter Tryd.func24, Tryd.ntmps24
  go_upto_region 1 with (fail)
  have hA : ((w.alloc (ofO x)).alloc (ofO y)).heap[w.heap.size]? = some (ofO x) := by
    rw [Below.heap_alloc _ _ _ (by simp)]
    exact heap_new _ _
  have hB : ((w.alloc (ofO x)).alloc (ofO y)).heap[w.heap.size + 1]? = some (ofO y) := by
    exact heap_new' _ _ (by simp)
  generalize hw2 : ((w.alloc (ofO x)).alloc (ofO y)) = w2 at *
  generalize hsz : w.heap.size = sz at *
  have hT : TwoAt sz x y w2 := ⟨hA, hB⟩
  have HW := Lib.hid hw2
  clear hA hB hw2
  refine region_hw (fun u => TwoAt sz x y u) (by kernel_rfl) hT (fun hHeld => ?_)
  refine hw_take 0 (v := ?_) rfl (by kernel_rfl) (by kernel_rfl) (by kernel_rfl) (fun _ _ _ h => h) (by rfl) (fun u hu => ?_) (by assumption) ?_
  rotate_left
  focus ((try dsimp only at hu); (have a0 := cell_of_heap hu.1 0; have a1 := cell_of_heap hu.1 1; have b0 := cell_of_heap hu.2 0; have b1 := cell_of_heap hu.2 1); go_simp; (try with_reducible rfl); done)
  try simp only [Act.put, List.setIfInBounds_toArray, List.set_cons_zero, List.set_cons_succ]
  refine hw_take 1 (v := ?_) rfl (by kernel_rfl) (by kernel_rfl) (by kernel_rfl) (fun _ _ _ h => h) (by rfl) (fun u hu => ?_) (by assumption) ?_
  rotate_left
  focus ((try dsimp only at hu); (have a0 := cell_of_heap hu.1 0; have a1 := cell_of_heap hu.1 1; have b0 := cell_of_heap hu.2 0; have b1 := cell_of_heap hu.2 1); go_simp; (try with_reducible rfl); done)
  try simp only [Act.put, List.setIfInBounds_toArray, List.set_cons_zero, List.set_cons_succ]
  refine hw_take 2 (v := ?_) rfl (by kernel_rfl) (by kernel_rfl) (by kernel_rfl) (fun _ _ _ h => h) (by rfl) (fun u hu => ?_) (by assumption) ?_
  rotate_left
  focus ((try dsimp only at hu); (have a0 := cell_of_heap hu.1 0; have a1 := cell_of_heap hu.1 1; have b0 := cell_of_heap hu.2 0; have b1 := cell_of_heap hu.2 1); go_simp; (try with_reducible rfl); done)
  try simp only [Act.put, List.setIfInBounds_toArray, List.set_cons_zero, List.set_cons_succ]
  refine hw_take 3 (v := ?_) rfl (by kernel_rfl) (by kernel_rfl) (by kernel_rfl) (fun _ _ _ h => h) (by rfl) (fun u hu => ?_) (by assumption) ?_
  rotate_left
  focus ((try dsimp only at hu); (have a0 := cell_of_heap hu.1 0; have a1 := cell_of_heap hu.1 1; have b0 := cell_of_heap hu.2 0; have b1 := cell_of_heap hu.2 1); go_simp; (try with_reducible rfl); done)
  try simp only [Act.put, List.setIfInBounds_toArray, List.set_cons_zero, List.set_cons_succ]
  refine hw_take 5 (v := ?_) rfl (by kernel_rfl) (by kernel_rfl) (by kernel_rfl) (fun _ _ _ h => h) (by rfl) (fun u hu => ?_) (by assumption) ?_
  rotate_left
  focus ((try dsimp only at hu); (have a0 := cell_of_heap hu.1 0; have a1 := cell_of_heap hu.1 1; have b0 := cell_of_heap hu.2 0; have b1 := cell_of_heap hu.2 1); go_simp; (try with_reducible rfl); done)
  try simp only [Act.put, List.setIfInBounds_toArray, List.set_cons_zero, List.set_cons_succ]
  refine hw_take 6 (v := ?_) rfl (by kernel_rfl) (by kernel_rfl) (by kernel_rfl) (fun _ _ _ h => h) (by rfl) (fun u hu => ?_) (by assumption) ?_
  rotate_left
  focus ((try dsimp only at hu); (have a0 := cell_of_heap hu.1 0; have a1 := cell_of_heap hu.1 1; have b0 := cell_of_heap hu.2 0; have b1 := cell_of_heap hu.2 1); go_simp; (try with_reducible rfl); done)
  try simp only [Act.put, List.setIfInBounds_toArray, List.set_cons_zero, List.set_cons_succ]
  refine hw_take 7 (v := ?_) rfl (by kernel_rfl) (by kernel_rfl) (by kernel_rfl) (fun _ _ _ h => h) (by rfl) (fun u hu => ?_) (by assumption) ?_
  rotate_left
  focus ((try dsimp only at hu); (have a0 := cell_of_heap hu.1 0; have a1 := cell_of_heap hu.1 1; have b0 := cell_of_heap hu.2 0; have b1 := cell_of_heap hu.2 1); go_simp; (try with_reducible rfl); done)
  try simp only [Act.put, List.setIfInBounds_toArray, List.set_cons_zero, List.set_cons_succ]
  refine hw_take 8 (v := ?_) rfl (by kernel_rfl) (by kernel_rfl) (by kernel_rfl) (fun _ _ _ h => h) (by rfl) (fun u hu => ?_) (by assumption) ?_
  rotate_left
  focus ((try dsimp only at hu); (have a0 := cell_of_heap hu.1 0; have a1 := cell_of_heap hu.1 1; have b0 := cell_of_heap hu.2 0; have b1 := cell_of_heap hu.2 1); go_simp; (try with_reducible rfl); done)
  try simp only [Act.put, List.setIfInBounds_toArray, List.set_cons_zero, List.set_cons_succ]
  refine hw_one 4 (by kernel_rfl) rfl (fun K hK => ?_)
  go_simp
  go_at_call 26
  refine (hci w2.drew).mono ?_
  rintro e u4 ⟨rfl, eu4⟩
  have eu4 := eu4.symm
  subst eu4
  try go_simp
  refine hK.out _ _ (by first | rfl | assumption | trivial) (fun hHeld4 => ?_)
  clear hK K
  try simp only [Act.put, List.setIfInBounds_toArray, List.set_cons_zero, List.set_cons_succ]
  refine hw_one 9 (by kernel_rfl) rfl (fun K hK => ?_)
  go_simp
  go_at_call 27
  refine (hcs w2.drew).mono ?_
  rintro e u9 ⟨rfl, eu9⟩
  have eu9 := eu9.symm
  subst eu9
  try go_simp
  refine hK.out _ _ (by first | rfl | assumption | trivial) (fun hHeld9 => ?_)
  clear hK K
  try simp only [Act.put, List.setIfInBounds_toArray, List.set_cons_zero, List.set_cons_succ]
  refine hw_one 10 (by kernel_rfl) rfl (fun K hK => ?_)
  go_simp
  refine hK.out _ _ ?_ (fun hHeld10 => ?_)
  focus (exact ⟨(Below.heap_alloc _ _ _ (heap_lt hT.1)).trans hT.1, (Below.heap_alloc _ _ _ (heap_lt hT.2)).trans hT.2⟩)
  clear hK K
  try simp only [Act.put, List.setIfInBounds_toArray, List.set_cons_zero, List.set_cons_succ]
  refine hw_one 11 (by kernel_rfl) rfl (fun K hK => ?_)
  go_simp
  go_at_call 25
  refine (or_walk w2.heap.size c1 c2 (w2.alloc _).drew (show (w2.alloc _).drew.heap[_]? = _ from heap_new w2 _)).mono ?_
  rintro e u11 ⟨rfl, eu11⟩
  have eu11 := eu11.symm
  subst eu11
  try go_simp
  refine hK.out _ _ (by first | rfl | assumption | trivial) (fun hHeld11 => ?_)
  clear hK K
  try simp only [Act.put, List.setIfInBounds_toArray, List.set_cons_zero, List.set_cons_succ]
  refine hw_take 12 (v := ?_) rfl (by kernel_rfl) (by kernel_rfl) (by kernel_rfl) (fun _ _ _ h => h) (by rfl) (fun u hu => ?_) (by assumption) ?_
  rotate_left
  focus ((try dsimp only at hu); (have a0 := cell_of_heap hu.1 0; have a1 := cell_of_heap hu.1 1; have b0 := cell_of_heap hu.2 0; have b1 := cell_of_heap hu.2 1); go_simp; (try with_reducible rfl); done)
  try simp only [Act.put, List.setIfInBounds_toArray, List.set_cons_zero, List.set_cons_succ]
  refine hw_done (by kernel_rfl) ?_
  go_wp2_with fail
  go_ret
  rw [HW.out]
  exact ⟨rfl, rfl⟩

set_option maxHeartbeats 1000000 in
theorem empty_walk (x : Of) (w : World) : Calls Tryd.prog 31 #[ofV x] w fun e w' => e = .returned (.bool x.1.isEmpty) ∧ w.grownBy w' none := by
  go_enter Tryd.func31, Tryd.ntmps31
  go_upto_region 1 with (fail)
  have hA := heap_new w (ofO x)
  have HG := Lib.hid (grownBy_alloc (grownBy_refl w none) (ofO x))
  generalize hw2 : w.alloc (ofO x) = w2 at *
  generalize hsz : w.heap.size = sz at hA ⊢
  have a0 := cell_of_heap hA 0
  clear hA hw2 hsz
  go_wp2_with fail
  go_ret
  exact ⟨rfl, HG.out⟩

def encO (x : Of) : List Value := [.string ⟨x.1.toArray⟩, .int .i64 (x.2 : Int)]

theorem ltOf_cmpO (x y : Of) : ltOf cmpO x y = true ↔ ofLt x y := by
  unfold ltOf
  rcases cmpO_cases x y with ⟨h1, h2⟩ | ⟨h1, h2⟩ | ⟨h1, h2⟩
  · rw [h1]; simp [h2]
  · rw [h1, h2]; simp [ofLt_irrefl]
  · rw [h1]
    have : ¬ ofLt x y := fun h => ofLt_irrefl _ (ofLt_trans h h2)
    simp [this]

theorem ltOf_cmpO_f (x y : Of) : ltOf cmpO x y = false ↔ ¬ ofLt x y := by
  rw [← ltOf_cmpO, Bool.not_eq_true]

theorem swo_cmpO : SWO (ltOf cmpO) where
  irrefl x := by rw [ltOf_cmpO_f]; exact ofLt_irrefl x
  trans x y z h1 h2 := by rw [ltOf_cmpO] at *; exact ofLt_trans h1 h2
  ntrans x y z h1 h2 := by
    rw [ltOf_cmpO_f] at *
    intro h
    rcases ofLt_tri x y with h3 | h3 | h3
    · exact h1 h3
    · subst h3; exact h2 h
    · exact h2 (ofLt_trans h3 h)

theorem tot_cmpO (x y : Of) (h1 : (ltOf cmpO) x y = false) (h2 : (ltOf cmpO) y x = false) : x = y := by
  rw [ltOf_cmpO_f] at *
  rcases ofLt_tri x y with h | h | h
  · exact absurd h h1
  · exact h
  · exact absurd h h2

/-- In order. -/
def sortO (l : List Of) : List Of := l.mergeSort fun x y => !(ltOf cmpO) y x

theorem mem_sortO {l : List Of} {x : Of} : x ∈ sortO l ↔ x ∈ l := List.mem_mergeSort

theorem sortO_le (l : List Of) : (sortO l).Pairwise ofLe := by
  have h := List.pairwise_mergeSort (le := fun x y => !(ltOf cmpO) y x) (fun a b c h1 h2 => by
    simp only [Bool.not_eq_true', ltOf_cmpO_f] at *
    intro h
    rcases ofLt_tri b a with h3 | h3 | h3
    · exact h1 h3
    · subst h3; exact h2 h
    · exact h2 (ofLt_trans h h3)) (fun a b => by
    rw [Bool.or_eq_true, Bool.not_eq_true', Bool.not_eq_true', ltOf_cmpO_f, ltOf_cmpO_f]
    by_cases h : ofLt b a
    · exact .inr fun h2 => ofLt_irrefl _ (ofLt_trans h h2)
    · exact .inl h) l
  refine h.imp ?_
  intro a b hab
  rw [Bool.not_eq_true', ltOf_cmpO_f] at hab
  rcases ofLt_tri a b with h | h | h
  · exact .inl h
  · exact .inr h
  · exact absurd h hab

theorem order_lays (blk off size : Nat) (w : World) : CmpLays Tryd.prog 24 #[] encO 2 cmpO blk off size w := fun m os dk _ x y => by
  refine (order_exact x y _).mono ?_
  rintro e w' ⟨rfl, rfl⟩
  refine ⟨rfl, 1, #[ofO x] ++ #[ofO y] ++ #[(Obj.cells #[.int .i64 (Lib.compareInt (x.2 : Int) (y.2 : Int)), .int .i64 (Lib.compareBytes x.1 y.1)] 3)], ?_⟩
  rw [alloc_eq_grow, alloc_eq_grow, alloc_eq_grow, grow_grow, grow_grow]
  rfl

/-- The cells of offers. -/
def rowO : List Of → List Value
  | [] => []
  | s :: l => .string ⟨s.1.toArray⟩ :: .int .i64 (s.2 : Int) :: rowO l

theorem rowO_length : ∀ l : List Of, (rowO l).length = l.length * 2
  | [] => rfl
  | s :: l => by show (rowO l).length + 1 + 1 = (l.length + 1) * 2; rw [rowO_length l]; omega

theorem rowO_get : ∀ (l : List Of) (t : Nat), t < l.length * 2 → (rowO l)[t]! = (encO l[t / 2]!)[t % 2]!
  | [], t, h => by simp at h
  | s :: l, t, h => by
    rcases t with _ | _ | t
    · rfl
    · rfl
    · have e1 : (t + 1 + 1) / 2 = t / 2 + 1 := by omega
      have e2 : (t + 1 + 1) % 2 = t % 2 := by omega
      rw [e1, e2]
      show (rowO l)[t]! = _
      rw [rowO_get l t (by simp at h; omega)]
      simp

theorem flat_rowO (l : List Of) : flatK encO 2 l.toArray = (rowO l).toArray := by
  apply ext_get!
  · simp [rowO_length]
  · intro t ht
    rw [size_flatK] at ht
    rw [get_flatK _ _ _ _ ht]
    simp at ht
    have := rowO_get l t ht
    simp only [List.getElem!_toArray] at this ⊢
    exact this.symm

theorem sortO_length (l : List Of) : (sortO l).length = l.length := List.length_mergeSort _

/-- A row of offers of a call's own. -/
abbrev Offs (w : World) (base : Nat) (v : Value) (l : List Of) : Prop := w.ownsRow base 41 2 v l.length (rowO l)

set_option maxHeartbeats 1000000 in
theorem sortO_walk {base : Nat} {v : Value} {l : List Of} (w : World) (h : Offs w base v l) (hn : l.length ≤ 2199023255552) :
    Calls Tryd.prog 32 #[v, .func (.func 24) #[] #[]] w fun e w' => e = .returned (.tuple #[]) ∧ Offs w' base v (sortO l) ∧ w.grownBy w' v.ownBlock := by
  have hlen := h.1
  rcases h.2 with ⟨rfl, h0⟩ | ⟨g, cap, cur, rfl, hb, hh, hnc, hcm, hcs, ht⟩
  · have hl : l = [] := List.eq_nil_of_length_eq_zero h0
    subst hl
    have hcon := AnyF.slices_SortFunc_none (P := Tryd.prog) Tryd.sortOffer none 0 (.func (.func 24) #[] #[]) w
    change Calls Tryd.prog 32 _ _ _ at hcon
    refine hcon.mono ?_
    rintro e w' ⟨rfl, rfl⟩
    refine ⟨rfl, ?_, grownBy_refl _ _⟩
    have : sortO [] = [] := by simp [sortO]
    rw [this]
    exact World.ownsRow_nil _ _ _ _
  · have hlt := heap_lt hh
    have eg : ∀ args w, (callFunc 24 args).run Tryd.prog w = .ok (.enter 24 args) w := enters_of Tryd.func24 (by kernel_rfl) rfl
    have hH : HoldsK encO 2 w g 0 l.toArray := by
      intro j hj
      rw [flat_rowO] at hj ⊢
      simp [rowO_length] at hj
      have hjc : j < cur.size := by rw [hcs]; omega
      have hcell := cell_of_heap hh (0 + j)
      have hfr := frozen_of_heap hh (0 + j)
      refine ⟨?_, hfr⟩
      rw [hcell, ← ht]
      simp [hjc, hj]
    have hcon := AnyQ.slices_SortFunc_total Tryd.sortOffer 2 Tryd.isAgg41 Tryd.sizeOf41 encO (fun _ => rfl) (fun x v hv => by simp [encO] at hv; rcases hv with rfl | rfl <;> rfl) cmpO swo_cmpO 24 #[] g 0 cap l.toArray w eg (order_lays g 0 _ w) hH hlt (by simp; omega) tot_cmpO
    change Calls Tryd.prog 32 _ _ _ at hcon
    refine hcon.mono ?_
    rintro e w' ⟨rfl, n, os, rfl⟩
    refine ⟨rfl, ⟨by rw [rowO_length], .inr ⟨g, cap, putCells id 0 (flatK encO 2 (sortO l).toArray) cur, by rw [sortO_length], hb, ?_, by rw [sortO_length]; exact hnc, hcm, by simp [putCells, hcs], ?_⟩⟩, ?_⟩
    · show (w.heap.modify g (onCells (putCells id 0 (flatK encO 2 (sortO l).toArray))) ++ os)[g]? = _
      rw [Array.getElem?_append_left (by simpa using hlt), Array.getElem?_modify, if_pos rfl, hh]
      rfl
    · rw [sortO_length]
      have hsz : (putCells id 0 (flatK encO 2 (sortO l).toArray) cur).toList = ((rowO (sortO l)) ++ cur.toList.drop (l.length * 2)) := by
        apply List.ext_getElem?
        intro j
        rw [flat_rowO]
        simp only [putCells, Array.toList_mapIdx, List.getElem?_mapIdx, Array.getElem?_toList, List.size_toArray, rowO_length, sortO_length]
        rcases Nat.lt_or_ge j (l.length * 2) with hj | hj
        · rw [List.getElem?_append_left (by rw [rowO_length, sortO_length]; exact hj)]
          have hjc : j < cur.size := by rw [hcs]; omega
          have hjr : j < (rowO (sortO l)).length := by rw [rowO_length, sortO_length]; exact hj
          simp [hjc, hj, hjr]
        · rw [List.getElem?_append_right (by rw [rowO_length, sortO_length]; exact hj), rowO_length, sortO_length, List.getElem?_drop]
          rw [show l.length * 2 + (j - l.length * 2) = j by omega, Array.getElem?_toList]
          have : ¬ j < l.length * 2 := by omega
          simp [this]
      rw [hsz, List.take_append_of_le_length (by rw [rowO_length, sortO_length]; exact Nat.le_refl _), List.take_of_length_le (by rw [rowO_length, sortO_length]; exact Nat.le_refl _)]
    · refine ⟨rfl, rfl, rfl, ?_, fun k hk hne => ?_⟩
      · show w.heap.size ≤ (w.heap.modify g (onCells (putCells id 0 (flatK encO 2 (sortO l).toArray))) ++ os).size
        simp
      · show (w.heap.modify g (onCells (putCells id 0 (flatK encO 2 (sortO l).toArray))) ++ os)[k]? = _
        rw [Array.getElem?_append_left (by simpa using hk), Array.getElem?_modify, if_neg (fun e => hne (by rw [e]; rfl))]
end Go.Proofs.YtdcdhcgfhapbnaaDoor.Sg
