/-
  Marks' order: which of two spans stands first: the walk. No conditions.
-/
import Derived.Test.YtijpienjejfmiaaMkH
import Derived.Test.YtijpienjejfmiaaPre
import Derived.Test.YtijpienjejfmiaaChecked
import Derived.Deep.CutBlock
import Derived.Deep.QuietTactic
namespace Go.Proofs.Ytijpienjejfmiaa
open Go Go.RowKit

def cmpI (x y : Int) : Int := if x < y then -1 else if y < x then 1 else 0

/-- Which stands first: below 0, 0, above 0. -/
def cmpS (x y : Sp) : Int := if cmpI x.a y.a ≠ 0 then cmpI x.a y.a else if cmpI x.b y.b ≠ 0 then cmpI x.b y.b else cmpI x.k y.k

abbrev spanV (s : Sp) : Value := .agg #[.int .i64 s.a, .int .i64 s.b, .int .i64 s.k]

theorem nan_walk (x : Int) (w : World) : Calls Try.prog 79 #[.int .i64 x] w fun e w' => e = .returned (.bool false) ∧ w' = w := by
  go_enter Try.func79, Try.ntmps79
  go_wp2_with fail
  go_ret
  exact ⟨rfl, rfl⟩

set_option maxHeartbeats 1000000 in
theorem compare_walk (x y : Int) (w : World) : Calls Try.prog 64 #[.int .i64 x, .int .i64 y] w fun e w' => e = .returned (.int .i64 (cmpI x y)) ∧ w' = w := by
  have hwm : IntKind.i64.wrap (-1) = -1 := by decide
  go_enter Try.func64, Try.ntmps64
  go_wp2_with fail
  refine (nan_walk x w).mono ?_
  rintro e u1 ⟨rfl, eu⟩
  have eu := eu.symm
  subst eu
  go_wp2_with fail
  refine (nan_walk y _).mono ?_
  rintro e u1 ⟨rfl, eu⟩
  have eu := eu.symm
  subst eu
  by_cases h1 : x < y
  · have HE := Lib.hid (show cmpI x y = -1 from if_pos h1)
    go_wp2_with fail
    go_ret
    exact ⟨by rw [HE.out]; rfl, rfl⟩
  · by_cases h2 : y < x
    · have HE := Lib.hid (show cmpI x y = 1 by unfold cmpI; rw [if_neg h1, if_pos h2])
      go_wp2_with fail
      go_ret
      exact ⟨by rw [HE.out]; rfl, rfl⟩
    · have HE := Lib.hid (show cmpI x y = 0 by unfold cmpI; rw [if_neg h1, if_neg h2])
      go_wp2_with fail
      go_ret
      exact ⟨by rw [HE.out]; rfl, rfl⟩

def or3 (a b c : Int) : Int := if a ≠ 0 then a else if b ≠ 0 then b else c

def OrRel (a b c : Int) (w : World) (iv : Value) (wr : World) : Prop :=
  ∃ i : Nat, i ≤ 3 ∧ iv = .int .i64 (i : Int) ∧ wr = w ∧ (0 < i → a = 0) ∧ (1 < i → b = 0) ∧ (2 < i → c = 0)

set_option maxHeartbeats 1000000 in
theorem or_walk (q : Nat) (a b c : Int) (w : World) (h : w.heap[q]? = some (.cells #[.int .i64 a, .int .i64 b, .int .i64 c] 3 (0, 0))) :
    Calls Try.prog 63 #[.slice (some ⟨q, 0, none⟩) 3 3] w fun e w' => e = .returned (.int .i64 (or3 a b c)) ∧ w' = w := by
  have c0 := cell_of_heap h 0
  have c1 := cell_of_heap h 1
  have c2 := cell_of_heap h 2
  have hw1 : IntKind.i64.wrap 1 = 1 := by decide
  have hw2 : IntKind.i64.wrap 2 = 2 := by decide
  have hw3 : IntKind.i64.wrap 3 = 3 := by decide
  clear h
  go_enter Try.func63, Try.ntmps63
  go_wp2_with fail
  go_loopw [8] (fun iv wr => OrRel a b c w iv wr) (fun iv _ => 3 - (RowKit.intOf iv).toNat)
  case atStart => exact ⟨0, by omega, rfl, rfl, by omega, by omega, by omega⟩
  case round =>
    obtain ⟨i, hi, rfl, rfl, h1, h2, h3⟩ := hrel
    rcases (show i = 0 ∨ i = 1 ∨ i = 2 ∨ i = 3 by omega) with rfl | rfl | rfl | rfl
    · by_cases hz : a = 0
      · go_wp2_with fail
        go_roundw
        case rel => exact ⟨1, by omega, by first | rfl | go_num, rfl, fun _ => hz, by omega, by omega⟩
        case measure => simp [RowKit.intOf]
      · have HE := Lib.hid (show or3 a b c = a from if_pos hz)
        go_wp2_with fail
        go_ret
        exact ⟨by rw [HE.out]; rfl, rfl⟩
    · have ha := h1 (by omega)
      subst ha
      by_cases hz : b = 0
      · go_wp2_with fail
        go_roundw
        case rel => exact ⟨2, by omega, by first | rfl | go_num, rfl, fun _ => rfl, fun _ => hz, by omega⟩
        case measure => simp [RowKit.intOf]
      · have HE := Lib.hid (show or3 0 b c = b by unfold or3; rw [if_neg (by omega), if_pos hz])
        go_wp2_with fail
        go_ret
        exact ⟨by rw [HE.out]; rfl, rfl⟩
    · have ha := h1 (by omega)
      subst ha
      have hb := h2 (by omega)
      subst hb
      have HE := Lib.hid (show or3 0 0 c = c by unfold or3; rw [if_neg (by omega), if_neg (by omega)])
      by_cases hz : c = 0
      · go_wp2_with fail
        go_roundw
        case rel => exact ⟨3, by omega, by first | rfl | go_num, rfl, fun _ => rfl, fun _ => rfl, fun _ => hz⟩
        case measure => simp [RowKit.intOf]
      · go_wp2_with fail
        go_ret
        exact ⟨by rw [HE.out]; rfl, rfl⟩
    · have HE := Lib.hid (show or3 a b c = 0 by unfold or3; rw [if_neg (by have := h1 (by omega); omega), if_neg (by have := h2 (by omega); omega)]; exact h3 (by omega))
      go_wp2_with fail
      go_ret
      exact ⟨by rw [HE.out]; rfl, rfl⟩

theorem heap_new (w : World) (o : Obj) : (w.alloc o).heap[w.heap.size]? = some o := by
  show (w.heap.push o)[w.heap.size]? = some o
  simp
theorem heap_new' (w : World) (o : Obj) {k : Nat} (h : k = w.heap.size) : (w.alloc o).heap[k]? = some o := h ▸ heap_new w o

/-- Two boxes. -/
def TwoAt (sz : Nat) (x y : Sp) (u : World) : Prop :=
  u.heap[sz]? = some (Obj.cells #[Value.int IntKind.i64 x.a, Value.int IntKind.i64 x.b, Value.int IntKind.i64 x.k] 25) ∧ u.heap[sz + 1]? = some (Obj.cells #[Value.int IntKind.i64 y.a, Value.int IntKind.i64 y.b, Value.int IntKind.i64 y.k] 25)

set_option maxHeartbeats 1000000 in
theorem order_exact (x y : Sp) (w : World) : Calls Try.prog 51 #[spanV x, spanV y] w fun e w' => e = .returned (.int .i64 (cmpS x y)) ∧ w' = (((w.alloc (Obj.cells #[Value.int IntKind.i64 x.a, Value.int IntKind.i64 x.b, Value.int IntKind.i64 x.k] 25)).alloc (Obj.cells #[Value.int IntKind.i64 y.a, Value.int IntKind.i64 y.b, Value.int IntKind.i64 y.k] 25)).alloc (Obj.cells #[.int .i64 (cmpI x.a y.a), .int .i64 (cmpI x.b y.b), .int .i64 (cmpI x.k y.k)] 3)).drew := by
  go_enter Try.func51, Try.ntmps51
  go_upto_region 1 with (fail)
  have hA : ((w.alloc (Obj.cells #[Value.int IntKind.i64 x.a, Value.int IntKind.i64 x.b, Value.int IntKind.i64 x.k] 25)).alloc (Obj.cells #[Value.int IntKind.i64 y.a, Value.int IntKind.i64 y.b, Value.int IntKind.i64 y.k] 25)).heap[w.heap.size]? = some (Obj.cells #[Value.int IntKind.i64 x.a, Value.int IntKind.i64 x.b, Value.int IntKind.i64 x.k] 25) := by
    rw [Below.heap_alloc _ _ _ (by simp)]
    exact heap_new _ _
  have hB : ((w.alloc (Obj.cells #[Value.int IntKind.i64 x.a, Value.int IntKind.i64 x.b, Value.int IntKind.i64 x.k] 25)).alloc (Obj.cells #[Value.int IntKind.i64 y.a, Value.int IntKind.i64 y.b, Value.int IntKind.i64 y.k] 25)).heap[w.heap.size + 1]? = some (Obj.cells #[Value.int IntKind.i64 y.a, Value.int IntKind.i64 y.b, Value.int IntKind.i64 y.k] 25) := by
    exact heap_new' _ _ (by simp)
  have HG := Lib.hid (grownBy_alloc (grownBy_alloc (grownBy_refl w none) (Obj.cells #[Value.int IntKind.i64 x.a, Value.int IntKind.i64 x.b, Value.int IntKind.i64 x.k] 25)) (Obj.cells #[Value.int IntKind.i64 y.a, Value.int IntKind.i64 y.b, Value.int IntKind.i64 y.k] 25))
  generalize hw2 : ((w.alloc (Obj.cells #[Value.int IntKind.i64 x.a, Value.int IntKind.i64 x.b, Value.int IntKind.i64 x.k] 25)).alloc (Obj.cells #[Value.int IntKind.i64 y.a, Value.int IntKind.i64 y.b, Value.int IntKind.i64 y.k] 25)) = w2 at *
  generalize hsz : w.heap.size = sz at *
  have hT : TwoAt sz x y w2 := ⟨hA, hB⟩
  have HW := Lib.hid hw2
  clear hA hB hw2
  refine region_hw (fun u => TwoAt sz x y u) (by kernel_rfl) hT (fun hHeld => ?_)
  refine hw_take 0 (v := ?_) rfl (by kernel_rfl) (by kernel_rfl) (by kernel_rfl) (fun _ _ _ h => h) (by rfl) (fun u hu => ?_) (by assumption) ?_
  rotate_left
  focus ((try dsimp only at hu); (have a0 := cell_of_heap hu.1 0; have a1 := cell_of_heap hu.1 1; have a2 := cell_of_heap hu.1 2; have b0 := cell_of_heap hu.2 0; have b1 := cell_of_heap hu.2 1; have b2 := cell_of_heap hu.2 2); go_simp; (try with_reducible rfl); done)
  try simp only [Act.put, List.setIfInBounds_toArray, List.set_cons_zero, List.set_cons_succ]
  refine hw_take 1 (v := ?_) rfl (by kernel_rfl) (by kernel_rfl) (by kernel_rfl) (fun _ _ _ h => h) (by rfl) (fun u hu => ?_) (by assumption) ?_
  rotate_left
  focus ((try dsimp only at hu); (have a0 := cell_of_heap hu.1 0; have a1 := cell_of_heap hu.1 1; have a2 := cell_of_heap hu.1 2; have b0 := cell_of_heap hu.2 0; have b1 := cell_of_heap hu.2 1; have b2 := cell_of_heap hu.2 2); go_simp; (try with_reducible rfl); done)
  try simp only [Act.put, List.setIfInBounds_toArray, List.set_cons_zero, List.set_cons_succ]
  refine hw_take 2 (v := ?_) rfl (by kernel_rfl) (by kernel_rfl) (by kernel_rfl) (fun _ _ _ h => h) (by rfl) (fun u hu => ?_) (by assumption) ?_
  rotate_left
  focus ((try dsimp only at hu); (have a0 := cell_of_heap hu.1 0; have a1 := cell_of_heap hu.1 1; have a2 := cell_of_heap hu.1 2; have b0 := cell_of_heap hu.2 0; have b1 := cell_of_heap hu.2 1; have b2 := cell_of_heap hu.2 2); go_simp; (try with_reducible rfl); done)
  try simp only [Act.put, List.setIfInBounds_toArray, List.set_cons_zero, List.set_cons_succ]
  refine hw_take 3 (v := ?_) rfl (by kernel_rfl) (by kernel_rfl) (by kernel_rfl) (fun _ _ _ h => h) (by rfl) (fun u hu => ?_) (by assumption) ?_
  rotate_left
  focus ((try dsimp only at hu); (have a0 := cell_of_heap hu.1 0; have a1 := cell_of_heap hu.1 1; have a2 := cell_of_heap hu.1 2; have b0 := cell_of_heap hu.2 0; have b1 := cell_of_heap hu.2 1; have b2 := cell_of_heap hu.2 2); go_simp; (try with_reducible rfl); done)
  try simp only [Act.put, List.setIfInBounds_toArray, List.set_cons_zero, List.set_cons_succ]
  refine hw_take 5 (v := ?_) rfl (by kernel_rfl) (by kernel_rfl) (by kernel_rfl) (fun _ _ _ h => h) (by rfl) (fun u hu => ?_) (by assumption) ?_
  rotate_left
  focus ((try dsimp only at hu); (have a0 := cell_of_heap hu.1 0; have a1 := cell_of_heap hu.1 1; have a2 := cell_of_heap hu.1 2; have b0 := cell_of_heap hu.2 0; have b1 := cell_of_heap hu.2 1; have b2 := cell_of_heap hu.2 2); go_simp; (try with_reducible rfl); done)
  try simp only [Act.put, List.setIfInBounds_toArray, List.set_cons_zero, List.set_cons_succ]
  refine hw_take 6 (v := ?_) rfl (by kernel_rfl) (by kernel_rfl) (by kernel_rfl) (fun _ _ _ h => h) (by rfl) (fun u hu => ?_) (by assumption) ?_
  rotate_left
  focus ((try dsimp only at hu); (have a0 := cell_of_heap hu.1 0; have a1 := cell_of_heap hu.1 1; have a2 := cell_of_heap hu.1 2; have b0 := cell_of_heap hu.2 0; have b1 := cell_of_heap hu.2 1; have b2 := cell_of_heap hu.2 2); go_simp; (try with_reducible rfl); done)
  try simp only [Act.put, List.setIfInBounds_toArray, List.set_cons_zero, List.set_cons_succ]
  refine hw_take 7 (v := ?_) rfl (by kernel_rfl) (by kernel_rfl) (by kernel_rfl) (fun _ _ _ h => h) (by rfl) (fun u hu => ?_) (by assumption) ?_
  rotate_left
  focus ((try dsimp only at hu); (have a0 := cell_of_heap hu.1 0; have a1 := cell_of_heap hu.1 1; have a2 := cell_of_heap hu.1 2; have b0 := cell_of_heap hu.2 0; have b1 := cell_of_heap hu.2 1; have b2 := cell_of_heap hu.2 2); go_simp; (try with_reducible rfl); done)
  try simp only [Act.put, List.setIfInBounds_toArray, List.set_cons_zero, List.set_cons_succ]
  refine hw_take 8 (v := ?_) rfl (by kernel_rfl) (by kernel_rfl) (by kernel_rfl) (fun _ _ _ h => h) (by rfl) (fun u hu => ?_) (by assumption) ?_
  rotate_left
  focus ((try dsimp only at hu); (have a0 := cell_of_heap hu.1 0; have a1 := cell_of_heap hu.1 1; have a2 := cell_of_heap hu.1 2; have b0 := cell_of_heap hu.2 0; have b1 := cell_of_heap hu.2 1; have b2 := cell_of_heap hu.2 2); go_simp; (try with_reducible rfl); done)
  try simp only [Act.put, List.setIfInBounds_toArray, List.set_cons_zero, List.set_cons_succ]
  refine hw_take 10 (v := ?_) rfl (by kernel_rfl) (by kernel_rfl) (by kernel_rfl) (fun _ _ _ h => h) (by rfl) (fun u hu => ?_) (by assumption) ?_
  rotate_left
  focus ((try dsimp only at hu); (have a0 := cell_of_heap hu.1 0; have a1 := cell_of_heap hu.1 1; have a2 := cell_of_heap hu.1 2; have b0 := cell_of_heap hu.2 0; have b1 := cell_of_heap hu.2 1; have b2 := cell_of_heap hu.2 2); go_simp; (try with_reducible rfl); done)
  try simp only [Act.put, List.setIfInBounds_toArray, List.set_cons_zero, List.set_cons_succ]
  refine hw_take 11 (v := ?_) rfl (by kernel_rfl) (by kernel_rfl) (by kernel_rfl) (fun _ _ _ h => h) (by rfl) (fun u hu => ?_) (by assumption) ?_
  rotate_left
  focus ((try dsimp only at hu); (have a0 := cell_of_heap hu.1 0; have a1 := cell_of_heap hu.1 1; have a2 := cell_of_heap hu.1 2; have b0 := cell_of_heap hu.2 0; have b1 := cell_of_heap hu.2 1; have b2 := cell_of_heap hu.2 2); go_simp; (try with_reducible rfl); done)
  try simp only [Act.put, List.setIfInBounds_toArray, List.set_cons_zero, List.set_cons_succ]
  refine hw_take 12 (v := ?_) rfl (by kernel_rfl) (by kernel_rfl) (by kernel_rfl) (fun _ _ _ h => h) (by rfl) (fun u hu => ?_) (by assumption) ?_
  rotate_left
  focus ((try dsimp only at hu); (have a0 := cell_of_heap hu.1 0; have a1 := cell_of_heap hu.1 1; have a2 := cell_of_heap hu.1 2; have b0 := cell_of_heap hu.2 0; have b1 := cell_of_heap hu.2 1; have b2 := cell_of_heap hu.2 2); go_simp; (try with_reducible rfl); done)
  try simp only [Act.put, List.setIfInBounds_toArray, List.set_cons_zero, List.set_cons_succ]
  refine hw_take 13 (v := ?_) rfl (by kernel_rfl) (by kernel_rfl) (by kernel_rfl) (fun _ _ _ h => h) (by rfl) (fun u hu => ?_) (by assumption) ?_
  rotate_left
  focus ((try dsimp only at hu); (have a0 := cell_of_heap hu.1 0; have a1 := cell_of_heap hu.1 1; have a2 := cell_of_heap hu.1 2; have b0 := cell_of_heap hu.2 0; have b1 := cell_of_heap hu.2 1; have b2 := cell_of_heap hu.2 2); go_simp; (try with_reducible rfl); done)
  try simp only [Act.put, List.setIfInBounds_toArray, List.set_cons_zero, List.set_cons_succ]
  refine hw_one 4 (by kernel_rfl) rfl (fun K hK => ?_)
  go_simp
  go_at_call 64
  refine (compare_walk x.a y.a w2.drew).mono ?_
  rintro e u4 ⟨rfl, eu4⟩
  have eu4 := eu4.symm
  subst eu4
  try go_simp
  refine hK.out _ _ (by first | rfl | assumption | trivial) (fun hHeld4 => ?_)
  clear hK K
  try simp only [Act.put, List.setIfInBounds_toArray, List.set_cons_zero, List.set_cons_succ]
  refine hw_one 9 (by kernel_rfl) rfl (fun K hK => ?_)
  go_simp
  go_at_call 64
  refine (compare_walk x.b y.b w2.drew).mono ?_
  rintro e u9 ⟨rfl, eu9⟩
  have eu9 := eu9.symm
  subst eu9
  try go_simp
  refine hK.out _ _ (by first | rfl | assumption | trivial) (fun hHeld9 => ?_)
  clear hK K
  try simp only [Act.put, List.setIfInBounds_toArray, List.set_cons_zero, List.set_cons_succ]
  refine hw_one 14 (by kernel_rfl) rfl (fun K hK => ?_)
  go_simp
  go_at_call 64
  refine (compare_walk x.k y.k w2.drew).mono ?_
  rintro e u14 ⟨rfl, eu14⟩
  have eu14 := eu14.symm
  subst eu14
  try go_simp
  refine hK.out _ _ (by first | rfl | assumption | trivial) (fun hHeld14 => ?_)
  clear hK K
  try simp only [Act.put, List.setIfInBounds_toArray, List.set_cons_zero, List.set_cons_succ]
  refine hw_one 15 (by kernel_rfl) rfl (fun K hK => ?_)
  go_simp
  refine hK.out _ _ ?_ (fun hHeld15 => ?_)
  focus (exact ⟨(Below.heap_alloc _ _ _ (heap_lt hT.1)).trans hT.1, (Below.heap_alloc _ _ _ (heap_lt hT.2)).trans hT.2⟩)
  clear hK K
  try simp only [Act.put, List.setIfInBounds_toArray, List.set_cons_zero, List.set_cons_succ]
  refine hw_one 16 (by kernel_rfl) rfl (fun K hK => ?_)
  go_simp
  go_at_call 63
  refine (or_walk w2.heap.size (cmpI x.a y.a) (cmpI x.b y.b) (cmpI x.k y.k) (w2.alloc _).drew (show (w2.alloc _).drew.heap[_]? = _ from heap_new w2 _)).mono ?_
  rintro e u16 ⟨rfl, eu16⟩
  have eu16 := eu16.symm
  subst eu16
  try go_simp
  refine hK.out _ _ (by first | rfl | assumption | trivial) (fun hHeld16 => ?_)
  clear hK K
  try simp only [Act.put, List.setIfInBounds_toArray, List.set_cons_zero, List.set_cons_succ]
  refine hw_take 17 (v := ?_) rfl (by kernel_rfl) (by kernel_rfl) (by kernel_rfl) (fun _ _ _ h => h) (by rfl) (fun u hu => ?_) (by assumption) ?_
  rotate_left
  focus ((try dsimp only at hu); (have a0 := cell_of_heap hu.1 0; have a1 := cell_of_heap hu.1 1; have a2 := cell_of_heap hu.1 2; have b0 := cell_of_heap hu.2 0; have b1 := cell_of_heap hu.2 1; have b2 := cell_of_heap hu.2 2); go_simp; (try with_reducible rfl); done)
  try simp only [Act.put, List.setIfInBounds_toArray, List.set_cons_zero, List.set_cons_succ]
  refine hw_done (by kernel_rfl) ?_
  go_wp2_with fail
  go_ret
  rw [HW.out]
  exact ⟨rfl, rfl⟩

theorem order_walk (x y : Sp) (w : World) : Calls Try.prog 51 #[spanV x, spanV y] w fun e w' => e = .returned (.int .i64 (cmpS x y)) ∧ w.grownBy w' none := by
  refine (order_exact x y w).mono ?_
  rintro e w' ⟨rfl, rfl⟩
  exact ⟨rfl, grownBy_drew (grownBy_alloc (grownBy_alloc (grownBy_alloc (grownBy_refl w none) _) _) _)⟩
end Go.Proofs.Ytijpienjejfmiaa
