/-
  shift's cut, place, empty: the walks. No conditions beyond those that each law names.
-/
import Derived.Test.YtijpienjejfmiaaMkO
namespace Go.Proofs.Ytijpienjejfmiaa
open Go Go.RowKit

def cutI (v : Int) : Int := max 0 (min v 1099511627776)

/-- Where a place is behind a change. -/
def placeI (at_ del ins p : Int) : Int := if cutI p ≤ at_ then cutI p else if cutI p < at_ + del then at_ + ins else cutI p + ins - del

theorem cutI_le (v : Int) : 0 ≤ cutI v ∧ cutI v ≤ 1099511627776 := by unfold cutI; omega

abbrev chgV (a d i : Int) : Value := .agg #[.int .i64 a, .int .i64 d, .int .i64 i]

set_option maxHeartbeats 1000000 in
theorem scut_walk (v : Int) (w : World) : Calls Try.prog 65 #[.int .i64 v] w fun e w' => e = .returned (.int .i64 (cutI v)) ∧ w' = w := by
  have hmin : ∀ (ts : Array TypeId) (ty : TypeId) (w : World), (Builtin.min_ ts ty #[.int .i64 v, .int .i64 1099511627776]).run Try.prog w = .ok (.int .i64 (min v 1099511627776)) w := by
    intro ts ty w
    rw [run_min_int2]; congr 2; split <;> omega
  have hmax : ∀ (ts : Array TypeId) (ty : TypeId) (w : World), (Builtin.max_ ts ty #[.int .i64 0, .int .i64 (min v 1099511627776)]).run Try.prog w = .ok (.int .i64 (cutI v)) w := by
    intro ts ty w
    rw [run_max_int2]; congr 2; unfold cutI; split <;> omega
  generalize cutI v = c at *
  generalize min v 1099511627776 = m at *
  go_enter Try.func65, Try.ntmps65
  go_wp2_with fail
  go_ret
  exact ⟨rfl, rfl⟩

set_option maxHeartbeats 1000000 in
theorem place_walk (a d i p : Int) (ha : 0 ≤ a ∧ a ≤ 1099511627776) (hd : 0 ≤ d ∧ d ≤ 1099511627776) (hi : 0 ≤ i ∧ i ≤ 1099511627776) (w : World) :
    Calls Try.prog 66 #[chgV a d i, .int .i64 p] w fun e w' => e = .returned (.int .i64 (placeI a d i p)) ∧ w.grownBy w' none := by
  have hc := cutI_le p
  obtain ⟨c, hcp⟩ : ∃ c, cutI p = c := ⟨_, rfl⟩
  have hpl : placeI a d i p = if c ≤ a then c else if c < a + d then a + i else c + i - d := by unfold placeI; rw [hcp]
  have hcut := fun w => scut_walk p w
  rw [hpl]
  rw [hcp] at hc
  simp only [hcp] at hcut
  have hw1 : IntKind.i64.wrap (a + d) = a + d := by rw [IntKind.wrap_i64]; omega
  have hw2 : IntKind.i64.wrap (a + i) = a + i := by rw [IntKind.wrap_i64]; omega
  have hw3 : IntKind.i64.wrap (c + i) = c + i := by rw [IntKind.wrap_i64]; omega
  have hw4 : IntKind.i64.wrap (c + i - d) = c + i - d := by rw [IntKind.wrap_i64]; omega
  clear hcp hpl
  go_enter Try.func66, Try.ntmps66
  go_upto_region 1 with (fail)
  have hA := heap_new w (Obj.cells #[.int .i64 a, .int .i64 d, .int .i64 i] 78)
  have HG := Lib.hid (grownBy_alloc (grownBy_refl w none) (Obj.cells #[.int .i64 a, .int .i64 d, .int .i64 i] 78))
  generalize hw1' : w.alloc (Obj.cells #[.int .i64 a, .int .i64 d, .int .i64 i] 78) = w1 at *
  have a0 := cell_of_heap hA 0
  have a1 := cell_of_heap hA 1
  have a2 := cell_of_heap hA 2
  clear hA hw1'
  go_wp2_with fail
  refine (hcut w1).mono ?_
  rintro e u1 ⟨rfl, eu⟩
  have eu := eu.symm
  subst eu
  by_cases h1 : c ≤ a
  · go_wp2_with fail
    go_ret
    exact ⟨rfl, HG.out⟩
  · by_cases h2 : c < a + d
    · go_wp2_with fail
      go_ret
      exact ⟨rfl, HG.out⟩
    · go_wp2_with fail
      go_ret
      exact ⟨rfl, HG.out⟩

/-- Boxes of a change and a span. -/
def CSAt (xc xs : Nat) (a d i : Int) (s : Sp) (u : World) : Prop :=
  u.heap[xc]? = some (Obj.cells #[.int .i64 a, .int .i64 d, .int .i64 i] 78) ∧ u.heap[xs]? = some (Obj.cells #[Value.int IntKind.i64 s.a, Value.int IntKind.i64 s.b, Value.int IntKind.i64 s.k] 25)

theorem CSAt.kept {xc xs : Nat} {a d i : Int} {s : Sp} {u u' : World} (h : CSAt xc xs a d i s u) (g : u.grownBy u' none) : CSAt xc xs a d i s u' := ⟨grownBy_heap g h.1 nofun, grownBy_heap g h.2 nofun⟩

set_option maxHeartbeats 1000000 in
theorem empty_walk (a d i : Int) (s : Sp) (ha : 0 ≤ a ∧ a ≤ 1099511627776) (hd : 0 ≤ d ∧ d ≤ 1099511627776) (hi : 0 ≤ i ∧ i ≤ 1099511627776) (w : World) :
    Calls Try.prog 54 #[chgV a d i, spanV s] w fun e w' => e = .returned (.bool (decide (placeI a d i s.b ≤ placeI a d i s.a))) ∧ w.grownBy w' none := by
  have hp := fun p w => place_walk a d i p ha hd hi w
  obtain ⟨P, hP⟩ : ∃ P, placeI a d i = P := ⟨_, rfl⟩
  simp only [hP] at hp
  rw [hP]
  clear hP
  go_enter Try.func54, Try.ntmps54
  go_upto_region 1 with (fail)
  have hA : ((w.alloc (Obj.cells #[.int .i64 a, .int .i64 d, .int .i64 i] 78)).alloc (Obj.cells #[Value.int IntKind.i64 s.a, Value.int IntKind.i64 s.b, Value.int IntKind.i64 s.k] 25)).heap[w.heap.size]? = some (Obj.cells #[.int .i64 a, .int .i64 d, .int .i64 i] 78) := by
    rw [Below.heap_alloc _ _ _ (by simp)]
    exact heap_new _ _
  have hB : ((w.alloc (Obj.cells #[.int .i64 a, .int .i64 d, .int .i64 i] 78)).alloc (Obj.cells #[Value.int IntKind.i64 s.a, Value.int IntKind.i64 s.b, Value.int IntKind.i64 s.k] 25)).heap[w.heap.size + 1]? = some (Obj.cells #[Value.int IntKind.i64 s.a, Value.int IntKind.i64 s.b, Value.int IntKind.i64 s.k] 25) := heap_new' _ _ (by simp)
  have HG := Lib.hid (grownBy_alloc (grownBy_alloc (grownBy_refl w none) (Obj.cells #[.int .i64 a, .int .i64 d, .int .i64 i] 78)) (Obj.cells #[Value.int IntKind.i64 s.a, Value.int IntKind.i64 s.b, Value.int IntKind.i64 s.k] 25))
  generalize hw2 : ((w.alloc (Obj.cells #[.int .i64 a, .int .i64 d, .int .i64 i] 78)).alloc (Obj.cells #[Value.int IntKind.i64 s.a, Value.int IntKind.i64 s.b, Value.int IntKind.i64 s.k] 25)) = w2 at *
  generalize hsz : w.heap.size = sz at *
  have hT : CSAt sz (sz + 1) a d i s w2 := ⟨hA, hB⟩
  clear hA hB hw2
  refine region_hw (fun u => CSAt sz (sz + 1) a d i s u) (by kernel_rfl) hT (fun hHeld => ?_)
  refine hw_take 0 (v := ?_) rfl (by kernel_rfl) (by kernel_rfl) (by kernel_rfl) (fun _ _ _ h => h) (by rfl) (fun u hu => ?_) (by assumption) ?_
  rotate_left
  focus ((try dsimp only at hu); (have a0 := cell_of_heap hu.1 0; have a1 := cell_of_heap hu.1 1; have a2 := cell_of_heap hu.1 2; have b0 := cell_of_heap hu.2 0; have b1 := cell_of_heap hu.2 1; have b2 := cell_of_heap hu.2 2); go_simp; (try with_reducible rfl); done)
  try simp only [Act.put, List.setIfInBounds_toArray, List.set_cons_zero, List.set_cons_succ]
  refine hw_take 1 (v := ?_) rfl (by kernel_rfl) (by kernel_rfl) (by kernel_rfl) (fun _ _ _ h => h) (by rfl) (fun u hu => ?_) (by assumption) ?_
  rotate_left
  focus ((try dsimp only at hu); (have a0 := cell_of_heap hu.1 0; have a1 := cell_of_heap hu.1 1; have a2 := cell_of_heap hu.1 2; have b0 := cell_of_heap hu.2 0; have b1 := cell_of_heap hu.2 1; have b2 := cell_of_heap hu.2 2); go_simp; (try with_reducible rfl); done)
  try simp only [Act.put, List.setIfInBounds_toArray, List.set_cons_zero, List.set_cons_succ]
  refine hw_take 2 (v := ?_) rfl (by kernel_rfl) (by kernel_rfl) (by kernel_rfl) (fun _ _ _ h => h) (by rfl) (fun u hu => ?_) (by assumption) ?_
  rotate_left
  focus ((try dsimp only at hu); (have a0 := cell_of_heap hu.1 0; have a1 := cell_of_heap hu.1 1; have a2 := cell_of_heap hu.1 2; have b0 := cell_of_heap hu.2 0; have b1 := cell_of_heap hu.2 1; have b2 := cell_of_heap hu.2 2); go_simp; (try with_reducible rfl); done)
  try simp only [Act.put, List.setIfInBounds_toArray, List.set_cons_zero, List.set_cons_succ]
  refine hw_take 4 (v := ?_) rfl (by kernel_rfl) (by kernel_rfl) (by kernel_rfl) (fun _ _ _ h => h) (by rfl) (fun u hu => ?_) (by assumption) ?_
  rotate_left
  focus ((try dsimp only at hu); (have a0 := cell_of_heap hu.1 0; have a1 := cell_of_heap hu.1 1; have a2 := cell_of_heap hu.1 2; have b0 := cell_of_heap hu.2 0; have b1 := cell_of_heap hu.2 1; have b2 := cell_of_heap hu.2 2); go_simp; (try with_reducible rfl); done)
  try simp only [Act.put, List.setIfInBounds_toArray, List.set_cons_zero, List.set_cons_succ]
  refine hw_take 5 (v := ?_) rfl (by kernel_rfl) (by kernel_rfl) (by kernel_rfl) (fun _ _ _ h => h) (by rfl) (fun u hu => ?_) (by assumption) ?_
  rotate_left
  focus ((try dsimp only at hu); (have a0 := cell_of_heap hu.1 0; have a1 := cell_of_heap hu.1 1; have a2 := cell_of_heap hu.1 2; have b0 := cell_of_heap hu.2 0; have b1 := cell_of_heap hu.2 1; have b2 := cell_of_heap hu.2 2); go_simp; (try with_reducible rfl); done)
  try simp only [Act.put, List.setIfInBounds_toArray, List.set_cons_zero, List.set_cons_succ]
  refine hw_take 6 (v := ?_) rfl (by kernel_rfl) (by kernel_rfl) (by kernel_rfl) (fun _ _ _ h => h) (by rfl) (fun u hu => ?_) (by assumption) ?_
  rotate_left
  focus ((try dsimp only at hu); (have a0 := cell_of_heap hu.1 0; have a1 := cell_of_heap hu.1 1; have a2 := cell_of_heap hu.1 2; have b0 := cell_of_heap hu.2 0; have b1 := cell_of_heap hu.2 1; have b2 := cell_of_heap hu.2 2); go_simp; (try with_reducible rfl); done)
  try simp only [Act.put, List.setIfInBounds_toArray, List.set_cons_zero, List.set_cons_succ]
  refine hw_one 3 (by kernel_rfl) rfl (fun K hK => ?_)
  go_simp
  go_at_call 66
  refine (hp s.a w2.drew).mono ?_
  rintro e w3 ⟨rfl, hg3⟩
  have hT3 := hT.kept (grownBy_trans (grownBy_drew (grownBy_refl w2 none)) hg3 nofun)
  have HG3 := Lib.hid (grownBy_trans HG.out (grownBy_trans (grownBy_drew (grownBy_refl w2 none)) hg3 nofun) nofun)
  clear hg3
  try go_simp
  refine hK.out _ _ hT3 (fun hHeld3 => ?_)
  clear hK K
  try simp only [Act.put, List.setIfInBounds_toArray, List.set_cons_zero, List.set_cons_succ]
  refine hw_one 7 (by kernel_rfl) rfl (fun K hK => ?_)
  go_simp
  go_at_call 66
  refine (hp s.b w3).mono ?_
  rintro e w4 ⟨rfl, hg4⟩
  have hT4 := hT3.kept hg4
  have HG4 := Lib.hid (grownBy_trans HG3.out hg4 nofun)
  clear hg4
  try go_simp
  refine hK.out _ _ hT4 (fun hHeld7 => ?_)
  clear hK K
  try simp only [Act.put, List.setIfInBounds_toArray, List.set_cons_zero, List.set_cons_succ]
  refine hw_take 8 (v := ?_) rfl (by kernel_rfl) (by kernel_rfl) (by kernel_rfl) (fun _ _ _ h => h) (by rfl) (fun u hu => ?_) (by assumption) ?_
  rotate_left
  focus ((try dsimp only at hu); (have a0 := cell_of_heap hu.1 0; have a1 := cell_of_heap hu.1 1; have a2 := cell_of_heap hu.1 2; have b0 := cell_of_heap hu.2 0; have b1 := cell_of_heap hu.2 1; have b2 := cell_of_heap hu.2 2); go_simp; (try with_reducible rfl); done)
  try simp only [Act.put, List.setIfInBounds_toArray, List.set_cons_zero, List.set_cons_succ]
  refine hw_take 9 (v := ?_) rfl (by kernel_rfl) (by kernel_rfl) (by kernel_rfl) (fun _ _ _ h => h) (by rfl) (fun u hu => ?_) (by assumption) ?_
  rotate_left
  focus ((try dsimp only at hu); (have a0 := cell_of_heap hu.1 0; have a1 := cell_of_heap hu.1 1; have a2 := cell_of_heap hu.1 2; have b0 := cell_of_heap hu.2 0; have b1 := cell_of_heap hu.2 1; have b2 := cell_of_heap hu.2 2); go_simp; (try with_reducible rfl); done)
  try simp only [Act.put, List.setIfInBounds_toArray, List.set_cons_zero, List.set_cons_succ]
  refine hw_done (by kernel_rfl) ?_
  go_wp2_with fail
  go_ret
  exact ⟨by first | rfl | simp, HG4.out⟩
end Go.Proofs.Ytijpienjejfmiaa
