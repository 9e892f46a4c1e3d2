/-
  Marks' New, Len, Height, less: the walks. No conditions beyond those that each law names.
-/
import Derived.Test.YtijpienjejfmiaaMkQ
namespace Go.Proofs.Ytijpienjejfmiaa
open Go Go.RowKit

/-- New's loop: the trees that are made so far. -/
def NewRel (mb : Nat) (w : World) (iv : Value) (wr : World) : Prop :=
  ∃ i : Nat, i ≤ 2 ∧ iv = .int .i64 (i : Int) ∧ w.grownBy wr none ∧ w.heap.size ≤ mb ∧ ((i = 0 ∧ wr.heap[mb]? = some (.cells #[.pointer none, .pointer none, .int .i64 0] 55 (0, 0))) ∨
    (i = 1 ∧ ∃ t0, w.heap.size ≤ t0 ∧ t0 ≠ mb ∧ wr.heap[mb]? = some (.cells #[.pointer (some ⟨t0, 0, none⟩), .pointer none, .int .i64 0] 55 (0, 0)) ∧ wr.heap[t0]? = some (.cells #[.pointer none, .pointer (some ⟨mb, 2, none⟩)] 59 (0, 0))) ∨
    (i = 2 ∧ ∃ t0 t1, w.heap.size ≤ t0 ∧ w.heap.size ≤ t1 ∧ t0 ≠ mb ∧ t1 ≠ mb ∧ t0 ≠ t1 ∧ wr.heap[mb]? = some (.cells #[.pointer (some ⟨t0, 0, none⟩), .pointer (some ⟨t1, 0, none⟩), .int .i64 0] 55 (0, 0)) ∧ wr.heap[t0]? = some (.cells #[.pointer none, .pointer (some ⟨mb, 2, none⟩)] 59 (0, 0)) ∧ wr.heap[t1]? = some (.cells #[.pointer none, .pointer (some ⟨mb, 2, none⟩)] 59 (0, 0))))

set_option maxRecDepth 100000 in
set_option maxHeartbeats 1000000 in
theorem new_walk (w : World) : Calls Try.prog 10 #[] w fun e w' => ∃ mb B, e = .returned (.pointer (some ⟨mb, 0, none⟩)) ∧ Mk w' mb B [] [] ∧ (∀ x ∈ B, w.heap.size ≤ x) ∧ w.grownBy w' none := by
  have hw1 : IntKind.i64.wrap 1 = 1 := by decide
  have hw2 : IntKind.i64.wrap 2 = 2 := by decide
  go_enter Try.func10, Try.ntmps10
  go_wp2_with fail
  have hA := heap_new w (Obj.cells #[Value.pointer none, Value.pointer none, .int .i64 0] 55)
  have hg := grownBy_alloc (grownBy_refl w none) (Obj.cells #[Value.pointer none, Value.pointer none, .int .i64 0] 55)
  generalize hw0 : w.alloc (Obj.cells #[Value.pointer none, Value.pointer none, .int .i64 0] 55) = w0 at *
  generalize hmb : w.heap.size = mb at *
  go_loopw [5] (fun iv wr => NewRel mb w iv wr) (fun iv _ => 2 - (RowKit.intOf iv).toNat)
  case atStart => exact ⟨0, by omega, rfl, hg, by omega, .inl ⟨rfl, hA⟩⟩
  case round =>
    clear hg hA hw0
    obtain ⟨i, hi, rfl, hg, hle, hh⟩ := hrel
    rcases hh with ⟨rfl, hm⟩ | ⟨rfl, t0, ht0, htm, hm, ht⟩ | ⟨rfl, t0, t1, ht0, ht1, htm0, htm1, ht01, hm, hT0, hT1⟩
    · have HM := Lib.hid hm
      have HG := Lib.hid hg
      have hlt := heap_lt hm
      clear hm hg
      go_upto_region 5 with (fail)
      refine region_pre 6 (fun _ => True) (by kernel_rfl) trivial (fun hHeld => ?_)
      refine pre_free 0 (v := ?_) rfl (by kernel_rfl) (by kernel_rfl) (by kernel_rfl) (by kernel_rfl) (fun _ _ _ h => h) (by rfl) (fun u => ?_) (by assumption) ?_
      rotate_left
      focus (go_simp; (try with_reducible rfl); done)
      try simp only [Act.put, List.setIfInBounds_toArray, List.set_cons_zero, List.set_cons_succ]
      refine pre_free 1 (v := ?_) rfl (by kernel_rfl) (by kernel_rfl) (by kernel_rfl) (by kernel_rfl) (fun _ _ _ h => h) (by rfl) (fun u => ?_) (by assumption) ?_
      rotate_left
      focus (go_simp; (try with_reducible rfl); done)
      try simp only [Act.put, List.setIfInBounds_toArray, List.set_cons_zero, List.set_cons_succ]
      refine pre_free 2 (v := ?_) rfl (by kernel_rfl) (by kernel_rfl) (by kernel_rfl) (by kernel_rfl) (fun _ _ _ h => h) (by rfl) (fun u => ?_) (by assumption) ?_
      rotate_left
      focus (go_simp; (try with_reducible rfl); done)
      try simp only [Act.put, List.setIfInBounds_toArray, List.set_cons_zero, List.set_cons_succ]
      refine pre_free 3 (v := ?_) rfl (by kernel_rfl) (by kernel_rfl) (by kernel_rfl) (by kernel_rfl) (fun _ _ _ h => h) (by rfl) (fun u => ?_) (by assumption) ?_
      rotate_left
      focus (go_simp; (try with_reducible rfl); done)
      try simp only [Act.put, List.setIfInBounds_toArray, List.set_cons_zero, List.set_cons_succ]
      refine pre_free 4 (v := ?_) rfl (by kernel_rfl) (by kernel_rfl) (by kernel_rfl) (by kernel_rfl) (fun _ _ _ h => h) (by rfl) (fun u => ?_) (by assumption) ?_
      rotate_left
      focus (go_simp; (try with_reducible rfl); done)
      try simp only [Act.put, List.setIfInBounds_toArray, List.set_cons_zero, List.set_cons_succ]
      refine pre_free 7 (v := ?_) rfl (by kernel_rfl) (by kernel_rfl) (by kernel_rfl) (by kernel_rfl) (fun _ _ _ h => h) (by rfl) (fun u => ?_) (by assumption) ?_
      rotate_left
      focus (go_simp; (try with_reducible rfl); done)
      try simp only [Act.put, List.setIfInBounds_toArray, List.set_cons_zero, List.set_cons_succ]
      refine pre_free 8 (v := ?_) rfl (by kernel_rfl) (by kernel_rfl) (by kernel_rfl) (by kernel_rfl) (fun _ _ _ h => h) (by rfl) (fun u => ?_) (by assumption) ?_
      rotate_left
      focus (go_simp; (try with_reducible rfl); done)
      try simp only [Act.put, List.setIfInBounds_toArray, List.set_cons_zero, List.set_cons_succ]
      refine pre_free 5 (v := ?_) rfl (by kernel_rfl) (by kernel_rfl) (by kernel_rfl) (by kernel_rfl) (fun _ _ _ h => h) (by rfl) (fun u => ?_) (by assumption) ?_
      rotate_left
      focus (go_simp; (try with_reducible rfl); done)
      try simp only [Act.put, List.setIfInBounds_toArray, List.set_cons_zero, List.set_cons_succ]
      have ho := (Only.refl [] wr).alloc (Obj.cells #[Value.pointer none, Value.pointer (some ⟨mb, 2, none⟩)] 59)
      have hm1 := ho.heap HM.out (by simp)
      have m0 := cell_of_heap hm1 0
      have f0 := frozen_of_heap hm1 0
      refine pre_last (by kernel_rfl) rfl (fun K hK => ?_)
      go_simp
      refine hK.out _ _ ?_
      clear hK K
      try simp only [Act.put, List.setIfInBounds_toArray, List.set_cons_zero, List.set_cons_succ]
      refine aw_free 9 (v := ?_) rfl (by kernel_rfl) (by kernel_rfl) (by kernel_rfl) (fun _ _ _ h => h) (by rfl) (fun u => ?_) ?_
      rotate_left
      focus (go_simp; (try with_reducible rfl); done)
      try simp only [Act.put, List.setIfInBounds_toArray, List.set_cons_zero, List.set_cons_succ]
      refine aw_one 10 (by kernel_rfl) rfl (fun K hK => ?_)
      go_simp
      refine hK.out _ _ ?_
      clear hK K
      try simp only [Act.put, List.setIfInBounds_toArray, List.set_cons_zero, List.set_cons_succ]
      refine aw_done (by kernel_rfl) ?_
      have hos := (Only.refl [mb] wr).setCell (p := ⟨mb, 0, none⟩) (.inl (by simp)) (.pointer (some ⟨wr.heap.size, 0, none⟩))
      have hoa := (Only.refl [] (wr.setCell ⟨mb, 0, none⟩ (.pointer (some ⟨wr.heap.size, 0, none⟩)))).alloc (Obj.cells #[Value.pointer none, Value.pointer (some ⟨mb, 2, none⟩)] 59)
      have hne : wr.heap.size ≠ mb := by omega
      have hm2 := hoa.heap (heap_setCell HM.out 0 (.pointer (some ⟨wr.heap.size, 0, none⟩))) (by simp)
      have hn2 : ((wr.setCell ⟨mb, 0, none⟩ (.pointer (some ⟨wr.heap.size, 0, none⟩))).alloc (Obj.cells #[Value.pointer none, Value.pointer (some ⟨mb, 2, none⟩)] 59)).heap[wr.heap.size]? = some (Obj.cells #[Value.pointer none, Value.pointer (some ⟨mb, 2, none⟩)] 59) := heap_new' _ _ (by simp)
      have hgg : w.grownBy ((wr.setCell ⟨mb, 0, none⟩ (.pointer (some ⟨wr.heap.size, 0, none⟩))).alloc (Obj.cells #[Value.pointer none, Value.pointer (some ⟨mb, 2, none⟩)] 59)) none := grownBy_alloc (grownBy_setCell HG.out mb 0 _ (.inr (by omega))) _
      have hle2 : w.heap.size ≤ wr.heap.size := HG.out.size
      have HN2 := Lib.hid hn2
      have HM2 := Lib.hid hm2
      have HGG := Lib.hid hgg
      clear ho hm1 m0 f0 hn2 hm2 hgg hos hoa
      go_wp2_with fail
      go_roundw
      case rel => exact ⟨1, by omega, by first | rfl | go_num, grownBy_drew HGG.out, by omega, .inr (.inl ⟨rfl, wr.heap.size, by omega, hne, HM2.out, HN2.out⟩)⟩
      case measure => simp [RowKit.intOf]
    · have HM := Lib.hid hm
      have HG := Lib.hid hg
      have HT := Lib.hid ht
      have hlt := heap_lt hm
      have hlt0 := heap_lt ht
      clear hm hg ht
      go_upto_region 5 with (fail)
      refine region_pre 6 (fun _ => True) (by kernel_rfl) trivial (fun hHeld => ?_)
      refine pre_free 0 (v := ?_) rfl (by kernel_rfl) (by kernel_rfl) (by kernel_rfl) (by kernel_rfl) (fun _ _ _ h => h) (by rfl) (fun u => ?_) (by assumption) ?_
      rotate_left
      focus (go_simp; (try with_reducible rfl); done)
      try simp only [Act.put, List.setIfInBounds_toArray, List.set_cons_zero, List.set_cons_succ]
      refine pre_free 1 (v := ?_) rfl (by kernel_rfl) (by kernel_rfl) (by kernel_rfl) (by kernel_rfl) (fun _ _ _ h => h) (by rfl) (fun u => ?_) (by assumption) ?_
      rotate_left
      focus (go_simp; (try with_reducible rfl); done)
      try simp only [Act.put, List.setIfInBounds_toArray, List.set_cons_zero, List.set_cons_succ]
      refine pre_free 2 (v := ?_) rfl (by kernel_rfl) (by kernel_rfl) (by kernel_rfl) (by kernel_rfl) (fun _ _ _ h => h) (by rfl) (fun u => ?_) (by assumption) ?_
      rotate_left
      focus (go_simp; (try with_reducible rfl); done)
      try simp only [Act.put, List.setIfInBounds_toArray, List.set_cons_zero, List.set_cons_succ]
      refine pre_free 3 (v := ?_) rfl (by kernel_rfl) (by kernel_rfl) (by kernel_rfl) (by kernel_rfl) (fun _ _ _ h => h) (by rfl) (fun u => ?_) (by assumption) ?_
      rotate_left
      focus (go_simp; (try with_reducible rfl); done)
      try simp only [Act.put, List.setIfInBounds_toArray, List.set_cons_zero, List.set_cons_succ]
      refine pre_free 4 (v := ?_) rfl (by kernel_rfl) (by kernel_rfl) (by kernel_rfl) (by kernel_rfl) (fun _ _ _ h => h) (by rfl) (fun u => ?_) (by assumption) ?_
      rotate_left
      focus (go_simp; (try with_reducible rfl); done)
      try simp only [Act.put, List.setIfInBounds_toArray, List.set_cons_zero, List.set_cons_succ]
      refine pre_free 7 (v := ?_) rfl (by kernel_rfl) (by kernel_rfl) (by kernel_rfl) (by kernel_rfl) (fun _ _ _ h => h) (by rfl) (fun u => ?_) (by assumption) ?_
      rotate_left
      focus (go_simp; (try with_reducible rfl); done)
      try simp only [Act.put, List.setIfInBounds_toArray, List.set_cons_zero, List.set_cons_succ]
      refine pre_free 8 (v := ?_) rfl (by kernel_rfl) (by kernel_rfl) (by kernel_rfl) (by kernel_rfl) (fun _ _ _ h => h) (by rfl) (fun u => ?_) (by assumption) ?_
      rotate_left
      focus (go_simp; (try with_reducible rfl); done)
      try simp only [Act.put, List.setIfInBounds_toArray, List.set_cons_zero, List.set_cons_succ]
      refine pre_free 5 (v := ?_) rfl (by kernel_rfl) (by kernel_rfl) (by kernel_rfl) (by kernel_rfl) (fun _ _ _ h => h) (by rfl) (fun u => ?_) (by assumption) ?_
      rotate_left
      focus (go_simp; (try with_reducible rfl); done)
      try simp only [Act.put, List.setIfInBounds_toArray, List.set_cons_zero, List.set_cons_succ]
      have ho := (Only.refl [] wr).alloc (Obj.cells #[Value.pointer none, Value.pointer (some ⟨mb, 2, none⟩)] 59)
      have hm1 := ho.heap HM.out (by simp)
      have ht1 := ho.heap HT.out (by simp)
      have m0 := cell_of_heap hm1 1
      have f0 := frozen_of_heap hm1 1
      refine pre_last (by kernel_rfl) rfl (fun K hK => ?_)
      go_simp
      refine hK.out _ _ ?_
      clear hK K
      try simp only [Act.put, List.setIfInBounds_toArray, List.set_cons_zero, List.set_cons_succ]
      refine aw_free 9 (v := ?_) rfl (by kernel_rfl) (by kernel_rfl) (by kernel_rfl) (fun _ _ _ h => h) (by rfl) (fun u => ?_) ?_
      rotate_left
      focus (go_simp; (try with_reducible rfl); done)
      try simp only [Act.put, List.setIfInBounds_toArray, List.set_cons_zero, List.set_cons_succ]
      refine aw_one 10 (by kernel_rfl) rfl (fun K hK => ?_)
      go_simp
      refine hK.out _ _ ?_
      clear hK K
      try simp only [Act.put, List.setIfInBounds_toArray, List.set_cons_zero, List.set_cons_succ]
      refine aw_done (by kernel_rfl) ?_
      have hos := (Only.refl [mb] wr).setCell (p := ⟨mb, 1, none⟩) (.inl (by simp)) (.pointer (some ⟨wr.heap.size, 0, none⟩))
      have hoa := (Only.refl [] (wr.setCell ⟨mb, 1, none⟩ (.pointer (some ⟨wr.heap.size, 0, none⟩)))).alloc (Obj.cells #[Value.pointer none, Value.pointer (some ⟨mb, 2, none⟩)] 59)
      have hne : wr.heap.size ≠ mb := by omega
      have hne0 : t0 ≠ wr.heap.size := by omega
      have hm2 := hoa.heap (heap_setCell HM.out 1 (.pointer (some ⟨wr.heap.size, 0, none⟩))) (by simp)
      have hn2 : ((wr.setCell ⟨mb, 1, none⟩ (.pointer (some ⟨wr.heap.size, 0, none⟩))).alloc (Obj.cells #[Value.pointer none, Value.pointer (some ⟨mb, 2, none⟩)] 59)).heap[wr.heap.size]? = some (Obj.cells #[Value.pointer none, Value.pointer (some ⟨mb, 2, none⟩)] 59) := heap_new' _ _ (by simp)
      have ht2 := hoa.heap (hos.heap HT.out (by simp [htm])) (by simp)
      have hgg : w.grownBy ((wr.setCell ⟨mb, 1, none⟩ (.pointer (some ⟨wr.heap.size, 0, none⟩))).alloc (Obj.cells #[Value.pointer none, Value.pointer (some ⟨mb, 2, none⟩)] 59)) none := grownBy_alloc (grownBy_setCell HG.out mb 1 _ (.inr (by omega))) _
      have hle2 : w.heap.size ≤ wr.heap.size := HG.out.size
      have HN2 := Lib.hid hn2
      have HT2 := Lib.hid ht2
      have HM2 := Lib.hid hm2
      have HGG := Lib.hid hgg
      clear ho hm1 m0 f0 hn2 hm2 hgg ht1 ht2 hos hoa
      go_wp2_with fail
      go_roundw
      case rel => exact ⟨2, by omega, by first | rfl | go_num, grownBy_drew HGG.out, by omega, .inr (.inr ⟨rfl, t0, wr.heap.size, ht0, by omega, htm, hne, hne0, HM2.out, HT2.out, HN2.out⟩)⟩
      case measure => simp [RowKit.intOf]
    · have hmk : MkAt wr mb t0 t1 .nil .nil 0 := ⟨hm, hT0, hT1, trivial, trivial, Good.nil, Good.nil, ⟨fun e => htm0 e.symm, fun e => htm1 e.symm, ht01, by simp [blks], by simp [blks], by simp [blks], by simp [blks], by simp [blks], by simp [blks], by simp [blks], by simp [blks], fun x hx => by simp [blks] at hx⟩⟩
      have HMK := Lib.hid hmk
      have HG := Lib.hid hg
      clear hmk hg hm hT0 hT1
      go_wp2_with fail
      go_ret
      refine ⟨mb, _, rfl, ⟨t0, t1, .nil, .nil, 0, HMK.out, rfl, rfl, rfl⟩, fun x hx => ?_, HG.out⟩
      simp [mkB, blks] at hx
      omega
end Go.Proofs.Ytijpienjejfmiaa
