/-
  shift's of, unless, Clip: the walks. No conditions beyond those that each law names.
-/
import Derived.Test.YtijpienjejfmiaaMkC1
import Derived.Test.YtijpienjejfmiaaMkF
namespace Go.Proofs.Ytijpienjejfmiaa
open Go Go.RowKit

section
variable {P : Program} {ops : Array Oper} {Q : Exit → Act → World → Prop} {md : Region.Mode} {S : World → Prop} {n : Nat}

/-- As wpPre_first, where the first store waits for k, and k for i. -/
theorem wpPre_via {i k : Nat} {oi ok on : Oper} {v : Value} (hi : ops[i]? = some oi) (hsel : ∀ (j : Nat) (o : Oper) cs b, ops[j]? = some o → o.op ≠ .select cs b)
    (hok : ops[k]? = some ok) (hki : ∃ e ∈ ok.after, Region.binds md e = true ∧ e.on = i)
    (hon : ops[n]? = some on) (hin : ∃ e ∈ on.after, Region.binds md e = true ∧ e.on = k) (hin2 : i ≠ n)
    (hQ : ∀ c a w, Q (.panic c) (a.put oi.dst v) w → Q (.panic c) a w) : ∀ (f : Nat) (l : Array Bool) (a : Act) (w : World), l.getD k true = false →
      (∀ j oj, ops[j]? = some oj → j ≠ i → l.getD j true = false → (∀ e ∈ oj.after, Region.binds md e = true → e.on ≠ i) → oi.apart ops oj = true) →
      i ∈ Region.ready md ops l → YieldsIf P ops S oi v a → S w → wpPre P md ops Q S n f (l.setIfInBounds i true) (a.put oi.dst v) w → wpPre P md ops Q S n (f + 1) l a w := by
  intro f
  induction f with
  | zero =>
    intro l a w _ _ hr hy hS H
    refine ⟨fun h => (by rw [h] at hr; cases hr), fun j hj => ?_⟩
    by_cases hji : j = i
    · subst hji
      exact hy.wpOp hi hS ⟨fun e => absurd e hin2, fun _ => ⟨hS, H⟩⟩
    · have h0 := ready_mono hj hji
      rw [H.1] at h0
      cases h0
  | succ f ih =>
    intro l a w hlk hfree hr hy hS H
    refine ⟨fun h => (by rw [h] at hr; cases hr), fun j hj => ?_⟩
    by_cases hji : j = i
    · subst hji
      exact hy.wpOp hi hS ⟨fun e => absurd e hin2, fun _ => ⟨hS, H⟩⟩
    · obtain ⟨hjun, oj, hoj, hall⟩ := mem_ready.1 hj
      have hdone : ∀ m, (∃ e ∈ oj.after, Region.binds md e = true ∧ e.on = m) → l.getD m true = false → m < l.size → False := by
        rintro m ⟨e, he, hb, rfl⟩ h0 hm
        have h1 := hall e he hb
        simp [hm] at h0 h1
        rw [h0] at h1; cases h1
      have hks : k < l.size := by
        rcases Nat.lt_or_ge k l.size with h | h
        · exact h
        · simp [h] at hlk
      have his : i < l.size := by
        rcases Nat.lt_or_ge i l.size with h | h
        · exact h
        · have := (mem_ready.1 hr).1; simp [h] at this
      have hnot : ∀ e ∈ oj.after, Region.binds md e = true → e.on ≠ i := fun e he hb heq => hdone i ⟨e, he, hb, heq⟩ (mem_ready.1 hr).1 his
      have hjn : j ≠ n := by
        rintro rfl
        rw [hoj] at hon
        cases hon
        exact hdone k hin hlk hks
      have hjk : j ≠ k := by
        rintro rfl
        rw [hoj] at hok
        cases hok
        exact hdone i hki (mem_ready.1 hr).1 his
      have h2 := wpOp_putIf hoj (hfree j oj hoj hji hjun hnot) (fun cs b => hsel i oi cs b hi) (fun cs b => hsel j oj cs b hoj) hQ hy (H.2 j (ready_mono hj hji))
      have hfree' : ∀ k ok, ops[k]? = some ok → k ≠ i → (l.setIfInBounds j true).getD k true = false → (∀ e ∈ ok.after, Region.binds md e = true → e.on ≠ i) → oi.apart ops ok = true := by
        intro k ok hk hki hun hno
        refine hfree k ok hk hki ?_ hno
        by_cases hjk : j = k
        · subst hjk; exact hjun
        · rw [getD_set_ne true hjk] at hun; exact hun
      refine wpOp_mono (fun a' w' h3 => ⟨fun e => absurd e hjn, fun _ => ⟨(h3.2.2 hjn).1, ih (l.setIfInBounds j true) a' w' (by rw [getD_set_ne true hjk]; exact hlk) hfree' (ready_mono hr (Ne.symm hji)) h3.1 (h3.2.2 hjn).1 ?_⟩⟩) h2
      rw [Array.setIfInBounds_comm _ _ hji]
      exact (h3.2.2 hjn).2
end

/-- A load that k waits for, and the first store for k. -/
theorem pre_via {P : Program} {ol : List Oper} {Q : Exit → Act → World → Prop} {S : World → Prop} {n : Nat} (i k : Nat) {oi : Oper} {v : Value} {f : Nat} {l : Array Bool} {a : Act} {w : World} (hi : ol[i]? = some oi) (hs : Region.noSelect ol.toArray = true)
    (hf : Region.free .any ol.toArray l i = true) (hr : (Region.ready .any ol.toArray l).contains i = true) (hk : ((ol[k]?.map fun o => o.after.any fun e => Region.binds .any e && e.on == i) == some true) = true)
    (hn : ((ol[n]?.map fun o => o.after.any fun e => Region.binds .any e && e.on == k) == some true && decide (i ≠ n)) = true) (hlk : (!(l.getD k true)) = true)
    (hQ : ∀ c a w, Q (.panic c) (a.put oi.dst v) w → Q (.panic c) a w) (hw : Region.wanted oi (yielded ol.toArray a.tmps) = true) (hy : ∀ u, S u → (execOp a.eval oi).run P u = .ok (.value v) u) (hS : S w)
    (h : PW P ol Q S n f (l.setIfInBounds i true) (a.put oi.dst v) w) : PW P ol Q S n (f + 1) l a w := by
  rw [Bool.and_eq_true, beq_iff_eq, decide_eq_true_eq] at hn
  rw [beq_iff_eq] at hk
  obtain ⟨on, hon, hb⟩ := Option.map_eq_some_iff.1 hn.1
  obtain ⟨e, he, h2⟩ := Array.any_eq_true'.1 hb
  obtain ⟨ok, hok, hb'⟩ := Option.map_eq_some_iff.1 hk
  obtain ⟨e', he', h2'⟩ := Array.any_eq_true'.1 hb'
  simp only [Bool.and_eq_true, beq_iff_eq] at h2 h2'
  exact ⟨wpPre_via (by rw [List.getElem?_toArray]; exact hi) (Region.noSelect_spec hs) (by rw [List.getElem?_toArray]; exact hok) ⟨e', he', h2'.1, h2'.2⟩ (by rw [List.getElem?_toArray]; exact hon) ⟨e, he, h2.1, h2.2⟩ hn.2 hQ f l a w (by simpa using hlk) (Region.free_spec (by rw [List.getElem?_toArray]; exact hi) hf) (by simpa using hr) (.inl ⟨hw, hy⟩) hS h.out⟩

set_option maxHeartbeats 1000000 in
theorem sof_walk (a d i : Int) (w : World) : Calls Try.prog 52 #[.int .i64 a, .int .i64 d, .int .i64 i] w fun e w' => e = .returned (chgV (cutI a) (cutI d) (cutI i)) ∧ w.grownBy w' none := by
  go_enter Try.func52, Try.ntmps52
  go_upto_region 1 with (fail)
  have hA := heap_new w (Obj.cells #[.int .i64 0, .int .i64 0, .int .i64 0] 78)
  have HG := Lib.hid (grownBy_alloc (grownBy_refl w none) (Obj.cells #[.int .i64 0, .int .i64 0, .int .i64 0] 78))
  generalize hw1' : w.alloc (Obj.cells #[.int .i64 0, .int .i64 0, .int .i64 0] 78) = w1 at *
  have a0 := cell_of_heap hA 0
  have a1 := cell_of_heap hA 1
  have a2 := cell_of_heap hA 2
  have f0 := frozen_of_heap hA 0
  have f1 := frozen_of_heap hA 1
  have f2 := frozen_of_heap hA 2
  have hlt := heap_lt hA
  have hB := heap_setCell (heap_setCell (heap_setCell hA 0 (.int .i64 (cutI a))) 1 (.int .i64 (cutI d))) 2 (.int .i64 (cutI i))
  have b0 := cell_of_heap hB 0
  have b1 := cell_of_heap hB 1
  have b2 := cell_of_heap hB 2
  have HF := Lib.hid (grownBy_setCell (grownBy_setCell (grownBy_setCell HG.out w.heap.size 0 (.int .i64 (cutI a)) (.inr (Nat.le_refl _))) w.heap.size 1 (.int .i64 (cutI d)) (.inr (Nat.le_refl _))) w.heap.size 2 (.int .i64 (cutI i)) (.inr (Nat.le_refl _)))
  clear hA hB hw1'
  go_wp2_with fail
  refine (scut_walk a w1).mono ?_
  rintro e u1 ⟨rfl, eu⟩
  have eu := eu.symm
  subst eu
  go_wp2_with fail
  refine (scut_walk d _).mono ?_
  rintro e u1 ⟨rfl, eu⟩
  have eu := eu.symm
  subst eu
  go_wp2_with fail
  refine (scut_walk i _).mono ?_
  rintro e u1 ⟨rfl, eu⟩
  have eu := eu.symm
  subst eu
  go_wp2_with fail
  (try simp only [Exit.inBlock, Exit.then])
  refine bodyPost_ret (v := chgV (cutI a) (cutI d) (cutI i)) ?_ rfl ⟨rfl, HF.out⟩
  simp [results, Try.results52, go_sem, b0, b1, b2]

/-- What is left of a span behind a change. -/
def clipI (a d i : Int) (s : Sp) : Sp × Bool := if placeI a d i s.b ≤ placeI a d i s.a then (⟨0, 0, 0⟩, false) else (⟨placeI a d i s.a, placeI a d i s.b, s.k⟩, true)

theorem unless_new (a d i : Int) (s : Sp) (w : World) : CSAt w.heap.size (w.heap.size + 1) a d i s (((w.alloc (Obj.cells #[.int .i64 a, .int .i64 d, .int .i64 i] 78)).alloc (Obj.cells #[Value.int IntKind.i64 s.a, Value.int IntKind.i64 s.b, Value.int IntKind.i64 s.k] 25)).alloc (Obj.cells #[.int .i64 0, .int .i64 0, .int .i64 0] 25)) ∧ BoxAt (w.heap.size + 1 + 1) ⟨0, 0, 0⟩ (((w.alloc (Obj.cells #[.int .i64 a, .int .i64 d, .int .i64 i] 78)).alloc (Obj.cells #[Value.int IntKind.i64 s.a, Value.int IntKind.i64 s.b, Value.int IntKind.i64 s.k] 25)).alloc (Obj.cells #[.int .i64 0, .int .i64 0, .int .i64 0] 25)) ∧ w.grownBy (((w.alloc (Obj.cells #[.int .i64 a, .int .i64 d, .int .i64 i] 78)).alloc (Obj.cells #[Value.int IntKind.i64 s.a, Value.int IntKind.i64 s.b, Value.int IntKind.i64 s.k] 25)).alloc (Obj.cells #[.int .i64 0, .int .i64 0, .int .i64 0] 25)) none := by
  refine ⟨⟨?_, ?_⟩, heap_new' _ _ (by simp), grownBy_alloc (grownBy_alloc (grownBy_alloc (grownBy_refl w none) _) _) _⟩
  · rw [Below.heap_alloc _ _ _ (by simp <;> omega), Below.heap_alloc _ _ _ (by simp)]
    exact heap_new _ _
  · rw [Below.heap_alloc _ _ _ (by simp)]
    exact heap_new' _ _ (by simp)

set_option maxRecDepth 100000 in
set_option maxHeartbeats 1000000 in
theorem unless_walk (a d i : Int) (s : Sp) (ha : 0 ≤ a ∧ a ≤ 1099511627776) (hd : 0 ≤ d ∧ d ≤ 1099511627776) (hi : 0 ≤ i ∧ i ≤ 1099511627776) (w : World) :
    Calls Try.prog 53 #[chgV a d i, spanV s, .func (.func 54) #[] #[]] w fun e w' => e = .returned (.tuple #[spanV (clipI a d i s).1, .bool (clipI a d i s).2]) ∧ w.grownBy w' none := by
  have he := fun w => empty_walk a d i s ha hd hi w
  have hp := fun p w => place_walk a d i p ha hd hi w
  obtain ⟨P, hP⟩ : ∃ P, placeI a d i = P := ⟨_, rfl⟩
  unfold clipI
  simp only [hP] at he hp ⊢
  clear hP ha hd hi
  go_enter Try.func53, Try.ntmps53
  go_upto_region 1 with (fail)
  obtain ⟨hcs, hbx, hg⟩ := unless_new a d i s w
  generalize hw3 : (((w.alloc (Obj.cells #[.int .i64 a, .int .i64 d, .int .i64 i] 78)).alloc (Obj.cells #[Value.int IntKind.i64 s.a, Value.int IntKind.i64 s.b, Value.int IntKind.i64 s.k] 25)).alloc (Obj.cells #[.int .i64 0, .int .i64 0, .int .i64 0] 25)) = w3 at *
  clear hw3
  generalize hsz : w.heap.size = sz at *
  have a0 := cell_of_heap hcs.1 0
  have a1 := cell_of_heap hcs.1 1
  have a2 := cell_of_heap hcs.1 2
  have b0 := cell_of_heap hcs.2 0
  have b1 := cell_of_heap hcs.2 1
  have b2 := cell_of_heap hcs.2 2
  have HCS := Lib.hid hcs
  have HBX := Lib.hid hbx
  have HG := Lib.hid hg
  clear hcs hbx hg
  go_wp2_with fail
  refine (he w3).mono ?_
  rintro e w4 ⟨rfl, hg4⟩
  have hcs4 := HCS.out.kept hg4
  have hbx4 : BoxAt (sz + 1 + 1) ⟨0, 0, 0⟩ w4 := grownBy_heap hg4 HBX.out nofun
  have hG4 := grownBy_trans HG.out hg4 nofun
  have HCS4 := Lib.hid hcs4
  have HBX4 := Lib.hid hbx4
  have HG4 := Lib.hid hG4
  clear hg4 hcs4 hbx4 hG4 a0 a1 a2 b0 b1 b2
  by_cases hle : P s.b ≤ P s.a
  · have z0 := cell_of_heap HBX4.out 0
    have z1 := cell_of_heap HBX4.out 1
    have z2 := cell_of_heap HBX4.out 2
    have f0 := frozen_of_heap HBX4.out 0
    have f1 := frozen_of_heap HBX4.out 1
    have f2 := frozen_of_heap HBX4.out 2
    obtain ⟨hb5, hO5⟩ := box_store (x := ⟨0, 0, 0⟩) (y := ⟨0, 0, 0⟩) (w := w4) HBX4.out
    have y0 := cell_of_heap hb5 0
    have y1 := cell_of_heap hb5 1
    have y2 := cell_of_heap hb5 2
    have HF := Lib.hid (grownBy_setCell (grownBy_setCell (grownBy_setCell HG4.out (sz + 1 + 1) 0 (.int .i64 0) (.inr (by omega))) (sz + 1 + 1) 1 (.int .i64 0) (.inr (by omega))) (sz + 1 + 1) 2 (.int .i64 0) (.inr (by omega)))
    clear hb5 hO5
    go_wp2_with fail
    (try simp only [Exit.inBlock, Exit.then])
    refine bodyPost_ret (v := .tuple #[spanV ⟨0, 0, 0⟩, .bool false]) ?_ rfl ⟨by first | rfl | simp [hle], HF.out⟩
    rw [results_cell_tmp rfl]
    go_simp
  · go_upto_region 3 with (fail)
    refine region_pre 9 (fun u => CSAt sz (sz + 1) a d i s u) (by kernel_rfl) HCS4.out (fun hHeld => ?_)
    refine pre_free 1 (v := ?_) rfl (by kernel_rfl) (by kernel_rfl) (by kernel_rfl) (by kernel_rfl) (fun _ _ _ h => h) (by rfl) (fun u => ?_) (by assumption) ?_
    rotate_left
    focus (go_simp; (try with_reducible rfl); done)
    try simp only [Act.put, List.setIfInBounds_toArray, List.set_cons_zero, List.set_cons_succ]
    refine pre_free 5 (v := ?_) rfl (by kernel_rfl) (by kernel_rfl) (by kernel_rfl) (by kernel_rfl) (fun _ _ _ h => h) (by rfl) (fun u => ?_) (by assumption) ?_
    rotate_left
    focus (go_simp; (try with_reducible rfl); done)
    try simp only [Act.put, List.setIfInBounds_toArray, List.set_cons_zero, List.set_cons_succ]
    refine pre_load 0 (v := ?_) rfl (by kernel_rfl) (by kernel_rfl) (by kernel_rfl) (by kernel_rfl) (fun _ _ _ h => h) (by rfl) (fun u hu => ?_) (by assumption) ?_
    rotate_left
    focus ((try dsimp only at hu); (have a0 := cell_of_heap hu.1 0; have a1 := cell_of_heap hu.1 1; have a2 := cell_of_heap hu.1 2; have b0 := cell_of_heap hu.2 0; have b1 := cell_of_heap hu.2 1; have b2 := cell_of_heap hu.2 2); go_simp; (try with_reducible rfl); done)
    try simp only [Act.put, List.setIfInBounds_toArray, List.set_cons_zero, List.set_cons_succ]
    refine pre_load 2 (v := ?_) rfl (by kernel_rfl) (by kernel_rfl) (by kernel_rfl) (by kernel_rfl) (fun _ _ _ h => h) (by rfl) (fun u hu => ?_) (by assumption) ?_
    rotate_left
    focus ((try dsimp only at hu); (have a0 := cell_of_heap hu.1 0; have a1 := cell_of_heap hu.1 1; have a2 := cell_of_heap hu.1 2; have b0 := cell_of_heap hu.2 0; have b1 := cell_of_heap hu.2 1; have b2 := cell_of_heap hu.2 2); go_simp; (try with_reducible rfl); done)
    try simp only [Act.put, List.setIfInBounds_toArray, List.set_cons_zero, List.set_cons_succ]
    refine pre_via 4 7 (v := ?_) rfl (by kernel_rfl) (by kernel_rfl) (by kernel_rfl) (by kernel_rfl) (by kernel_rfl) (by kernel_rfl) (fun _ _ _ h => h) (by rfl) (fun u hu => ?_) (by assumption) ?_
    rotate_left
    focus ((try dsimp only at hu); (have a0 := cell_of_heap hu.1 0; have a1 := cell_of_heap hu.1 1; have a2 := cell_of_heap hu.1 2; have b0 := cell_of_heap hu.2 0; have b1 := cell_of_heap hu.2 1; have b2 := cell_of_heap hu.2 2); go_simp; (try with_reducible rfl); done)
    try simp only [Act.put, List.setIfInBounds_toArray, List.set_cons_zero, List.set_cons_succ]
    refine pre_load 6 (v := ?_) rfl (by kernel_rfl) (by kernel_rfl) (by kernel_rfl) (by kernel_rfl) (fun _ _ _ h => h) (by rfl) (fun u hu => ?_) (by assumption) ?_
    rotate_left
    focus ((try dsimp only at hu); (have a0 := cell_of_heap hu.1 0; have a1 := cell_of_heap hu.1 1; have a2 := cell_of_heap hu.1 2; have b0 := cell_of_heap hu.2 0; have b1 := cell_of_heap hu.2 1; have b2 := cell_of_heap hu.2 2); go_simp; (try with_reducible rfl); done)
    try simp only [Act.put, List.setIfInBounds_toArray, List.set_cons_zero, List.set_cons_succ]
    refine pre_one 3 (by kernel_rfl) (by kernel_rfl) rfl (fun K hK => ?_)
    go_simp
    go_at_call 66
    refine (hp s.a w4.drew).mono ?_
    rintro e w5 ⟨rfl, hg5⟩
    have hg5' := grownBy_trans (grownBy_drew (grownBy_refl w4 none)) hg5 nofun
    have HCS5 := Lib.hid (HCS4.out.kept hg5')
    have hbx5 : BoxAt (sz + 1 + 1) ⟨0, 0, 0⟩ w5 := grownBy_heap hg5' HBX4.out nofun
    have HBX5 := Lib.hid hbx5
    have HG5 := Lib.hid (grownBy_trans HG4.out hg5' nofun)
    clear hg5 hg5' hbx5
    try go_simp
    refine hK.out _ _ HCS5.out (fun hHeld3 => ?_)
    clear hK K
    try simp only [Act.put, List.setIfInBounds_toArray, List.set_cons_zero, List.set_cons_succ]
    refine pre_free 8 (v := ?_) rfl (by kernel_rfl) (by kernel_rfl) (by kernel_rfl) (by kernel_rfl) (fun _ _ _ h => h) (by rfl) (fun u => ?_) (by assumption) ?_
    rotate_left
    focus (go_simp; (try with_reducible rfl); done)
    try simp only [Act.put, List.setIfInBounds_toArray, List.set_cons_zero, List.set_cons_succ]
    refine pre_one 7 (by kernel_rfl) (by kernel_rfl) rfl (fun K hK => ?_)
    go_simp
    go_at_call 66
    refine (hp s.b w5).mono ?_
    rintro e w6 ⟨rfl, hg6⟩
    have hcs6 := HCS5.out.kept hg6
    have hbx6 : BoxAt (sz + 1 + 1) ⟨0, 0, 0⟩ w6 := grownBy_heap hg6 HBX5.out nofun
    have hG6 := grownBy_trans HG5.out hg6 nofun
    have b0 := cell_of_heap hcs6.2 0
    have b1 := cell_of_heap hcs6.2 1
    have f0 := frozen_of_heap hcs6.2 0
    have f1 := frozen_of_heap hcs6.2 1
    have hs7 := heap_setCell (heap_setCell hcs6.2 0 (.int .i64 (P s.a))) 1 (.int .i64 (P s.b))
    have b1' := cell_of_heap (heap_setCell hcs6.2 0 (.int .i64 (P s.a))) 1
    have f1' := frozen_of_heap (heap_setCell hcs6.2 0 (.int .i64 (P s.a))) 1
    have ho7 := ((Only.refl [sz + 1] w6).setCell (p := ⟨sz + 1, 0, none⟩) (.inl (by simp)) (.int .i64 (P s.a))).setCell (p := ⟨sz + 1, 1, none⟩) (.inl (by simp)) (.int .i64 (P s.b))
    have hbx7 : BoxAt (sz + 1 + 1) ⟨0, 0, 0⟩ _ := ho7.heap hbx6 (by simp)
    have hG7 := grownBy_setCell (grownBy_setCell hG6 (sz + 1) 0 (.int .i64 (P s.a)) (.inr (by omega))) (sz + 1) 1 (.int .i64 (P s.b)) (.inr (by omega))
    have HCS6 := Lib.hid hcs6
    have HS7 := Lib.hid hs7
    have HBX7 := Lib.hid hbx7
    have HG7 := Lib.hid hG7
    clear hg6 hcs6 hbx6 hG6 hs7 ho7 hbx7 hG7
    try go_simp
    refine hK.out _ _ HCS6.out (fun hHeld7 => ?_)
    clear hK K
    try simp only [Act.put, List.setIfInBounds_toArray, List.set_cons_zero, List.set_cons_succ]
    refine pre_last (by kernel_rfl) rfl (fun K hK => ?_)
    go_simp
    refine hK.out _ _ ?_
    clear hK K
    try simp only [Act.put, List.setIfInBounds_toArray, List.set_cons_zero, List.set_cons_succ]
    refine aw_free 10 (v := ?_) rfl (by kernel_rfl) (by kernel_rfl) (by kernel_rfl) (fun _ _ _ h => h) (by rfl) (fun u => ?_) ?_
    rotate_left
    focus (go_simp; (try with_reducible rfl); done)
    try simp only [Act.put, List.setIfInBounds_toArray, List.set_cons_zero, List.set_cons_succ]
    refine aw_one 11 (by kernel_rfl) rfl (fun K hK => ?_)
    go_simp
    refine hK.out _ _ ?_
    clear hK K
    try simp only [Act.put, List.setIfInBounds_toArray, List.set_cons_zero, List.set_cons_succ]
    refine aw_done (by kernel_rfl) ?_
    have y0 := cell_of_heap HS7.out 0
    have y1 := cell_of_heap HS7.out 1
    have y2 := cell_of_heap HS7.out 2
    have z0 := cell_of_heap HBX7.out 0
    have z1 := cell_of_heap HBX7.out 1
    have z2 := cell_of_heap HBX7.out 2
    have g0 := frozen_of_heap HBX7.out 0
    have g1 := frozen_of_heap HBX7.out 1
    have g2 := frozen_of_heap HBX7.out 2
    clear b0 b1 f0 f1 b1' f1'
    generalize hw7 : (w6.setCell ⟨sz + 1, 0, none⟩ (.int .i64 (P s.a))).setCell ⟨sz + 1, 1, none⟩ (.int .i64 (P s.b)) = w7 at *
    clear hw7
    obtain ⟨hb8, hO8⟩ := box_store (x := ⟨0, 0, 0⟩) (y := ⟨P s.a, P s.b, s.k⟩) (w := w7) HBX7.out
    have x0 := cell_of_heap hb8 0
    have x1 := cell_of_heap hb8 1
    have x2 := cell_of_heap hb8 2
    have HF := Lib.hid (grownBy_setCell (grownBy_setCell (grownBy_setCell HG7.out (sz + 1 + 1) 0 (.int .i64 (P s.a)) (.inr (by omega))) (sz + 1 + 1) 1 (.int .i64 (P s.b)) (.inr (by omega))) (sz + 1 + 1) 2 (.int .i64 s.k) (.inr (by omega)))
    clear hb8 hO8
    go_wp2_with fail
    (try simp only [Exit.inBlock, Exit.then])
    refine bodyPost_ret (v := .tuple #[spanV ⟨P s.a, P s.b, s.k⟩, .bool true]) ?_ rfl ⟨by first | rfl | simp [hle], HF.out⟩
    rw [results_cell_tmp rfl]
    go_simp

theorem clip_new (s : Sp) (w : World) : BoxAt w.heap.size s ((w.alloc (Obj.cells #[Value.int IntKind.i64 s.a, Value.int IntKind.i64 s.b, Value.int IntKind.i64 s.k] 25)).alloc (Obj.cells #[.int .i64 0, .int .i64 0, .int .i64 0] 25)) ∧ BoxAt (w.heap.size + 1) ⟨0, 0, 0⟩ ((w.alloc (Obj.cells #[Value.int IntKind.i64 s.a, Value.int IntKind.i64 s.b, Value.int IntKind.i64 s.k] 25)).alloc (Obj.cells #[.int .i64 0, .int .i64 0, .int .i64 0] 25)) ∧ w.grownBy ((w.alloc (Obj.cells #[Value.int IntKind.i64 s.a, Value.int IntKind.i64 s.b, Value.int IntKind.i64 s.k] 25)).alloc (Obj.cells #[.int .i64 0, .int .i64 0, .int .i64 0] 25)) none := by
  refine ⟨?_, heap_new' _ _ (by simp), grownBy_alloc (grownBy_alloc (grownBy_refl w none) _) _⟩
  show ((w.alloc (Obj.cells #[Value.int IntKind.i64 s.a, Value.int IntKind.i64 s.b, Value.int IntKind.i64 s.k] 25)).alloc (Obj.cells #[.int .i64 0, .int .i64 0, .int .i64 0] 25)).heap[w.heap.size]? = _
  rw [Below.heap_alloc _ _ _ (by simp)]
  exact heap_new _ _

set_option maxRecDepth 100000 in
set_option maxHeartbeats 1000000 in
theorem clip_walk (a d i : Int) (s : Sp) (w : World) :
    Calls Try.prog 39 #[spanV s, .int .i64 a, .int .i64 d, .int .i64 i] w fun e w' => e = .returned (.tuple #[spanV (clipI (cutI a) (cutI d) (cutI i) s).1, .bool (clipI (cutI a) (cutI d) (cutI i) s).2]) ∧ w.grownBy w' none := by
  have hu := fun w => unless_walk (cutI a) (cutI d) (cutI i) s (cutI_le a) (cutI_le d) (cutI_le i) w
  have ho := fun w => sof_walk a d i w
  generalize (clipI (cutI a) (cutI d) (cutI i) s).2 = ok at *
  generalize (clipI (cutI a) (cutI d) (cutI i) s).1 = c at *
  generalize cutI a = ca at *
  generalize cutI d = cd at *
  generalize cutI i = ci at *
  go_enter Try.func39, Try.ntmps39
  go_upto_region 1 with (fail)
  obtain ⟨hs, hbx, hg⟩ := clip_new s w
  generalize hw3 : ((w.alloc (Obj.cells #[Value.int IntKind.i64 s.a, Value.int IntKind.i64 s.b, Value.int IntKind.i64 s.k] 25)).alloc (Obj.cells #[.int .i64 0, .int .i64 0, .int .i64 0] 25)) = w3 at *
  clear hw3
  generalize hsz : w.heap.size = sz at *
  have HBX := Lib.hid hbx
  have HG := Lib.hid hg
  clear hbx hg
  refine region_hw (fun u => BoxAt sz s u) (by kernel_rfl) hs (fun hHeld => ?_)
  refine hw_take 0 (v := ?_) rfl (by kernel_rfl) (by kernel_rfl) (by kernel_rfl) (fun _ _ _ h => h) (by rfl) (fun u hu => ?_) (by assumption) ?_
  rotate_left
  focus ((try dsimp only at hu); (have a0 := cell_of_heap hu 0; have a1 := cell_of_heap hu 1; have a2 := cell_of_heap hu 2); go_simp; (try with_reducible rfl); done)
  try simp only [Act.put, List.setIfInBounds_toArray, List.set_cons_zero, List.set_cons_succ]
  refine hw_take 1 (v := ?_) rfl (by kernel_rfl) (by kernel_rfl) (by kernel_rfl) (fun _ _ _ h => h) (by rfl) (fun u hu => ?_) (by assumption) ?_
  rotate_left
  focus ((try dsimp only at hu); (have a0 := cell_of_heap hu 0; have a1 := cell_of_heap hu 1; have a2 := cell_of_heap hu 2); go_simp; (try with_reducible rfl); done)
  try simp only [Act.put, List.setIfInBounds_toArray, List.set_cons_zero, List.set_cons_succ]
  refine hw_take 2 (v := ?_) rfl (by kernel_rfl) (by kernel_rfl) (by kernel_rfl) (fun _ _ _ h => h) (by rfl) (fun u hu => ?_) (by assumption) ?_
  rotate_left
  focus ((try dsimp only at hu); (have a0 := cell_of_heap hu 0; have a1 := cell_of_heap hu 1; have a2 := cell_of_heap hu 2); go_simp; (try with_reducible rfl); done)
  try simp only [Act.put, List.setIfInBounds_toArray, List.set_cons_zero, List.set_cons_succ]
  refine hw_take 4 (v := ?_) rfl (by kernel_rfl) (by kernel_rfl) (by kernel_rfl) (fun _ _ _ h => h) (by rfl) (fun u hu => ?_) (by assumption) ?_
  rotate_left
  focus ((try dsimp only at hu); (have a0 := cell_of_heap hu 0; have a1 := cell_of_heap hu 1; have a2 := cell_of_heap hu 2); go_simp; (try with_reducible rfl); done)
  try simp only [Act.put, List.setIfInBounds_toArray, List.set_cons_zero, List.set_cons_succ]
  refine hw_one 3 (by kernel_rfl) rfl (fun K hK => ?_)
  go_simp
  go_at_call 52
  refine (ho w3.drew).mono ?_
  rintro e w4 ⟨rfl, hg4⟩
  have hg4' := grownBy_trans (grownBy_drew (grownBy_refl w3 none)) hg4 nofun
  have hs4 : BoxAt sz s w4 := grownBy_heap hg4' hs nofun
  have hb4 : BoxAt (sz + 1) ⟨0, 0, 0⟩ w4 := grownBy_heap hg4' HBX.out nofun
  have HB4 := Lib.hid hb4
  have HG4 := Lib.hid (grownBy_trans HG.out hg4' nofun)
  clear hg4 hg4' hb4
  try go_simp
  refine hK.out _ _ hs4 (fun hHeld3 => ?_)
  clear hK K
  try simp only [Act.put, List.setIfInBounds_toArray, List.set_cons_zero, List.set_cons_succ]
  refine hw_one 5 (by kernel_rfl) rfl (fun K hK => ?_)
  go_simp
  go_at_call 53
  refine (hu w4).mono ?_
  rintro e w5 ⟨rfl, hg5⟩
  have hs5 : BoxAt sz s w5 := grownBy_heap hg5 hs4 nofun
  have hb5 : BoxAt (sz + 1) ⟨0, 0, 0⟩ w5 := grownBy_heap hg5 HB4.out nofun
  have z0 := cell_of_heap hb5 0
  have z1 := cell_of_heap hb5 1
  have z2 := cell_of_heap hb5 2
  have g0 := frozen_of_heap hb5 0
  have g1 := frozen_of_heap hb5 1
  have g2 := frozen_of_heap hb5 2
  obtain ⟨hb6, hO6⟩ := box_store (x := ⟨0, 0, 0⟩) (y := c) (w := w5) hb5
  have hs6 : BoxAt sz s _ := hO6.heap hs5 (by simp)
  have hG5 := grownBy_trans HG4.out hg5 nofun
  have HF := Lib.hid (grownBy_setCell (grownBy_setCell (grownBy_setCell hG5 (sz + 1) 0 (.int .i64 c.a) (.inr (by omega))) (sz + 1) 1 (.int .i64 c.b) (.inr (by omega))) (sz + 1) 2 (.int .i64 c.k) (.inr (by omega)))
  have HS6 := Lib.hid hs6
  have HB6 := Lib.hid hb6
  clear hg5 hb5 hb6 hO6 hG5 hs6
  try go_simp
  refine hK.out _ _ hs5 (fun hHeld5 => ?_)
  clear hK K
  try simp only [Act.put, List.setIfInBounds_toArray, List.set_cons_zero, List.set_cons_succ]
  refine hw_take 6 (v := ?_) rfl (by kernel_rfl) (by kernel_rfl) (by kernel_rfl) (fun _ _ _ h => h) (by rfl) (fun u hu => ?_) (by assumption) ?_
  rotate_left
  focus ((try dsimp only at hu); (have a0 := cell_of_heap hu 0; have a1 := cell_of_heap hu 1; have a2 := cell_of_heap hu 2); go_simp; (try with_reducible rfl); done)
  try simp only [Act.put, List.setIfInBounds_toArray, List.set_cons_zero, List.set_cons_succ]
  refine hw_take 7 (v := ?_) rfl (by kernel_rfl) (by kernel_rfl) (by kernel_rfl) (fun _ _ _ h => h) (by rfl) (fun u hu => ?_) (by assumption) ?_
  rotate_left
  focus ((try dsimp only at hu); (have a0 := cell_of_heap hu 0; have a1 := cell_of_heap hu 1; have a2 := cell_of_heap hu 2); go_simp; (try with_reducible rfl); done)
  try simp only [Act.put, List.setIfInBounds_toArray, List.set_cons_zero, List.set_cons_succ]
  refine hw_one 8 (by kernel_rfl) rfl (fun K hK => ?_)
  go_simp
  refine hK.out _ _ HS6.out (fun hHeld8 => ?_)
  clear hK K
  try simp only [Act.put, List.setIfInBounds_toArray, List.set_cons_zero, List.set_cons_succ]
  refine hw_take 9 (v := ?_) rfl (by kernel_rfl) (by kernel_rfl) (by kernel_rfl) (fun _ _ _ h => h) (by rfl) (fun u hu => ?_) (by assumption) ?_
  rotate_left
  focus ((try dsimp only at hu); (have a0 := cell_of_heap hu 0; have a1 := cell_of_heap hu 1; have a2 := cell_of_heap hu 2); go_simp; (try with_reducible rfl); done)
  try simp only [Act.put, List.setIfInBounds_toArray, List.set_cons_zero, List.set_cons_succ]
  refine hw_done (by kernel_rfl) ?_
  have y0 := cell_of_heap HB6.out 0
  have y1 := cell_of_heap HB6.out 1
  have y2 := cell_of_heap HB6.out 2
  clear z0 z1 z2 g0 g1 g2
  go_wp2_with fail
  (try simp only [Exit.inBlock, Exit.then])
  refine bodyPost_ret (v := .tuple #[spanV c, .bool ok]) ?_ rfl ⟨rfl, HF.out⟩
  rw [results_cell_tmp rfl]
  go_simp
end Go.Proofs.Ytijpienjejfmiaa
