/-
  Marks' lift: the walks, of the left side, of the right one. Conditions: no number leaves int's range.
-/
import Derived.Test.YtijpienjejfmiaaMkC
namespace Go.Proofs.Ytijpienjejfmiaa
open Go Go.RowKit

theorem nodup_node {b : Nat} {l r : Tr} {s : Sp} {h c m w : Int} (h1 : ∀ x ∈ blks l, x ≠ b) (h2 : ∀ x ∈ blks r, x ≠ b) (h3 : (blks l).Nodup) (h4 : (blks r).Nodup) (h5 : ∀ x ∈ blks l, x ∉ blks r) : (blks (.node b l r s h c m w)).Nodup :=
  List.nodup_cons.2 ⟨fun hm => by rcases List.mem_append.1 hm with hm | hm; exact h1 b hm rfl; exact h2 b hm rfl, List.nodup_append.2 ⟨h3, h4, fun x hx y hy e => h5 x hx (e ▸ hy)⟩⟩

theorem told_node {b : Nat} {l r : Tr} {s : Sp} {h c m w : Int} : ptrV (toldT (.node b l r s h c m w)) = .pointer (some ⟨b, 0, none⟩) := rfl

set_option maxRecDepth 100000 in
set_option maxHeartbeats 4000000 in
theorem liftL_walk {bn bk : Nat} {kl kr r : Tr} {s ks : Sp} {hh c m wt kh kc km kw : Int} (w : World) (h : Lay w (.node bn (.node bk kl kr ks kh kc km kw) r s hh c m wt)) (hn : (blks (.node bn (.node bk kl kr ks kh kc km kw) r s hh c m wt)).Nodup) (hfl : MvFit kw kl) (hfr : MvFit kw kr) (hti : TdFit (moveT kw kr) r) (hto : TdFit (moveT kw kl) (toldT (.node bn (moveT kw kr) r s hh c m wt))) :
    Calls Try.prog 68 #[.pointer (some ⟨bn, 0, none⟩), .int .i64 0] w fun e w' => e = .returned (.pointer (some ⟨bk, 0, none⟩)) ∧ Lay w' (liftL (.node bn (.node bk kl kr ks kh kc km kw) r s hh c m wt)) ∧ Only (bn :: bk :: (rootB kl ++ rootB kr)) w w' := by
  have hw1 : IntKind.i64.wrap 1 = 1 := by decide
  have hw0 : IntKind.i64.wrap 0 = 0 := by decide
  obtain ⟨n1, n2, n3, n4, n5⟩ := node_nodup hn
  have hb := lay_cells h
  have hk : Lay w (.node bk kl kr ks kh kc km kw) := h.2.1
  have hr := h.2.2
  have hkn : (blks (.node bk kl kr ks kh kc km kw)).Nodup := n3
  have nk : ∀ x ∈ blks (.node bk kl kr ks kh kc km kw), x ≠ bn := n1
  have nr : ∀ x ∈ blks r, x ≠ bn := n2
  have nkr : ∀ x ∈ blks (.node bk kl kr ks kh kc km kw), x ∉ blks r := n5
  obtain ⟨k1, k2, k3, k4, k5⟩ := node_nodup hkn
  have nbk : bk ≠ bn := nk bk (by simp [blks])
  have nkl : ∀ x ∈ blks kl, x ≠ bn := fun x hx => nk x (by simp [blks, hx])
  have nkrr : ∀ x ∈ blks kr, x ≠ bn := fun x hx => nk x (by simp [blks, hx])
  have c3 : w.cell? ⟨bn, 3, none⟩ = some (.pointer (some ⟨bk, 0, none⟩)) := cell_of_heap hb 3
  have HB := Lib.hid hb
  have HK := Lib.hid hk
  have HR := Lib.hid hr
  clear hb hk hr h
  go_enter Try.func68, Try.ntmps68
  go_wp2_with fail
  refine (down_walk w HK.out hkn hfl hfr).mono ?_
  rintro e w1 ⟨rfl, hk1, ho1⟩
  have hro : ∀ x, x ∈ bk :: (rootB kl ++ rootB kr) → x ∈ blks (.node bk kl kr ks kh kc km kw) := fun x hx => by
    rcases List.mem_cons.1 hx with rfl | hx
    · simp [blks]
    · rcases List.mem_append.1 hx with hx | hx
      · exact List.mem_cons_of_mem _ (List.mem_append.2 (.inl (root_sub x hx)))
      · exact List.mem_cons_of_mem _ (List.mem_append.2 (.inr (root_sub x hx)))
  have hb1 := ho1.heap HB.out (fun hm => nk bn (hro bn hm) rfl)
  have hr1 := HR.out.only ho1 (fun x hx hm => nkr x (hro x hm) hx)
  have hkb := lay_cells hk1
  rw [ptr_move, ptr_move] at hkb
  have hkl1 := hk1.2.1
  have hkr1 := hk1.2.2
  have hO1 : Only (bn :: bk :: (rootB kl ++ rootB kr)) w w1 := ho1.mono (fun x hx => .inl (List.mem_cons_of_mem _ hx))
  -- n's side, k's side
  have hb2 := heap_setCell hb1 3 (ptrV kr)
  have hkb2 : (w1.setCell ⟨bn, 3, none⟩ (ptrV kr)).heap[bk]? = _ := (Below.heap_setCell w1 ⟨bn, 3, none⟩ (ptrV kr) bk nbk).trans hkb
  have hkb3 := heap_setCell hkb2 4 (.pointer (some ⟨bn, 0, none⟩))
  have hb3 : ((w1.setCell ⟨bn, 3, none⟩ (ptrV kr)).setCell ⟨bk, 4, none⟩ (.pointer (some ⟨bn, 0, none⟩))).heap[bn]? = _ := (Below.heap_setCell (w1.setCell ⟨bn, 3, none⟩ (ptrV kr)) ⟨bk, 4, none⟩ (.pointer (some ⟨bn, 0, none⟩)) bn (Ne.symm nbk)).trans hb2
  have ho3 : Only [bn, bk] w1 ((w1.setCell ⟨bn, 3, none⟩ (ptrV kr)).setCell ⟨bk, 4, none⟩ (.pointer (some ⟨bn, 0, none⟩))) := ((Only.refl [bn, bk] w1).setCell (p := ⟨bn, 3, none⟩) (.inl (by simp)) _).setCell (p := ⟨bk, 4, none⟩) (.inl (by simp)) _
  have hnin : ∀ x, x ≠ bn → x ≠ bk → x ∉ [bn, bk] := fun x h1 h2 hm => by
    rcases List.mem_cons.1 hm with e | hm
    · exact h1 e
    · exact h2 (List.mem_singleton.1 hm)
  have hr3 := hr1.only ho3 (fun x hx => hnin x (nr x hx) (fun e => nkr bk (by simp [blks]) (e ▸ hx)))
  have hkl3 := hkl1.only ho3 (fun x hx => by rw [blks_move] at hx; exact hnin x (nkl x hx) (k1 x hx))
  have hkr3 := hkr1.only ho3 (fun x hx => by rw [blks_move] at hx; exact hnin x (nkrr x hx) (k2 x hx))
  have hO3 := hO1.trans ho3 (fun x hx => .inl (by rcases List.mem_cons.1 hx with rfl | hx; simp; (rw [List.mem_singleton.1 hx]; simp)))
  have d3 := cell_of_heap hb1 3
  have g3 := frozen_of_heap hb1 3
  have q4 := cell_of_heap hkb 4
  have r4 := frozen_of_heap hkb 4
  have q24 := cell_of_heap hkb2 4
  have r24 := frozen_of_heap hkb2 4
  have HB3 := Lib.hid hb3
  have HKB3 := Lib.hid hkb3
  have HR3 := Lib.hid hr3
  have HKL3 := Lib.hid hkl3
  have HKR3 := Lib.hid hkr3
  have HO3 := Lib.hid hO3
  clear c3 hb1 hr1 hkb hkl1 hkr1 hk1 ho1 hO1 hb2 hkb2 hkb3 hb3 ho3 hr3 hkl3 hkr3 hO3
  go_upto_region 4 with (fail)
  refine region_pre 16 (fun u => u = w1.drew) (by kernel_rfl) rfl (fun hHeld => ?_)
  refine pre_free 0 (v := ?_) rfl (by kernel_rfl) (by kernel_rfl) (by kernel_rfl) (by kernel_rfl) (fun _ _ _ h => h) (by rfl) (fun u => ?_) (by assumption) ?_
  rotate_left
  focus (go_simp; (try with_reducible rfl); done)
  try simp only [Act.put, List.setIfInBounds_toArray, List.set_cons_zero, List.set_cons_succ]
  refine pre_free 1 (v := ?_) rfl (by kernel_rfl) (by kernel_rfl) (by kernel_rfl) (by kernel_rfl) (fun _ _ _ h => h) (by rfl) (fun u => ?_) (by assumption) ?_
  rotate_left
  focus (go_simp; (try with_reducible rfl); done)
  try simp only [Act.put, List.setIfInBounds_toArray, List.set_cons_zero, List.set_cons_succ]
  refine pre_free 2 (v := ?_) rfl (by kernel_rfl) (by kernel_rfl) (by kernel_rfl) (by kernel_rfl) (fun _ _ _ h => h) (by rfl) (fun u => ?_) (by assumption) ?_
  rotate_left
  focus (go_simp; (try with_reducible rfl); done)
  try simp only [Act.put, List.setIfInBounds_toArray, List.set_cons_zero, List.set_cons_succ]
  refine pre_free 3 (v := ?_) rfl (by kernel_rfl) (by kernel_rfl) (by kernel_rfl) (by kernel_rfl) (fun _ _ _ h => h) (by rfl) (fun u => ?_) (by assumption) ?_
  rotate_left
  focus (go_simp; (try with_reducible rfl); done)
  try simp only [Act.put, List.setIfInBounds_toArray, List.set_cons_zero, List.set_cons_succ]
  refine pre_free 4 (v := ?_) rfl (by kernel_rfl) (by kernel_rfl) (by kernel_rfl) (by kernel_rfl) (fun _ _ _ h => h) (by rfl) (fun u => ?_) (by assumption) ?_
  rotate_left
  focus (go_simp; (try with_reducible rfl); done)
  try simp only [Act.put, List.setIfInBounds_toArray, List.set_cons_zero, List.set_cons_succ]
  refine pre_free 5 (v := ?_) rfl (by kernel_rfl) (by kernel_rfl) (by kernel_rfl) (by kernel_rfl) (fun _ _ _ h => h) (by rfl) (fun u => ?_) (by assumption) ?_
  rotate_left
  focus (go_simp; (try with_reducible rfl); done)
  try simp only [Act.put, List.setIfInBounds_toArray, List.set_cons_zero, List.set_cons_succ]
  refine pre_free 6 (v := ?_) rfl (by kernel_rfl) (by kernel_rfl) (by kernel_rfl) (by kernel_rfl) (fun _ _ _ h => h) (by rfl) (fun u => ?_) (by assumption) ?_
  rotate_left
  focus (go_simp; (try with_reducible rfl); done)
  try simp only [Act.put, List.setIfInBounds_toArray, List.set_cons_zero, List.set_cons_succ]
  refine pre_free 7 (v := ?_) rfl (by kernel_rfl) (by kernel_rfl) (by kernel_rfl) (by kernel_rfl) (fun _ _ _ h => h) (by rfl) (fun u => ?_) (by assumption) ?_
  rotate_left
  focus (go_simp; (try with_reducible rfl); done)
  try simp only [Act.put, List.setIfInBounds_toArray, List.set_cons_zero, List.set_cons_succ]
  refine pre_free 8 (v := ?_) rfl (by kernel_rfl) (by kernel_rfl) (by kernel_rfl) (by kernel_rfl) (fun _ _ _ h => h) (by rfl) (fun u => ?_) (by assumption) ?_
  rotate_left
  focus (go_simp; (try with_reducible rfl); done)
  try simp only [Act.put, List.setIfInBounds_toArray, List.set_cons_zero, List.set_cons_succ]
  refine pre_free 9 (v := ?_) rfl (by kernel_rfl) (by kernel_rfl) (by kernel_rfl) (by kernel_rfl) (fun _ _ _ h => h) (by rfl) (fun u => ?_) (by assumption) ?_
  rotate_left
  focus (go_simp; (try with_reducible rfl); done)
  try simp only [Act.put, List.setIfInBounds_toArray, List.set_cons_zero, List.set_cons_succ]
  refine pre_free 10 (v := ?_) rfl (by kernel_rfl) (by kernel_rfl) (by kernel_rfl) (by kernel_rfl) (fun _ _ _ h => h) (by rfl) (fun u => ?_) (by assumption) ?_
  rotate_left
  focus (go_simp; (try with_reducible rfl); done)
  try simp only [Act.put, List.setIfInBounds_toArray, List.set_cons_zero, List.set_cons_succ]
  refine pre_load 11 (v := ?_) rfl (by kernel_rfl) (by kernel_rfl) (by kernel_rfl) (by kernel_rfl) (fun _ _ _ h => h) (by rfl) (fun u hu => ?_) (by assumption) ?_
  rotate_left
  focus ((try dsimp only at hu); subst hu; go_simp; (try with_reducible rfl); done)
  try simp only [Act.put, List.setIfInBounds_toArray, List.set_cons_zero, List.set_cons_succ]
  refine pre_free 12 (v := ?_) rfl (by kernel_rfl) (by kernel_rfl) (by kernel_rfl) (by kernel_rfl) (fun _ _ _ h => h) (by rfl) (fun u => ?_) (by assumption) ?_
  rotate_left
  focus (go_simp; (try with_reducible rfl); done)
  try simp only [Act.put, List.setIfInBounds_toArray, List.set_cons_zero, List.set_cons_succ]
  refine pre_free 13 (v := ?_) rfl (by kernel_rfl) (by kernel_rfl) (by kernel_rfl) (by kernel_rfl) (fun _ _ _ h => h) (by rfl) (fun u => ?_) (by assumption) ?_
  rotate_left
  focus (go_simp; (try with_reducible rfl); done)
  try simp only [Act.put, List.setIfInBounds_toArray, List.set_cons_zero, List.set_cons_succ]
  refine pre_free 14 (v := ?_) rfl (by kernel_rfl) (by kernel_rfl) (by kernel_rfl) (by kernel_rfl) (fun _ _ _ h => h) (by rfl) (fun u => ?_) (by assumption) ?_
  rotate_left
  focus (go_simp; (try with_reducible rfl); done)
  try simp only [Act.put, List.setIfInBounds_toArray, List.set_cons_zero, List.set_cons_succ]
  refine pre_free 15 (v := ?_) rfl (by kernel_rfl) (by kernel_rfl) (by kernel_rfl) (by kernel_rfl) (fun _ _ _ h => h) (by rfl) (fun u => ?_) (by assumption) ?_
  rotate_left
  focus (go_simp; (try with_reducible rfl); done)
  try simp only [Act.put, List.setIfInBounds_toArray, List.set_cons_zero, List.set_cons_succ]
  refine pre_free 17 (v := ?_) rfl (by kernel_rfl) (by kernel_rfl) (by kernel_rfl) (by kernel_rfl) (fun _ _ _ h => h) (by rfl) (fun u => ?_) (by assumption) ?_
  rotate_left
  focus (go_simp; (try with_reducible rfl); done)
  try simp only [Act.put, List.setIfInBounds_toArray, List.set_cons_zero, List.set_cons_succ]
  refine pre_free 18 (v := ?_) rfl (by kernel_rfl) (by kernel_rfl) (by kernel_rfl) (by kernel_rfl) (fun _ _ _ h => h) (by rfl) (fun u => ?_) (by assumption) ?_
  rotate_left
  focus (go_simp; (try with_reducible rfl); done)
  try simp only [Act.put, List.setIfInBounds_toArray, List.set_cons_zero, List.set_cons_succ]
  refine pre_last (by kernel_rfl) rfl (fun K hK => ?_)
  go_simp
  refine hK.out _ _ ?_
  clear hK K
  try simp only [Act.put, List.setIfInBounds_toArray, List.set_cons_zero, List.set_cons_succ]
  refine aw_one 19 (by kernel_rfl) rfl (fun K hK => ?_)
  go_simp
  refine hK.out _ _ ?_
  clear hK K
  try simp only [Act.put, List.setIfInBounds_toArray, List.set_cons_zero, List.set_cons_succ]
  refine aw_one 20 (by kernel_rfl) rfl (fun K hK => ?_)
  go_simp
  refine hK.out _ _ ?_
  clear hK K
  try simp only [Act.put, List.setIfInBounds_toArray, List.set_cons_zero, List.set_cons_succ]
  refine aw_done (by kernel_rfl) ?_
  go_wp2_with fail
  have hin : Lay ((w1.setCell ⟨bn, 3, none⟩ (ptrV kr)).setCell ⟨bk, 4, none⟩ (.pointer (some ⟨bn, 0, none⟩))).drew (.node bn (moveT kw kr) r s hh c m wt) :=
    ⟨by unfold nodeC; rw [ptr_move]; exact HB3.out, HKR3.out.same rfl, HR3.out.same rfl⟩
  refine (told_walk _ hin (nodup_node (fun x hx => nkrr x (by rw [blks_move] at hx; exact hx)) nr (by rw [blks_move]; exact k4) n4 (fun x hx => by rw [blks_move] at hx; exact nkr x (by simp [blks, hx]))) hti).mono ?_
  rintro e w4 ⟨rfl, ht4, ho4⟩
  have hnb : ∀ x, x ≠ bn → x ∉ [bn] := fun x h1 hm => h1 (List.mem_singleton.1 hm)
  have hkb4 : w4.heap[bk]? = _ := ho4.heap HKB3.out (hnb bk nbk)
  have hol4 : Lay w4 (moveT kw kl) := Lay.only (HKL3.out.same (w' := ((w1.setCell ⟨bn, 3, none⟩ (ptrV kr)).setCell ⟨bk, 4, none⟩ (.pointer (some ⟨bn, 0, none⟩))).drew) rfl) ho4 (fun x hx => by rw [blks_move] at hx; exact hnb x (nkl x hx))
  have hO4 : Only (bn :: bk :: (rootB kl ++ rootB kr)) w w4 := HO3.out.drew.trans ho4 (fun x hx => .inl (by rw [List.mem_singleton.1 hx]; simp))
  have hout : Lay w4 (.node bk (moveT kw kl) (toldT (.node bn (moveT kw kr) r s hh c m wt)) ks kh kc km 0) := ⟨by unfold nodeC; rw [ptr_move]; exact hkb4, hol4, ht4⟩
  have hno : (blks (.node bk (moveT kw kl) (toldT (.node bn (moveT kw kr) r s hh c m wt)) ks kh kc km 0)).Nodup := nodup_node (fun x hx => by rw [blks_move] at hx; exact k1 x hx) (fun x hx => by rw [blks_told] at hx; rcases List.mem_cons.1 hx with rfl | hx; exact Ne.symm nbk; rcases List.mem_append.1 hx with hx | hx; (rw [blks_move] at hx; exact k2 x hx); exact fun e => nkr bk (by simp [blks]) (e ▸ hx)) (by rw [blks_move]; exact k3) (by rw [blks_told]; exact (nodup_node (fun x hx => nkrr x (by rw [blks_move] at hx; exact hx)) nr (by rw [blks_move]; exact k4) n4 (fun x hx => by rw [blks_move] at hx; exact nkr x (by simp [blks, hx])))) (fun x hx hy => by rw [blks_move] at hx; rw [blks_told] at hy; rcases List.mem_cons.1 hy with rfl | hy; exact nkl x hx rfl; rcases List.mem_append.1 hy with hy | hy; (rw [blks_move] at hy; exact k5 x hx hy); exact nkr x (by simp [blks, hx]) hy)
  have HOUT := Lib.hid hout
  have HO4 := Lib.hid hO4
  clear hin ht4 ho4 hkb4 hol4 hO4 hout
  go_wp2_with fail
  refine (told_walk _ HOUT.out hno hto).mono ?_
  rintro e w5 ⟨rfl, ht5, ho5⟩
  have hO5 := HO4.out.trans ho5 (fun x hx => .inl (by rw [List.mem_singleton.1 hx]; simp))
  go_wp2_with fail
  go_ret
  exact ⟨rfl, ht5, hO5⟩

set_option maxRecDepth 100000 in
set_option maxHeartbeats 4000000 in
theorem liftR_walk {bn bk : Nat} {kl kr r : Tr} {s ks : Sp} {hh c m wt kh kc km kw : Int} (w : World) (h : Lay w (.node bn r (.node bk kl kr ks kh kc km kw) s hh c m wt)) (hn : (blks (.node bn r (.node bk kl kr ks kh kc km kw) s hh c m wt)).Nodup) (hfl : MvFit kw kl) (hfr : MvFit kw kr) (hti : TdFit r (moveT kw kl)) (hto : TdFit (toldT (.node bn r (moveT kw kl) s hh c m wt)) (moveT kw kr)) :
    Calls Try.prog 68 #[.pointer (some ⟨bn, 0, none⟩), .int .i64 1] w fun e w' => e = .returned (.pointer (some ⟨bk, 0, none⟩)) ∧ Lay w' (liftR (.node bn r (.node bk kl kr ks kh kc km kw) s hh c m wt)) ∧ Only (bn :: bk :: (rootB kl ++ rootB kr)) w w' := by
  have hw1 : IntKind.i64.wrap 1 = 1 := by decide
  have hw0 : IntKind.i64.wrap 0 = 0 := by decide
  obtain ⟨n1, n2, n3, n4, n5⟩ := node_nodup hn
  have hb := lay_cells h
  have hk : Lay w (.node bk kl kr ks kh kc km kw) := h.2.2
  have hr := h.2.1
  have hkn : (blks (.node bk kl kr ks kh kc km kw)).Nodup := n4
  have nk : ∀ x ∈ blks (.node bk kl kr ks kh kc km kw), x ≠ bn := n2
  have nr : ∀ x ∈ blks r, x ≠ bn := n1
  have nkr : ∀ x ∈ blks (.node bk kl kr ks kh kc km kw), x ∉ blks r := fun x hx hy => n5 x hy hx
  obtain ⟨k1, k2, k3, k4, k5⟩ := node_nodup hkn
  have nbk : bk ≠ bn := nk bk (by simp [blks])
  have nkl : ∀ x ∈ blks kl, x ≠ bn := fun x hx => nk x (by simp [blks, hx])
  have nkrr : ∀ x ∈ blks kr, x ≠ bn := fun x hx => nk x (by simp [blks, hx])
  have c4 : w.cell? ⟨bn, 4, none⟩ = some (.pointer (some ⟨bk, 0, none⟩)) := cell_of_heap hb 4
  have HB := Lib.hid hb
  have HK := Lib.hid hk
  have HR := Lib.hid hr
  clear hb hk hr h
  go_enter Try.func68, Try.ntmps68
  go_wp2_with fail
  refine (down_walk w HK.out hkn hfl hfr).mono ?_
  rintro e w1 ⟨rfl, hk1, ho1⟩
  have hro : ∀ x, x ∈ bk :: (rootB kl ++ rootB kr) → x ∈ blks (.node bk kl kr ks kh kc km kw) := fun x hx => by
    rcases List.mem_cons.1 hx with rfl | hx
    · simp [blks]
    · rcases List.mem_append.1 hx with hx | hx
      · exact List.mem_cons_of_mem _ (List.mem_append.2 (.inl (root_sub x hx)))
      · exact List.mem_cons_of_mem _ (List.mem_append.2 (.inr (root_sub x hx)))
  have hb1 := ho1.heap HB.out (fun hm => nk bn (hro bn hm) rfl)
  have hr1 := HR.out.only ho1 (fun x hx hm => nkr x (hro x hm) hx)
  have hkb := lay_cells hk1
  rw [ptr_move, ptr_move] at hkb
  have hkl1 := hk1.2.1
  have hkr1 := hk1.2.2
  have hO1 : Only (bn :: bk :: (rootB kl ++ rootB kr)) w w1 := ho1.mono (fun x hx => .inl (List.mem_cons_of_mem _ hx))
  -- n's side, k's side
  have hb2 := heap_setCell hb1 4 (ptrV kl)
  have hkb2 : (w1.setCell ⟨bn, 4, none⟩ (ptrV kl)).heap[bk]? = _ := (Below.heap_setCell w1 ⟨bn, 4, none⟩ (ptrV kl) bk nbk).trans hkb
  have hkb3 := heap_setCell hkb2 3 (.pointer (some ⟨bn, 0, none⟩))
  have hb3 : ((w1.setCell ⟨bn, 4, none⟩ (ptrV kl)).setCell ⟨bk, 3, none⟩ (.pointer (some ⟨bn, 0, none⟩))).heap[bn]? = _ := (Below.heap_setCell (w1.setCell ⟨bn, 4, none⟩ (ptrV kl)) ⟨bk, 3, none⟩ (.pointer (some ⟨bn, 0, none⟩)) bn (Ne.symm nbk)).trans hb2
  have ho3 : Only [bn, bk] w1 ((w1.setCell ⟨bn, 4, none⟩ (ptrV kl)).setCell ⟨bk, 3, none⟩ (.pointer (some ⟨bn, 0, none⟩))) := ((Only.refl [bn, bk] w1).setCell (p := ⟨bn, 4, none⟩) (.inl (by simp)) _).setCell (p := ⟨bk, 3, none⟩) (.inl (by simp)) _
  have hnin : ∀ x, x ≠ bn → x ≠ bk → x ∉ [bn, bk] := fun x h1 h2 hm => by
    rcases List.mem_cons.1 hm with e | hm
    · exact h1 e
    · exact h2 (List.mem_singleton.1 hm)
  have hr3 := hr1.only ho3 (fun x hx => hnin x (nr x hx) (fun e => nkr bk (by simp [blks]) (e ▸ hx)))
  have hkl3 := hkl1.only ho3 (fun x hx => by rw [blks_move] at hx; exact hnin x (nkl x hx) (k1 x hx))
  have hkr3 := hkr1.only ho3 (fun x hx => by rw [blks_move] at hx; exact hnin x (nkrr x hx) (k2 x hx))
  have hO3 := hO1.trans ho3 (fun x hx => .inl (by rcases List.mem_cons.1 hx with rfl | hx; simp; (rw [List.mem_singleton.1 hx]; simp)))
  have d4 := cell_of_heap hb1 4
  have g4 := frozen_of_heap hb1 4
  have q3 := cell_of_heap hkb 3
  have r3 := frozen_of_heap hkb 3
  have q23 := cell_of_heap hkb2 3
  have r23 := frozen_of_heap hkb2 3
  have HB3 := Lib.hid hb3
  have HKB3 := Lib.hid hkb3
  have HR3 := Lib.hid hr3
  have HKL3 := Lib.hid hkl3
  have HKR3 := Lib.hid hkr3
  have HO3 := Lib.hid hO3
  clear c4 hb1 hr1 hkb hkl1 hkr1 hk1 ho1 hO1 hb2 hkb2 hkb3 hb3 ho3 hr3 hkl3 hkr3 hO3
  go_upto_region 4 with (fail)
  refine region_pre 16 (fun u => u = w1.drew) (by kernel_rfl) rfl (fun hHeld => ?_)
  refine pre_free 0 (v := ?_) rfl (by kernel_rfl) (by kernel_rfl) (by kernel_rfl) (by kernel_rfl) (fun _ _ _ h => h) (by rfl) (fun u => ?_) (by assumption) ?_
  rotate_left
  focus (go_simp; (try with_reducible rfl); done)
  try simp only [Act.put, List.setIfInBounds_toArray, List.set_cons_zero, List.set_cons_succ]
  refine pre_free 1 (v := ?_) rfl (by kernel_rfl) (by kernel_rfl) (by kernel_rfl) (by kernel_rfl) (fun _ _ _ h => h) (by rfl) (fun u => ?_) (by assumption) ?_
  rotate_left
  focus (go_simp; (try with_reducible rfl); done)
  try simp only [Act.put, List.setIfInBounds_toArray, List.set_cons_zero, List.set_cons_succ]
  refine pre_free 2 (v := ?_) rfl (by kernel_rfl) (by kernel_rfl) (by kernel_rfl) (by kernel_rfl) (fun _ _ _ h => h) (by rfl) (fun u => ?_) (by assumption) ?_
  rotate_left
  focus (go_simp; (try with_reducible rfl); done)
  try simp only [Act.put, List.setIfInBounds_toArray, List.set_cons_zero, List.set_cons_succ]
  refine pre_free 3 (v := ?_) rfl (by kernel_rfl) (by kernel_rfl) (by kernel_rfl) (by kernel_rfl) (fun _ _ _ h => h) (by rfl) (fun u => ?_) (by assumption) ?_
  rotate_left
  focus (go_simp; (try with_reducible rfl); done)
  try simp only [Act.put, List.setIfInBounds_toArray, List.set_cons_zero, List.set_cons_succ]
  refine pre_free 4 (v := ?_) rfl (by kernel_rfl) (by kernel_rfl) (by kernel_rfl) (by kernel_rfl) (fun _ _ _ h => h) (by rfl) (fun u => ?_) (by assumption) ?_
  rotate_left
  focus (go_simp; (try with_reducible rfl); done)
  try simp only [Act.put, List.setIfInBounds_toArray, List.set_cons_zero, List.set_cons_succ]
  refine pre_free 5 (v := ?_) rfl (by kernel_rfl) (by kernel_rfl) (by kernel_rfl) (by kernel_rfl) (fun _ _ _ h => h) (by rfl) (fun u => ?_) (by assumption) ?_
  rotate_left
  focus (go_simp; (try with_reducible rfl); done)
  try simp only [Act.put, List.setIfInBounds_toArray, List.set_cons_zero, List.set_cons_succ]
  refine pre_free 6 (v := ?_) rfl (by kernel_rfl) (by kernel_rfl) (by kernel_rfl) (by kernel_rfl) (fun _ _ _ h => h) (by rfl) (fun u => ?_) (by assumption) ?_
  rotate_left
  focus (go_simp; (try with_reducible rfl); done)
  try simp only [Act.put, List.setIfInBounds_toArray, List.set_cons_zero, List.set_cons_succ]
  refine pre_free 7 (v := ?_) rfl (by kernel_rfl) (by kernel_rfl) (by kernel_rfl) (by kernel_rfl) (fun _ _ _ h => h) (by rfl) (fun u => ?_) (by assumption) ?_
  rotate_left
  focus (go_simp; (try with_reducible rfl); done)
  try simp only [Act.put, List.setIfInBounds_toArray, List.set_cons_zero, List.set_cons_succ]
  refine pre_free 8 (v := ?_) rfl (by kernel_rfl) (by kernel_rfl) (by kernel_rfl) (by kernel_rfl) (fun _ _ _ h => h) (by rfl) (fun u => ?_) (by assumption) ?_
  rotate_left
  focus (go_simp; (try with_reducible rfl); done)
  try simp only [Act.put, List.setIfInBounds_toArray, List.set_cons_zero, List.set_cons_succ]
  refine pre_free 9 (v := ?_) rfl (by kernel_rfl) (by kernel_rfl) (by kernel_rfl) (by kernel_rfl) (fun _ _ _ h => h) (by rfl) (fun u => ?_) (by assumption) ?_
  rotate_left
  focus (go_simp; (try with_reducible rfl); done)
  try simp only [Act.put, List.setIfInBounds_toArray, List.set_cons_zero, List.set_cons_succ]
  refine pre_free 10 (v := ?_) rfl (by kernel_rfl) (by kernel_rfl) (by kernel_rfl) (by kernel_rfl) (fun _ _ _ h => h) (by rfl) (fun u => ?_) (by assumption) ?_
  rotate_left
  focus (go_simp; (try with_reducible rfl); done)
  try simp only [Act.put, List.setIfInBounds_toArray, List.set_cons_zero, List.set_cons_succ]
  refine pre_load 11 (v := ?_) rfl (by kernel_rfl) (by kernel_rfl) (by kernel_rfl) (by kernel_rfl) (fun _ _ _ h => h) (by rfl) (fun u hu => ?_) (by assumption) ?_
  rotate_left
  focus ((try dsimp only at hu); subst hu; go_simp; (try with_reducible rfl); done)
  try simp only [Act.put, List.setIfInBounds_toArray, List.set_cons_zero, List.set_cons_succ]
  refine pre_free 12 (v := ?_) rfl (by kernel_rfl) (by kernel_rfl) (by kernel_rfl) (by kernel_rfl) (fun _ _ _ h => h) (by rfl) (fun u => ?_) (by assumption) ?_
  rotate_left
  focus (go_simp; (try with_reducible rfl); done)
  try simp only [Act.put, List.setIfInBounds_toArray, List.set_cons_zero, List.set_cons_succ]
  refine pre_free 13 (v := ?_) rfl (by kernel_rfl) (by kernel_rfl) (by kernel_rfl) (by kernel_rfl) (fun _ _ _ h => h) (by rfl) (fun u => ?_) (by assumption) ?_
  rotate_left
  focus (go_simp; (try with_reducible rfl); done)
  try simp only [Act.put, List.setIfInBounds_toArray, List.set_cons_zero, List.set_cons_succ]
  refine pre_free 14 (v := ?_) rfl (by kernel_rfl) (by kernel_rfl) (by kernel_rfl) (by kernel_rfl) (fun _ _ _ h => h) (by rfl) (fun u => ?_) (by assumption) ?_
  rotate_left
  focus (go_simp; (try with_reducible rfl); done)
  try simp only [Act.put, List.setIfInBounds_toArray, List.set_cons_zero, List.set_cons_succ]
  refine pre_free 15 (v := ?_) rfl (by kernel_rfl) (by kernel_rfl) (by kernel_rfl) (by kernel_rfl) (fun _ _ _ h => h) (by rfl) (fun u => ?_) (by assumption) ?_
  rotate_left
  focus (go_simp; (try with_reducible rfl); done)
  try simp only [Act.put, List.setIfInBounds_toArray, List.set_cons_zero, List.set_cons_succ]
  refine pre_free 17 (v := ?_) rfl (by kernel_rfl) (by kernel_rfl) (by kernel_rfl) (by kernel_rfl) (fun _ _ _ h => h) (by rfl) (fun u => ?_) (by assumption) ?_
  rotate_left
  focus (go_simp; (try with_reducible rfl); done)
  try simp only [Act.put, List.setIfInBounds_toArray, List.set_cons_zero, List.set_cons_succ]
  refine pre_free 18 (v := ?_) rfl (by kernel_rfl) (by kernel_rfl) (by kernel_rfl) (by kernel_rfl) (fun _ _ _ h => h) (by rfl) (fun u => ?_) (by assumption) ?_
  rotate_left
  focus (go_simp; (try with_reducible rfl); done)
  try simp only [Act.put, List.setIfInBounds_toArray, List.set_cons_zero, List.set_cons_succ]
  refine pre_last (by kernel_rfl) rfl (fun K hK => ?_)
  go_simp
  refine hK.out _ _ ?_
  clear hK K
  try simp only [Act.put, List.setIfInBounds_toArray, List.set_cons_zero, List.set_cons_succ]
  refine aw_one 19 (by kernel_rfl) rfl (fun K hK => ?_)
  go_simp
  refine hK.out _ _ ?_
  clear hK K
  try simp only [Act.put, List.setIfInBounds_toArray, List.set_cons_zero, List.set_cons_succ]
  refine aw_one 20 (by kernel_rfl) rfl (fun K hK => ?_)
  go_simp
  refine hK.out _ _ ?_
  clear hK K
  try simp only [Act.put, List.setIfInBounds_toArray, List.set_cons_zero, List.set_cons_succ]
  refine aw_done (by kernel_rfl) ?_
  go_wp2_with fail
  have hin : Lay ((w1.setCell ⟨bn, 4, none⟩ (ptrV kl)).setCell ⟨bk, 3, none⟩ (.pointer (some ⟨bn, 0, none⟩))).drew (.node bn r (moveT kw kl) s hh c m wt) :=
    ⟨by unfold nodeC; rw [ptr_move]; exact HB3.out, HR3.out.same rfl, HKL3.out.same rfl⟩
  refine (told_walk _ hin (nodup_node nr (fun x hx => nkl x (by rw [blks_move] at hx; exact hx)) n3 (by rw [blks_move]; exact k3) (fun x hx hy => by rw [blks_move] at hy; exact nkr x (by simp [blks, hy]) hx)) hti).mono ?_
  rintro e w4 ⟨rfl, ht4, ho4⟩
  have hnb : ∀ x, x ≠ bn → x ∉ [bn] := fun x h1 hm => h1 (List.mem_singleton.1 hm)
  have hkb4 : w4.heap[bk]? = _ := ho4.heap HKB3.out (hnb bk nbk)
  have hol4 : Lay w4 (moveT kw kr) := Lay.only (HKR3.out.same (w' := ((w1.setCell ⟨bn, 4, none⟩ (ptrV kl)).setCell ⟨bk, 3, none⟩ (.pointer (some ⟨bn, 0, none⟩))).drew) rfl) ho4 (fun x hx => by rw [blks_move] at hx; exact hnb x (nkrr x hx))
  have hO4 : Only (bn :: bk :: (rootB kl ++ rootB kr)) w w4 := HO3.out.drew.trans ho4 (fun x hx => .inl (by rw [List.mem_singleton.1 hx]; simp))
  have hout : Lay w4 (.node bk (toldT (.node bn r (moveT kw kl) s hh c m wt)) (moveT kw kr) ks kh kc km 0) := ⟨by unfold nodeC; rw [ptr_move]; exact hkb4, ht4, hol4⟩
  have hno : (blks (.node bk (toldT (.node bn r (moveT kw kl) s hh c m wt)) (moveT kw kr) ks kh kc km 0)).Nodup := nodup_node (fun x hx => by rw [blks_told] at hx; rcases List.mem_cons.1 hx with rfl | hx; exact Ne.symm nbk; rcases List.mem_append.1 hx with hx | hx; exact fun e => nkr bk (by simp [blks]) (e ▸ hx); (rw [blks_move] at hx; exact k1 x hx)) (fun x hx => by rw [blks_move] at hx; exact k2 x hx) (by rw [blks_told]; exact (nodup_node nr (fun x hx => nkl x (by rw [blks_move] at hx; exact hx)) n3 (by rw [blks_move]; exact k3) (fun x hx hy => by rw [blks_move] at hy; exact nkr x (by simp [blks, hy]) hx))) (by rw [blks_move]; exact k4) (fun x hx hy => by rw [blks_told] at hx; rw [blks_move] at hy; rcases List.mem_cons.1 hx with rfl | hx; exact nkrr x hy rfl; rcases List.mem_append.1 hx with hx | hx; exact nkr x (by simp [blks, hy]) hx; (rw [blks_move] at hx; exact k5 x hx hy))
  have HOUT := Lib.hid hout
  have HO4 := Lib.hid hO4
  clear hin ht4 ho4 hkb4 hol4 hO4 hout
  go_wp2_with fail
  refine (told_walk _ HOUT.out hno hto).mono ?_
  rintro e w5 ⟨rfl, ht5, ho5⟩
  have hO5 := HO4.out.trans ho5 (fun x hx => .inl (by rw [List.mem_singleton.1 hx]; simp))
  go_wp2_with fail
  go_ret
  exact ⟨rfl, ht5, hO5⟩
end Go.Proofs.Ytijpienjejfmiaa
