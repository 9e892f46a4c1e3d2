/-
  Marks' down, told: the walks. Conditions: no number leaves int's range.
-/
import Derived.Test.YtijpienjejfmiaaMkA
namespace Go.Proofs.Ytijpienjejfmiaa
open Go Go.RowKit

theorem root_sub {t : Tr} : ∀ b ∈ rootB t, b ∈ blks t := by
  cases t with
  | nil => intro b h; cases h
  | node b l r s h c m w => intro x hx; rw [List.mem_singleton.1 hx]; simp [blks]

/-- Blocks of a node, told apart. -/
theorem node_nodup {b : Nat} {l r : Tr} {s : Sp} {h c m w : Int} (hn : (blks (.node b l r s h c m w)).Nodup) :
    (∀ x ∈ blks l, x ≠ b) ∧ (∀ x ∈ blks r, x ≠ b) ∧ (blks l).Nodup ∧ (blks r).Nodup ∧ ∀ x ∈ blks l, x ∉ blks r := by
  obtain ⟨h1, h2⟩ := List.nodup_cons.1 hn
  obtain ⟨h3, h4, h5⟩ := List.nodup_append.1 h2
  exact ⟨fun x hx e => h1 (List.mem_append.2 (.inl (e ▸ hx))), fun x hx e => h1 (List.mem_append.2 (.inr (e ▸ hx))), h3, h4, fun x hx hy => h5 x hx x hy rfl⟩

set_option maxRecDepth 100000 in
set_option maxHeartbeats 2000000 in
theorem down_walk {b : Nat} {l r : Tr} {s : Sp} {hh c m wt : Int} (w : World) (h : Lay w (.node b l r s hh c m wt)) (hn : (blks (.node b l r s hh c m wt)).Nodup) (hfl : MvFit wt l) (hfr : MvFit wt r) :
    Calls Try.prog 67 #[.pointer (some ⟨b, 0, none⟩)] w fun e w' => e = .returned (.tuple #[]) ∧ Lay w' (downT (.node b l r s hh c m wt)) ∧ Only (b :: (rootB l ++ rootB r)) w w' := by
  obtain ⟨n1, n2, n3, n4, n5⟩ := node_nodup hn
  have hb := lay_cells h
  have hl := h.2.1
  have hr := h.2.2
  have c3 := cell_of_heap hb 3
  have c4 := cell_of_heap hb 4
  have c8 := cell_of_heap hb 8
  have HB := Lib.hid hb
  have HL := Lib.hid hl
  have HR := Lib.hid hr
  clear hb hl hr h
  go_enter Try.func67, Try.ntmps67
  go_upto_region 0 with (fail)
  refine region_pre 9 (fun u => u = w.drew) (by kernel_rfl) rfl (fun hHeld => ?_)
  refine pre_free 0 (v := ?_) rfl (by kernel_rfl) (by kernel_rfl) (by kernel_rfl) (by kernel_rfl) (fun _ _ _ h => h) (by rfl) (fun u => ?_) (by assumption) ?_
  rotate_left
  focus (go_simp; (try with_reducible rfl); done)
  try simp only [Act.put, List.setIfInBounds_toArray, List.set_cons_zero, List.set_cons_succ]
  refine pre_free 1 (v := ?_) rfl (by kernel_rfl) (by kernel_rfl) (by kernel_rfl) (by kernel_rfl) (fun _ _ _ h => h) (by rfl) (fun u => ?_) (by assumption) ?_
  rotate_left
  focus (go_simp; (try with_reducible rfl); done)
  try simp only [Act.put, List.setIfInBounds_toArray, List.set_cons_zero, List.set_cons_succ]
  refine pre_free 2 (v := ?_) rfl (by kernel_rfl) (by kernel_rfl) (by kernel_rfl) (by kernel_rfl) (fun _ _ _ h => h) (by rfl) (fun u => ?_) (by assumption) ?_
  rotate_left
  focus (go_simp; (try with_reducible rfl); done)
  try simp only [Act.put, List.setIfInBounds_toArray, List.set_cons_zero, List.set_cons_succ]
  refine pre_free 3 (v := ?_) rfl (by kernel_rfl) (by kernel_rfl) (by kernel_rfl) (by kernel_rfl) (fun _ _ _ h => h) (by rfl) (fun u => ?_) (by assumption) ?_
  rotate_left
  focus (go_simp; (try with_reducible rfl); done)
  try simp only [Act.put, List.setIfInBounds_toArray, List.set_cons_zero, List.set_cons_succ]
  refine pre_load 4 (v := ?_) rfl (by kernel_rfl) (by kernel_rfl) (by kernel_rfl) (by kernel_rfl) (fun _ _ _ h => h) (by rfl) (fun u hu => ?_) (by assumption) ?_
  rotate_left
  focus ((try dsimp only at hu); subst hu; go_simp; (try with_reducible rfl); done)
  try simp only [Act.put, List.setIfInBounds_toArray, List.set_cons_zero, List.set_cons_succ]
  refine pre_free 5 (v := ?_) rfl (by kernel_rfl) (by kernel_rfl) (by kernel_rfl) (by kernel_rfl) (fun _ _ _ h => h) (by rfl) (fun u => ?_) (by assumption) ?_
  rotate_left
  focus (go_simp; (try with_reducible rfl); done)
  try simp only [Act.put, List.setIfInBounds_toArray, List.set_cons_zero, List.set_cons_succ]
  refine pre_free 6 (v := ?_) rfl (by kernel_rfl) (by kernel_rfl) (by kernel_rfl) (by kernel_rfl) (fun _ _ _ h => h) (by rfl) (fun u => ?_) (by assumption) ?_
  rotate_left
  focus (go_simp; (try with_reducible rfl); done)
  try simp only [Act.put, List.setIfInBounds_toArray, List.set_cons_zero, List.set_cons_succ]
  refine pre_free 7 (v := ?_) rfl (by kernel_rfl) (by kernel_rfl) (by kernel_rfl) (by kernel_rfl) (fun _ _ _ h => h) (by rfl) (fun u => ?_) (by assumption) ?_
  rotate_left
  focus (go_simp; (try with_reducible rfl); done)
  try simp only [Act.put, List.setIfInBounds_toArray, List.set_cons_zero, List.set_cons_succ]
  refine pre_load 8 (v := ?_) rfl (by kernel_rfl) (by kernel_rfl) (by kernel_rfl) (by kernel_rfl) (fun _ _ _ h => h) (by rfl) (fun u hu => ?_) (by assumption) ?_
  rotate_left
  focus ((try dsimp only at hu); subst hu; go_simp; (try with_reducible rfl); done)
  try simp only [Act.put, List.setIfInBounds_toArray, List.set_cons_zero, List.set_cons_succ]
  refine pre_last (by kernel_rfl) rfl (fun K hK => ?_)
  go_simp
  go_at_call 60
  refine (move_walk l wt w.drew (HL.out.kept (grownBy_drew (grownBy_refl _ none))) n3 hfl).mono ?_
  rintro e w1 ⟨rfl, hl1, ho1⟩
  have ho1' : Only (rootB l) w w1 := Only.trans ((Only.refl (rootB l) w).drew) ho1 (fun b hb => .inl hb)
  have hb1 := ho1'.heap HB.out (fun hm => n1 b (root_sub b hm) rfl)
  have hr1 := HR.out.only ho1' (fun x hx hm => n5 x (root_sub x hm) hx)
  have HB1 := Lib.hid hb1
  have HR1 := Lib.hid hr1
  have HL1 := Lib.hid hl1
  have HO1 := Lib.hid ho1'
  have c3 := cell_of_heap hb1 3
  have c4 := cell_of_heap hb1 4
  have c8 := cell_of_heap hb1 8
  clear hb1 hr1 hl1 ho1 ho1'
  try go_simp
  refine hK.out _ _ ?_
  clear hK K
  try simp only [Act.put, List.setIfInBounds_toArray, List.set_cons_zero, List.set_cons_succ]
  refine aw_done (by kernel_rfl) ?_
  go_upto_region 1 with (fail)
  refine region_pre 9 (fun u => u = w1.drew) (by kernel_rfl) rfl (fun hHeld => ?_)
  refine pre_free 0 (v := ?_) rfl (by kernel_rfl) (by kernel_rfl) (by kernel_rfl) (by kernel_rfl) (fun _ _ _ h => h) (by rfl) (fun u => ?_) (by assumption) ?_
  rotate_left
  focus (go_simp; (try with_reducible rfl); done)
  try simp only [Act.put, List.setIfInBounds_toArray, List.set_cons_zero, List.set_cons_succ]
  refine pre_free 1 (v := ?_) rfl (by kernel_rfl) (by kernel_rfl) (by kernel_rfl) (by kernel_rfl) (fun _ _ _ h => h) (by rfl) (fun u => ?_) (by assumption) ?_
  rotate_left
  focus (go_simp; (try with_reducible rfl); done)
  try simp only [Act.put, List.setIfInBounds_toArray, List.set_cons_zero, List.set_cons_succ]
  refine pre_free 2 (v := ?_) rfl (by kernel_rfl) (by kernel_rfl) (by kernel_rfl) (by kernel_rfl) (fun _ _ _ h => h) (by rfl) (fun u => ?_) (by assumption) ?_
  rotate_left
  focus (go_simp; (try with_reducible rfl); done)
  try simp only [Act.put, List.setIfInBounds_toArray, List.set_cons_zero, List.set_cons_succ]
  refine pre_free 3 (v := ?_) rfl (by kernel_rfl) (by kernel_rfl) (by kernel_rfl) (by kernel_rfl) (fun _ _ _ h => h) (by rfl) (fun u => ?_) (by assumption) ?_
  rotate_left
  focus (go_simp; (try with_reducible rfl); done)
  try simp only [Act.put, List.setIfInBounds_toArray, List.set_cons_zero, List.set_cons_succ]
  refine pre_load 4 (v := ?_) rfl (by kernel_rfl) (by kernel_rfl) (by kernel_rfl) (by kernel_rfl) (fun _ _ _ h => h) (by rfl) (fun u hu => ?_) (by assumption) ?_
  rotate_left
  focus ((try dsimp only at hu); subst hu; go_simp; (try with_reducible rfl); done)
  try simp only [Act.put, List.setIfInBounds_toArray, List.set_cons_zero, List.set_cons_succ]
  refine pre_free 5 (v := ?_) rfl (by kernel_rfl) (by kernel_rfl) (by kernel_rfl) (by kernel_rfl) (fun _ _ _ h => h) (by rfl) (fun u => ?_) (by assumption) ?_
  rotate_left
  focus (go_simp; (try with_reducible rfl); done)
  try simp only [Act.put, List.setIfInBounds_toArray, List.set_cons_zero, List.set_cons_succ]
  refine pre_free 6 (v := ?_) rfl (by kernel_rfl) (by kernel_rfl) (by kernel_rfl) (by kernel_rfl) (fun _ _ _ h => h) (by rfl) (fun u => ?_) (by assumption) ?_
  rotate_left
  focus (go_simp; (try with_reducible rfl); done)
  try simp only [Act.put, List.setIfInBounds_toArray, List.set_cons_zero, List.set_cons_succ]
  refine pre_free 7 (v := ?_) rfl (by kernel_rfl) (by kernel_rfl) (by kernel_rfl) (by kernel_rfl) (fun _ _ _ h => h) (by rfl) (fun u => ?_) (by assumption) ?_
  rotate_left
  focus (go_simp; (try with_reducible rfl); done)
  try simp only [Act.put, List.setIfInBounds_toArray, List.set_cons_zero, List.set_cons_succ]
  refine pre_load 8 (v := ?_) rfl (by kernel_rfl) (by kernel_rfl) (by kernel_rfl) (by kernel_rfl) (fun _ _ _ h => h) (by rfl) (fun u hu => ?_) (by assumption) ?_
  rotate_left
  focus ((try dsimp only at hu); subst hu; go_simp; (try with_reducible rfl); done)
  try simp only [Act.put, List.setIfInBounds_toArray, List.set_cons_zero, List.set_cons_succ]
  refine pre_last (by kernel_rfl) rfl (fun K hK => ?_)
  go_simp
  go_at_call 60
  refine (move_walk r wt w1.drew (HR1.out.kept (grownBy_drew (grownBy_refl _ none))) n4 hfr).mono ?_
  rintro e w2 ⟨rfl, hr2, ho2⟩
  have ho2' : Only (rootB r) w1 w2 := Only.trans ((Only.refl (rootB r) w1).drew) ho2 (fun b hb => .inl hb)
  have hb2 := ho2'.heap HB1.out (fun hm => n2 b (root_sub b hm) rfl)
  have hl2 := HL1.out.only ho2' (fun x hx hm => n5 x (by rw [blks_move] at hx; exact hx) (root_sub x hm))
  have hO2 : Only (b :: (rootB l ++ rootB r)) w w2 := (HO1.out.mono (B' := b :: (rootB l ++ rootB r)) (fun x hx => .inl (by simp [hx]))).trans ho2' (fun x hx => .inl (by simp [hx]))
  have hst := heap_setCell hb2 8 (.int .i64 0)
  have hO3 := hO2.setCell (p := ⟨b, 8, none⟩) (.inl (by simp)) (.int .i64 0)
  have hs3 : Only [b] w2 (w2.setCell ⟨b, 8, none⟩ (.int .i64 0)) := (Only.refl [b] w2).setCell (p := ⟨b, 8, none⟩) (.inl (by simp)) _
  have hl3 := hl2.only hs3 (fun x hx hm => n1 x (by rw [blks_move] at hx; exact hx) (List.mem_singleton.1 hm))
  have hr3 := hr2.only hs3 (fun x hx hm => n2 x (by rw [blks_move] at hx; exact hx) (List.mem_singleton.1 hm))
  have HST := Lib.hid hst
  have HO3 := Lib.hid hO3
  have HL3 := Lib.hid hl3
  have HR3 := Lib.hid hr3
  have f8 := cell_of_heap hb2 8
  have g8 := frozen_of_heap hb2 8
  clear hb2 hl2 hr2 ho2 ho2' hO2 hst hO3 hs3 hl3 hr3
  try go_simp
  refine hK.out _ _ ?_
  clear hK K
  try simp only [Act.put, List.setIfInBounds_toArray, List.set_cons_zero, List.set_cons_succ]
  refine aw_done (by kernel_rfl) ?_
  go_wp2_with fail
  go_end0
  refine ⟨rfl, ⟨?_, HL3.out, HR3.out⟩, HO3.out⟩
  have := HST.out
  unfold nodeC
  rw [ptr_move, ptr_move]
  exact this
end Go.Proofs.Ytijpienjejfmiaa
