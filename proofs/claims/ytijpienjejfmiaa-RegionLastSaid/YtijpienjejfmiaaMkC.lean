/-
  Marks' told: the walk. Conditions: no number leaves int's range.
-/
import Derived.Test.YtijpienjejfmiaaMkB
namespace Go.Proofs.Ytijpienjejfmiaa
open Go Go.RowKit

theorem Lay.same {w w' : World} {t : Tr} (h : Lay w t) (e : w'.heap = w.heap) : Lay w' t := h.frame fun _ _ => by rw [e]

/-- What a node tells does not leave int's range. -/
structure TdFit (l r : Tr) : Prop where
  h : IntKind.i64.wrap (1 + max (highT l) (highT r)) = 1 + max (highT l) (highT r)
  c1 : IntKind.i64.wrap (1 + manyT l) = 1 + manyT l
  c2 : IntKind.i64.wrap (1 + manyT l + manyT r) = 1 + manyT l + manyT r

set_option maxRecDepth 100000 in
set_option maxHeartbeats 2000000 in
theorem told_walk {b : Nat} {l r : Tr} {s : Sp} {hh c m wt : Int} (w : World) (h : Lay w (.node b l r s hh c m wt)) (hn : (blks (.node b l r s hh c m wt)).Nodup) (hf : TdFit l r) :
    Calls Try.prog 55 #[.pointer (some ⟨b, 0, none⟩)] w fun e w' => e = .returned (.pointer (some ⟨b, 0, none⟩)) ∧ Lay w' (toldT (.node b l r s hh c m wt)) ∧ Only [b] w w' := by
  obtain ⟨n1, n2, n3, n4, n5⟩ := node_nodup hn
  have hb := lay_cells h
  have hl := h.2.1
  have hr := h.2.2
  obtain ⟨f1, f2, f3⟩ := hf
  obtain ⟨pl, hpl⟩ : ∃ v, ptrV l = v := ⟨_, rfl⟩
  obtain ⟨pr, hpr⟩ : ∃ v, ptrV r = v := ⟨_, rfl⟩
  rw [hpl, hpr] at hb
  have hhl := fun u (hu : Lay u l) => high_walk l u hu
  have hhr := fun u (hu : Lay u r) => high_walk r u hu
  have hml := fun u (hu : Lay u l) => many_walk l u hu
  have hmr := fun u (hu : Lay u r) => many_walk r u hu
  have hfl := fun u (hu : Lay u l) => far_walk l u hu
  have hfr := fun u (hu : Lay u r) => far_walk r u hu
  rw [hpl] at hhl hml hfl
  rw [hpr] at hhr hmr hfr
  obtain ⟨Hl, hHl⟩ : ∃ v, highT l = v := ⟨_, rfl⟩
  obtain ⟨Hr, hHr⟩ : ∃ v, highT r = v := ⟨_, rfl⟩
  obtain ⟨Cl, hCl⟩ : ∃ v, manyT l = v := ⟨_, rfl⟩
  obtain ⟨Cr, hCr⟩ : ∃ v, manyT r = v := ⟨_, rfl⟩
  obtain ⟨Fl, hFl⟩ : ∃ v, farT l = v := ⟨_, rfl⟩
  obtain ⟨Fr, hFr⟩ : ∃ v, farT r = v := ⟨_, rfl⟩
  rw [hHl, hHr] at f1
  rw [hCl] at f2
  rw [hCl, hCr] at f3
  simp only [hHl] at hhl
  simp only [hHr] at hhr
  simp only [hCl] at hml
  simp only [hCr] at hmr
  simp only [hFl] at hfl
  simp only [hFr] at hfr
  obtain ⟨MH, hMH⟩ : ∃ v, max Hl Hr = v := ⟨_, rfl⟩
  have hmax2 : ∀ (ts : Array TypeId) (t : TypeId) (w : World), (Builtin.max_ ts t #[.int .i64 Hl, .int .i64 Hr]).run Try.prog w = .ok (.int .i64 MH) w := by
    intro ts t w
    rw [run_max_int2]; congr 2; rw [← hMH]; split <;> omega
  obtain ⟨MF, hMF⟩ : ∃ v, max (max s.b Fl) Fr = v := ⟨_, rfl⟩
  have hmax3 : ∀ (ts : Array TypeId) (t : TypeId) (w : World), (Builtin.max_ ts t #[.int .i64 s.b, .int .i64 Fl, .int .i64 Fr]).run Try.prog w = .ok (.int .i64 MF) w := by
    intro ts t w
    rw [run_max_int3]; congr 2; rw [← hMF]; split <;> split <;> omega
  rw [hMH] at f1
  have c1 := cell_of_heap hb 1
  have c3 := cell_of_heap hb 3
  have c4 := cell_of_heap hb 4
  have g5 := frozen_of_heap hb 5
  have c5 := cell_of_heap hb 5
  have g6 := frozen_of_heap hb 6
  have c6 := cell_of_heap hb 6
  have g7 := frozen_of_heap hb 7
  have c7 := cell_of_heap hb 7
  have HB := Lib.hid hb
  have HL := Lib.hid hl
  have HR := Lib.hid hr
  have HHL := Lib.hid hhl
  have HHR := Lib.hid hhr
  have HML := Lib.hid hml
  have HMR := Lib.hid hmr
  have HFL := Lib.hid hfl
  have HFR := Lib.hid hfr
  have HE := Lib.hid (And.intro hHl (And.intro hHr (And.intro hCl (And.intro hCr (And.intro hFl (And.intro hFr (And.intro hMH (And.intro hMF (And.intro hpl hpr)))))))))
  clear hb hl hr h hhl hhr hml hmr hfl hfr hHl hHr hCl hCr hFl hFr hMH hMF hpl hpr
  go_enter Try.func55, Try.ntmps55
  go_upto_region 1 with (fail)
  go_quiet (fail)
  obtain ⟨wa, hwa⟩ : ∃ wa, w.drewN nq = wa := ⟨_, rfl⟩
  have hga : w.grownBy wa none := hwa ▸ grownBy_drewN (grownBy_refl w none) nq
  have hba : wa.heap[b]? = _ := grownBy_heap hga HB.out nofun
  rw [hwa]
  have HL2 := Lib.hid (HL.out.kept hga)
  have HR2 := Lib.hid (HR.out.kept hga)
  have HBA := Lib.hid hba
  have HOA := Lib.hid (Only.grown (B := [b]) hga nofun)
  clear c1 c3 c4 g5 c5 g6 c6 g7 c7
  have c1 := cell_of_heap hba 1
  have c3 := cell_of_heap hba 3
  have c4 := cell_of_heap hba 4
  have g5 := frozen_of_heap hba 5
  have c5 := cell_of_heap hba 5
  have g6 := frozen_of_heap hba 6
  have c6 := cell_of_heap hba 6
  have g7 := frozen_of_heap hba 7
  have c7 := cell_of_heap hba 7
  clear hwa hga hba
  go_wp2_with fail
  refine (HHL.out _ HL2.out).mono ?_
  rintro e u1 ⟨rfl, eu⟩
  have eu := eu.symm
  subst eu
  go_wp2_with fail
  refine (HHR.out _ HR2.out).mono ?_
  rintro e u2 ⟨rfl, eu⟩
  have eu := eu.symm
  subst eu
  have ho1 : Only [b] w (wa.setCell ⟨b, 5, none⟩ (.int .i64 (1 + MH))) := HOA.out.setCell (p := ⟨b, 5, none⟩) (.inl (by simp)) _
  have hs1 := heap_setCell HBA.out 5 (.int .i64 (1 + MH))
  have HL3 := Lib.hid (HL.out.only ho1 (fun x hx hm => n1 x hx (List.mem_singleton.1 hm)))
  have HR3 := Lib.hid (HR.out.only ho1 (fun x hx hm => n2 x hx (List.mem_singleton.1 hm)))
  have HS1 := Lib.hid hs1
  have HO1 := Lib.hid ho1
  clear ho1 hs1
  go_wp2_with fail
  refine (HML.out _ (HL3.out.same rfl)).mono ?_
  rintro e u1 ⟨rfl, eu⟩
  have eu := eu.symm
  subst eu
  go_wp2_with fail
  refine (HMR.out _ (HR3.out.same rfl)).mono ?_
  rintro e u1 ⟨rfl, eu⟩
  have eu := eu.symm
  subst eu
  have ho2 := HO1.out.setCell (p := ⟨b, 6, none⟩) (.inl (by simp)) (.int .i64 (1 + Cl + Cr))
  have hs2 := heap_setCell HS1.out 6 (.int .i64 (1 + Cl + Cr))
  have HL4 := Lib.hid (HL.out.only ho2 (fun x hx hm => n1 x hx (List.mem_singleton.1 hm)))
  have HR4 := Lib.hid (HR.out.only ho2 (fun x hx hm => n2 x hx (List.mem_singleton.1 hm)))
  have HS2 := Lib.hid hs2
  have HO2 := Lib.hid ho2
  clear ho2 hs2
  go_upto_region 4 with (fail)
  obtain ⟨wb, hwb⟩ : ∃ wb, (wa.setCell ⟨b, 5, none⟩ (.int .i64 (1 + MH))).setCell ⟨b, 6, none⟩ (.int .i64 (1 + Cl + Cr)) = wb := ⟨_, rfl⟩
  have hs2 := HS2.out
  have ho2 := HO2.out
  have hl4 := HL4.out
  have hr4 := HR4.out
  rw [hwb] at hs2 ho2 hl4 hr4 ⊢
  have hs3 := heap_setCell hs2 7 (.int .i64 MF)
  have ho3 := ho2.setCell (p := ⟨b, 7, none⟩) (.inl (by simp)) (.int .i64 MF)
  have HS3 := Lib.hid hs3
  have HO3 := Lib.hid ho3
  have HL5 := Lib.hid (HL.out.only ho3 (fun x hx hm => n1 x hx (List.mem_singleton.1 hm)))
  have HR5 := Lib.hid (HR.out.only ho3 (fun x hx hm => n2 x hx (List.mem_singleton.1 hm)))
  clear c1 c3 c4 g5 c5 g6 c6 g7 c7
  have c1 := cell_of_heap hs2 1
  have g7 := frozen_of_heap hs2 7
  have c7 := cell_of_heap hs2 7
  have HL6 := Lib.hid (hl4.same (w' := wb.drew) rfl)
  have HR6 := Lib.hid (hr4.same (w' := wb.drew) rfl)
  clear hwb hs2 ho2 hs3 ho3 hl4 hr4
  refine region_pre 13 (fun u => u = wb.drew) (by kernel_rfl) rfl (fun hHeld => ?_)
  refine pre_free 0 (v := ?_) rfl (by kernel_rfl) (by kernel_rfl) (by kernel_rfl) (by kernel_rfl) (fun _ _ _ h => h) (by rfl) (fun u => ?_) (by assumption) ?_
  rotate_left
  focus (go_simp; (try with_reducible rfl); done)
  try simp only [Act.put, List.setIfInBounds_toArray, List.set_cons_zero, List.set_cons_succ]
  refine pre_free 1 (v := ?_) rfl (by kernel_rfl) (by kernel_rfl) (by kernel_rfl) (by kernel_rfl) (fun _ _ _ h => h) (by rfl) (fun u => ?_) (by assumption) ?_
  rotate_left
  focus (go_simp; (try with_reducible rfl); done)
  try simp only [Act.put, List.setIfInBounds_toArray, List.set_cons_zero, List.set_cons_succ]
  refine pre_free 2 (v := ?_) rfl (by kernel_rfl) (by kernel_rfl) (by kernel_rfl) (by kernel_rfl) (fun _ _ _ h => h) (by rfl) (fun u => ?_) (by assumption) ?_
  rotate_left
  focus (go_simp; (try with_reducible rfl); done)
  try simp only [Act.put, List.setIfInBounds_toArray, List.set_cons_zero, List.set_cons_succ]
  refine pre_free 3 (v := ?_) rfl (by kernel_rfl) (by kernel_rfl) (by kernel_rfl) (by kernel_rfl) (fun _ _ _ h => h) (by rfl) (fun u => ?_) (by assumption) ?_
  rotate_left
  focus (go_simp; (try with_reducible rfl); done)
  try simp only [Act.put, List.setIfInBounds_toArray, List.set_cons_zero, List.set_cons_succ]
  refine pre_free 4 (v := ?_) rfl (by kernel_rfl) (by kernel_rfl) (by kernel_rfl) (by kernel_rfl) (fun _ _ _ h => h) (by rfl) (fun u => ?_) (by assumption) ?_
  rotate_left
  focus (go_simp; (try with_reducible rfl); done)
  try simp only [Act.put, List.setIfInBounds_toArray, List.set_cons_zero, List.set_cons_succ]
  refine pre_load 5 (v := ?_) rfl (by kernel_rfl) (by kernel_rfl) (by kernel_rfl) (by kernel_rfl) (fun _ _ _ h => h) (by rfl) (fun u hu => ?_) (by assumption) ?_
  rotate_left
  focus ((try dsimp only at hu); subst hu; go_simp; (try with_reducible rfl); done)
  try simp only [Act.put, List.setIfInBounds_toArray, List.set_cons_zero, List.set_cons_succ]
  refine pre_free 6 (v := ?_) rfl (by kernel_rfl) (by kernel_rfl) (by kernel_rfl) (by kernel_rfl) (fun _ _ _ h => h) (by rfl) (fun u => ?_) (by assumption) ?_
  rotate_left
  focus (go_simp; (try with_reducible rfl); done)
  try simp only [Act.put, List.setIfInBounds_toArray, List.set_cons_zero, List.set_cons_succ]
  refine pre_free 8 (v := ?_) rfl (by kernel_rfl) (by kernel_rfl) (by kernel_rfl) (by kernel_rfl) (fun _ _ _ h => h) (by rfl) (fun u => ?_) (by assumption) ?_
  rotate_left
  focus (go_simp; (try with_reducible rfl); done)
  try simp only [Act.put, List.setIfInBounds_toArray, List.set_cons_zero, List.set_cons_succ]
  refine pre_one 7 (by kernel_rfl) (by kernel_rfl) rfl (fun K hK => ?_)
  go_simp
  go_at_call 59
  refine (HFL.out _ HL6.out).mono ?_
  rintro e u1 ⟨rfl, eu⟩
  have eu := eu.symm
  subst eu
  try go_simp
  refine hK.out _ _ (by rfl) (fun hHeld7 => ?_)
  clear hK K
  try simp only [Act.put, List.setIfInBounds_toArray, List.set_cons_zero, List.set_cons_succ]
  refine pre_one 9 (by kernel_rfl) (by kernel_rfl) rfl (fun K hK => ?_)
  go_simp
  go_at_call 59
  refine (HFR.out _ HR6.out).mono ?_
  rintro e u1 ⟨rfl, eu⟩
  have eu := eu.symm
  subst eu
  try go_simp
  refine hK.out _ _ (by rfl) (fun hHeld9 => ?_)
  clear hK K
  try simp only [Act.put, List.setIfInBounds_toArray, List.set_cons_zero, List.set_cons_succ]
  refine pre_free 10 (v := ?_) rfl (by kernel_rfl) (by kernel_rfl) (by kernel_rfl) (by kernel_rfl) (fun _ _ _ h => h) (by rfl) (fun u => ?_) (by assumption) ?_
  rotate_left
  focus (go_simp; (try with_reducible rfl); done)
  try simp only [Act.put, List.setIfInBounds_toArray, List.set_cons_zero, List.set_cons_succ]
  refine pre_free 11 (v := ?_) rfl (by kernel_rfl) (by kernel_rfl) (by kernel_rfl) (by kernel_rfl) (fun _ _ _ h => h) (by rfl) (fun u => ?_) (by assumption) ?_
  rotate_left
  focus (go_simp; (try with_reducible rfl); done)
  try simp only [Act.put, List.setIfInBounds_toArray, List.set_cons_zero, List.set_cons_succ]
  refine pre_free 12 (v := ?_) rfl (by kernel_rfl) (by kernel_rfl) (by kernel_rfl) (by kernel_rfl) (fun _ _ _ h => h) (by rfl) (fun u => ?_) (by assumption) ?_
  rotate_left
  focus (go_simp; (try with_reducible rfl); done)
  try simp only [Act.put, List.setIfInBounds_toArray, List.set_cons_zero, List.set_cons_succ]
  refine pre_last (by kernel_rfl) rfl (fun K hK => ?_)
  go_simp
  refine hK.out _ _ ?_
  clear hK K
  try simp only [Act.put, List.setIfInBounds_toArray, List.set_cons_zero, List.set_cons_succ]
  refine aw_done (by kernel_rfl) ?_
  go_wp2_with fail
  go_ret
  obtain ⟨e1, e2, e3, e4, e5, e6, e7, e8, e9, e10⟩ := HE.out
  refine ⟨rfl, ⟨?_, HL5.out.same rfl, HR5.out.same rfl⟩, HO3.out.drew⟩
  have := HS3.out
  unfold nodeC
  rw [e1, e2, e3, e4, e5, e6, e7, e8, e9, e10]
  exact this
end Go.Proofs.Ytijpienjejfmiaa
