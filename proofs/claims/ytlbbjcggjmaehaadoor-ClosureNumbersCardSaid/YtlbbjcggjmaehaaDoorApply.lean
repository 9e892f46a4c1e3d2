/-
  rule.Apply: the walk. Conditions: a word, a rule's parts not too long; unicode/utf8's two tables as they are laid.
-/
import Derived.Test.YtlbbjcggjmaehaaDoorRule
namespace Go.Proofs.YtlbbjcggjmaehaaDoor
open Go Go.RowKit Go.Maps

theorem cat_wd (x y : Wd) : (⟨x.toArray⟩ : ByteArray) ++ ⟨y.toArray⟩ = ⟨(x ++ y).toArray⟩ := by
  apply ByteArray.ext
  simp [ByteArray.data_append]

theorem wd_full {x : Wd} (h : ¬ x = []) : (⟨x.toArray⟩ : ByteArray).toList.isEmpty = false := by
  rw [ByteArray.toList_eq]
  cases x with
  | nil => exact absurd rfl h
  | cons a t => rfl

theorem wd_ne {x : Wd} (h : ¬ x = []) : ¬ (⟨x.toArray⟩ : ByteArray) = ⟨#[]⟩ := fun e => h (by have := congrArg ByteArray.data e; simpa using this)

set_option maxRecDepth 100000 in
set_option maxHeartbeats 1000000 in
theorem apply_walk (r : Ru) (word : Wd) (w : World) (hw : word.length ≤ 100000) (hr : RuAt w r) (hT : Lib.Utf8Tabs 0 1 w) :
    Calls Tryd.prog 38 #[r.val, .string ⟨word.toArray⟩] w (OptRes (applyS r word) w) := by
  have hap := applies_walk r word
  obtain ⟨pre, flag, cross, strip, add, C, cap, cond⟩ := r
  have hbox := World.grownBy_alloc w (.cells #[.bool pre, .int .i64 flag, .bool cross, .string ⟨strip.toArray⟩, .string ⟨add.toArray⟩, .slice C cond.length cap] 51) none
  have hob := heap_alloc_new w (.cells #[.bool pre, .int .i64 flag, .bool cross, .string ⟨strip.toArray⟩, .string ⟨add.toArray⟩, .slice C cond.length cap] 51 (0, 0))
  have hA := hap _ hw (hr.kept hbox) (tabs_kept hT hbox)
  have hs1 : strip.length ≤ 100000 := hr.2.strip
  have hs2 : add.length ≤ 100000 := hr.2.add
  unfold Ru.val at hA ⊢
  simp only at hA ⊢
  obtain ⟨n, hn⟩ : ∃ n, cond.length = n := ⟨_, rfl⟩
  obtain ⟨ans, hans⟩ : ∃ ans, appliesS ⟨pre, flag, cross, strip, add, C, cap, cond⟩ word = ans := ⟨_, rfl⟩
  rw [hn] at hbox hob
  rw [hn, hans] at hA
  rw [hn]
  obtain ⟨res, hres⟩ : ∃ res, applyS ⟨pre, flag, cross, strip, add, C, cap, cond⟩ word = res := ⟨_, rfl⟩
  rw [hres]
  have hr1 : res = if ans = true ∧ (if pre then add ++ word.drop strip.length else word.take (word.length - strip.length) ++ add) ≠ [] then some (if pre then add ++ word.drop strip.length else word.take (word.length - strip.length) ++ add) else none := by
    rw [← hres]; unfold applyS; rw [hans]; rfl
  have hpf : ans = true → if pre then strip.isPrefixOf word = true else strip.isSuffixOf word = true := by
    intro h
    rw [← hans] at h
    unfold appliesS at h
    split at h
    · cases h
    · cases pre
      · rw [if_neg Bool.false_ne_true] at h ⊢
        exact (Bool.and_eq_true _ _ ▸ h).1
      · rw [if_pos rfl] at h ⊢
        exact (Bool.and_eq_true _ _ ▸ h).1
  have HB := Lib.hid hbox
  have HOB := Lib.hid hob
  have HA := Lib.hid hA
  have HR1 := Lib.hid hr1
  have HPF := Lib.hid hpf
  clear hbox hob hA hr1 hpf hres hans hn hr hT hap
  go_enter Tryd.func38, Tryd.ntmps38
  have hob1 := HOB.out
  have c0 := cell_of_heap hob1 0
  have c1 := cell_of_heap hob1 1
  have c2 := cell_of_heap hob1 2
  have c3 := cell_of_heap hob1 3
  have c4 := cell_of_heap hob1 4
  have c5 := cell_of_heap hob1 5
  clear hob1
  go_wp2_with fail
  refine HA.out.mono ?_
  rintro e w1 ⟨rfl, hg1⟩
  clear c0 c1 c2 c3 c4 c5
  have hob1 := grownBy_heap hg1 HOB.out nofun
  have c0 := cell_of_heap hob1 0
  have c3 := cell_of_heap hob1 3
  have c4 := cell_of_heap hob1 4
  have HG1 := Lib.hid hg1
  clear hob1 hg1 HA
  cases ans with
  | false =>
    have hr := HR1.out
    rw [if_neg (by simp)] at hr
    subst hr
    go_wp2_with fail
    go_ret2
    exact ⟨grownBy_trans HB.out HG1.out nofun, .inr ⟨[], rfl, rfl, rfl⟩⟩
  | true =>
    obtain ⟨T1, hT1⟩ : ∃ T1, (if strip.isSuffixOf word then word.take (word.length - strip.length) else word) = T1 := ⟨_, rfl⟩
    have hl1 : T1.length ≤ 100000 := by
      rw [← hT1]; split
      · rw [List.length_take]; omega
      · exact hw
    have htr := fun u => trims_walk word strip u (by omega)
    rw [hT1] at htr
    have HTR := Lib.hid htr
    have hcat : ¬ 9223372036854775807 < T1.length + add.length := by omega
    have hcw := cat_wd T1 add
    obtain ⟨X1, hX1⟩ : ∃ X1, (⟨T1.toArray⟩ : ByteArray) ++ ⟨add.toArray⟩ = X1 := ⟨_, rfl⟩
    rw [hX1] at hcw
    have HT1 := Lib.hid hT1
    have HCW := Lib.hid hcw
    clear hT1 htr hcw
    cases pre with
    | false =>
      have hsx := HPF.out rfl
      rw [if_neg (by decide)] at hsx
      have hT1 := HT1.out
      rw [if_pos hsx] at hT1
      have hr := HR1.out
      simp only [Bool.false_eq_true, if_false, true_and] at hr
      rw [hT1] at hr
      have HR := Lib.hid hr
      clear hsx hT1 hr HR1
      go_upto_region 3 with (fail)
      go_quiet (first | (go_at_call 53; exact Calls.quiet_of_same (HTR.out _)))
      by_cases hne : T1 ++ add = []
      · have hx : X1 = ⟨#[]⟩ := by rw [HCW.out, hne]
        subst hx
        have hr := HR.out
        rw [if_neg (by simp [hne])] at hr
        subst hr
        clear hX1
        go_wp2_with fail
        go_ret2
        exact ⟨grownBy_drewN (grownBy_trans HB.out HG1.out nofun) _, .inr ⟨[], rfl, rfl, rfl⟩⟩
      · have hx : ¬ X1 = ⟨#[]⟩ := by rw [HCW.out]; exact wd_ne hne
        have hxe : X1.toList.isEmpty = false := by rw [HCW.out]; exact wd_full hne
        have hr := HR.out
        rw [if_pos hne] at hr
        subst hr
        have HHX := Lib.hid hX1
        clear hX1
        go_wp2_with fail
        go_ret2
        exact ⟨grownBy_drewN (grownBy_trans HB.out HG1.out nofun) _, .inl ⟨_, rfl, by rw [HCW.out]; rfl⟩⟩
    | true =>
      have hsx := HPF.out rfl
      rw [if_pos rfl] at hsx
      have htp := fun u => trimp_walk word strip u
      rw [if_pos hsx] at htp
      obtain ⟨T2, hT2⟩ : ∃ T2, word.drop strip.length = T2 := ⟨_, rfl⟩
      rw [hT2] at htp
      have hl2 : T2.length ≤ 100000 := by rw [← hT2, List.length_drop]; omega
      have hcat2 : ¬ 9223372036854775807 < add.length + T2.length := by omega
      have hcw2 := cat_wd add T2
      obtain ⟨X2, hX2⟩ : ∃ X2, (⟨add.toArray⟩ : ByteArray) ++ ⟨T2.toArray⟩ = X2 := ⟨_, rfl⟩
      rw [hX2] at hcw2
      have hr := HR1.out
      simp only [if_true, true_and] at hr
      rw [hT2] at hr
      have HR := Lib.hid hr
      have HTP := Lib.hid htp
      have HCW2 := Lib.hid hcw2
      clear hsx hr HR1 htp hcw2 hT2
      go_upto_region 3 with (fail)
      go_quiet (first | (go_at_call 53; exact Calls.quiet_of_same (HTR.out _)))
      obtain ⟨wq, hwq⟩ : ∃ wq, w1.drewN nq = wq := ⟨_, rfl⟩
      have d0 := (show (w1.drewN nq).cell? _ = _ from c0)
      rw [hwq] at d0
      have d3 := (show (w1.drewN nq).cell? _ = _ from c3)
      rw [hwq] at d3
      have d4 := (show (w1.drewN nq).cell? _ = _ from c4)
      rw [hwq] at d4
      have HG2 := Lib.hid (show w.grownBy wq none by rw [← hwq]; exact grownBy_drewN (grownBy_trans HB.out HG1.out nofun) nq)
      rw [hwq]
      clear hwq c0 c3 c4
      go_upto_region 5 with (fail)
      go_quiet (first | (go_at_call 54; exact Calls.quiet_of_same (HTP.out _)))
      by_cases hne : add ++ T2 = []
      · have hx : X2 = ⟨#[]⟩ := by rw [HCW2.out, hne]
        subst hx
        have hr := HR.out
        rw [if_neg (by simp [hne])] at hr
        subst hr
        clear hX1 hX2
        go_wp2_with fail
        go_ret2
        exact ⟨grownBy_drewN HG2.out _, .inr ⟨[], rfl, rfl, rfl⟩⟩
      · have hx : ¬ X2 = ⟨#[]⟩ := by rw [HCW2.out]; exact wd_ne hne
        have hxe : X2.toList.isEmpty = false := by rw [HCW2.out]; exact wd_full hne
        have hr := HR.out
        rw [if_pos hne] at hr
        subst hr
        clear hX1 hX2
        go_wp2_with fail
        go_ret2
        exact ⟨grownBy_drewN HG2.out _, .inl ⟨_, rfl, by rw [HCW2.out]; rfl⟩⟩
end Go.Proofs.YtlbbjcggjmaehaaDoor
