/-
  ref10.Apply: the walk. Conditions: a word, a rule's parts not too long.
-/
import Derived.Test.YtlbbjcggjmaehaaDoorRef10
namespace Go.Proofs.YtlbbjcggjmaehaaDoor
open Go Go.RowKit Go.Maps

theorem applies_len {r : Ru} {word : Wd} (h : appliesS r word = true) : r.strip.length ≤ word.length := by
  unfold appliesS at h
  split at h
  · cases h
  · split at h
    · have := (Bool.and_eq_true _ _ ▸ h).1
      rw [prefix_is] at this
      exact of_decide_eq_true (Bool.and_eq_true _ _ ▸ this).1
    · have := (Bool.and_eq_true _ _ ▸ h).1
      rw [suffix_is] at this
      exact of_decide_eq_true (Bool.and_eq_true _ _ ▸ this).1

set_option maxRecDepth 100000 in
set_option maxHeartbeats 1000000 in
theorem rapply_walk (r : Ru) (word : Wd) (w : World) (hw : word.length ≤ 100000) (hr : RuAt w r) :
    Calls Tryd.prog 26 #[r.val, .string ⟨word.toArray⟩] w (OptRes (applyS r word) w) := by
  have hal := applies_len (r := r) (word := word)
  obtain ⟨pre, flag, cross, strip, add, C, cap, cond⟩ := r
  obtain ⟨hcond, hsm⟩ := hr
  obtain ⟨n, hn⟩ : ∃ n, cond.length = n := ⟨_, rfl⟩
  have hbox := World.grownBy_alloc w (.cells #[.bool pre, .int .i64 flag, .bool cross, .string ⟨strip.toArray⟩, .string ⟨add.toArray⟩, .slice C n cap] 51) none
  have hob := heap_alloc_new w (.cells #[.bool pre, .int .i64 flag, .bool cross, .string ⟨strip.toArray⟩, .string ⟨add.toArray⟩, .slice C n cap] 51 (0, 0))
  have hcd1 := hcond.kept hbox
  have hsm1 : n ≤ 100000 := by rw [← hn]; exact hsm.cond
  have hset := hsm.set
  have hs1 : strip.length ≤ 100000 := hsm.strip
  have hs2 : add.length ≤ 100000 := hsm.add
  simp only at hcd1 hset hal
  have hval : (⟨pre, flag, cross, strip, add, C, cap, cond⟩ : Ru).val = .agg #[.bool pre, .int .i64 flag, .bool cross, .string ⟨strip.toArray⟩, .string ⟨add.toArray⟩, .slice C n cap] := by unfold Ru.val; rw [hn]
  obtain ⟨ans, hans⟩ : ∃ ans, appliesS ⟨pre, flag, cross, strip, add, C, cap, cond⟩ word = ans := ⟨_, rfl⟩
  obtain ⟨res, hres⟩ : ∃ res, applyS ⟨pre, flag, cross, strip, add, C, cap, cond⟩ word = res := ⟨_, rfl⟩
  have hr1 : res = if ans = true ∧ (if pre then add ++ word.drop strip.length else word.take (word.length - strip.length) ++ add) ≠ [] then some (if pre then add ++ word.drop strip.length else word.take (word.length - strip.length) ++ add) else none := by
    rw [← hres]; unfold applyS; rw [hans]; rfl
  rw [hval, hres]
  rw [hans] at hal
  obtain ⟨lw, hlw⟩ : ∃ lw, word.length = lw := ⟨_, rfl⟩
  obtain ⟨ls, hls⟩ : ∃ ls, strip.length = ls := ⟨_, rfl⟩
  have z1 := size_wd word
  have z2 := size_wd strip
  rw [hlw] at z1 hal hr1 hw
  rw [hls] at z2 hal hr1 hs1
  have HW := Lib.hid hlw
  have HLS := Lib.hid hls
  have HB := Lib.hid hbox
  have HOB := Lib.hid hob
  have HC := Lib.hid hcd1
  have HSET := Lib.hid hset
  have HANS := Lib.hid hans
  have HN := Lib.hid hn
  have HR1 := Lib.hid hr1
  have HAL := Lib.hid hal
  clear hbox hob hcd1 hset hans hcond hsm hval hn hres hr1 hal hlw hls
  go_enter Tryd.func26, Tryd.ntmps26
  go_wp2_with fail
  refine (codes_walk word _ (by rw [HW.out]; omega)).mono ?_
  rintro e w1 ⟨hg1, hcr⟩
  have hob1 := grownBy_heap hg1 HOB.out nofun
  have c0 := cell_of_heap hob1 0
  have c3 := cell_of_heap hob1 3
  have c5 := cell_of_heap hob1 5
  have HO1 := Lib.hid hob1
  have HG1 := Lib.hid hg1
  clear hg1 hob1
  rcases hcr with ⟨cs, A, c, hcs, rfl, hown⟩ | ⟨hcs, rfl⟩
  · have hcl := codesB_len _ word cs (Nat.le_refl _) hcs
    obtain ⟨m, hm⟩ : ∃ m, cs.length = m := ⟨_, rfl⟩
    rw [HW.out] at hcl
    rw [hm] at hown hcl ⊢
    have hsl := Sl.of_own hown (by intro x hx; simp only [intCells, List.mem_map] at hx; obtain ⟨_, _, rfl⟩ := hx; rfl)
    have hmc : m ≤ c := by
      rcases hown.2 with ⟨e, h0⟩ | ⟨g, cap', cur, hv, _, _, h1, _⟩
      · cases e; omega
      · cases hv; exact h1
    have HSL := Lib.hid hsl
    have HM := Lib.hid hm
    have ha : appliesS ⟨pre, flag, cross, strip, add, C, cap, cond⟩ word = if pre then strip.isPrefixOf word && startsS cond cs else strip.isSuffixOf word && endsS cond cs := by unfold appliesS; rw [hcs]
    rw [HANS.out] at ha
    clear hown hsl hm hcs HANS
    cases pre with
    | true =>
      rw [if_pos rfl] at ha
      obtain ⟨pf, hpf⟩ : ∃ pf, strip.isPrefixOf word = pf := ⟨_, rfl⟩
      rw [hpf] at ha
      have HP := Lib.hid hpf
      have HA := Lib.hid ha
      clear hpf ha
      go_wp2_with fail
      refine (rpre_walk word strip w1).mono ?_
      rintro e w2 ⟨rfl, rfl⟩
      rw [HP.out]
      cases pf with
      | false =>
        have ha := HA.out
        rw [Bool.false_and] at ha
        have hr := HR1.out
        rw [ha, if_neg (by simp)] at hr
        subst hr
        go_wp2_with fail
        go_ret2
        exact ⟨grownBy_trans HB.out HG1.out nofun, .inr ⟨[], rfl, rfl, rfl⟩⟩
      | true =>
        have ha := HA.out
        rw [Bool.true_and] at ha
        have HA2 := Lib.hid ha
        clear ha
        go_wp2_with fail
        refine (rstarts_walk cond C n cap cs A m c w2 HN.out hsm1 HSET.out (HC.out.kept HG1.out) HM.out (by omega) HSL.out).mono ?_
        rintro e w3 ⟨rfl, hg3⟩
        rw [← HA2.out]
        clear c0 c3 c5
        have hob3 := grownBy_heap hg3 HO1.out nofun
        have c3 := cell_of_heap hob3 3
        have c4 := cell_of_heap hob3 4
        have HG3 := Lib.hid (grownBy_trans HB.out (grownBy_trans HG1.out hg3 nofun) nofun)
        clear hg3 hob3
        cases ans with
        | false =>
          have hr := HR1.out
          rw [if_neg (by simp)] at hr
          subst hr
          go_wp2_with fail
          go_ret2
          exact ⟨HG3.out, .inr ⟨[], rfl, rfl, rfl⟩⟩
        | true =>
          have hle := HAL.out rfl
          have hlei : (ls : Int) ≤ (lw : Int) := by omega
          obtain ⟨T2, hT2⟩ : ∃ T2, word.drop ls = T2 := ⟨_, rfl⟩
          have hex := slice_wd word ls lw
          rw [← HW.out, List.take_length, HW.out, hT2] at hex
          have hl2 : T2.length ≤ 100000 := by rw [← hT2, List.length_drop, HW.out]; omega
          have hcat2 : ¬ 9223372036854775807 < add.length + T2.length := by omega
          have hcw2 := cat_wd add T2
          obtain ⟨X2, hX2⟩ : ∃ X2, (⟨add.toArray⟩ : ByteArray) ++ ⟨T2.toArray⟩ = X2 := ⟨_, rfl⟩
          rw [hX2] at hcw2
          have hr := HR1.out
          simp only [if_true, true_and] at hr
          rw [hT2] at hr
          have HR := Lib.hid hr
          have HCW2 := Lib.hid hcw2
          clear hr HR1 hcw2 hT2 hle
          go_upto_region 8 with (fail)
          go_quiet (fail)
          by_cases hne : add ++ T2 = []
          · have hx : X2 = ⟨#[]⟩ := by rw [HCW2.out, hne]
            subst hx
            have hr := HR.out
            rw [if_neg (by simp [hne])] at hr
            subst hr
            clear hX2
            go_wp2_with fail
            go_ret2
            exact ⟨grownBy_drewN HG3.out _, .inr ⟨[], rfl, rfl, rfl⟩⟩
          · have hx : ¬ X2 = ⟨#[]⟩ := by rw [HCW2.out]; exact wd_ne hne
            have hxe : X2.toList.isEmpty = false := by rw [HCW2.out]; exact wd_full hne
            have hr := HR.out
            rw [if_pos hne] at hr
            subst hr
            clear hX2
            go_wp2_with fail
            go_ret2
            exact ⟨grownBy_drewN HG3.out _, .inl ⟨_, rfl, by rw [HCW2.out]; rfl⟩⟩
    | false =>
      rw [if_neg Bool.false_ne_true] at ha
      obtain ⟨pf, hpf⟩ : ∃ pf, strip.isSuffixOf word = pf := ⟨_, rfl⟩
      rw [hpf] at ha
      have HP := Lib.hid hpf
      have HA := Lib.hid ha
      clear hpf ha
      go_wp2_with fail
      refine (rsuf_walk word strip w1 (by rw [HW.out]; omega)).mono ?_
      rintro e w2 ⟨rfl, rfl⟩
      rw [HP.out]
      cases pf with
      | false =>
        have ha := HA.out
        rw [Bool.false_and] at ha
        have hr := HR1.out
        rw [ha, if_neg (by simp)] at hr
        subst hr
        go_wp2_with fail
        go_ret2
        exact ⟨grownBy_trans HB.out HG1.out nofun, .inr ⟨[], rfl, rfl, rfl⟩⟩
      | true =>
        have ha := HA.out
        rw [Bool.true_and] at ha
        have HA2 := Lib.hid ha
        clear ha
        go_wp2_with fail
        refine (rends_walk cond C n cap cs A m c w2 HN.out hsm1 HSET.out (HC.out.kept HG1.out) HM.out (by omega) hmc HSL.out).mono ?_
        rintro e w3 ⟨rfl, hg3⟩
        rw [← HA2.out]
        clear c0 c3 c5
        have hob3 := grownBy_heap hg3 HO1.out nofun
        have c3 := cell_of_heap hob3 3
        have c4 := cell_of_heap hob3 4
        have HG3 := Lib.hid (grownBy_trans HB.out (grownBy_trans HG1.out hg3 nofun) nofun)
        clear hg3 hob3
        cases ans with
        | false =>
          have hr := HR1.out
          rw [if_neg (by simp)] at hr
          subst hr
          go_wp2_with fail
          go_ret2
          exact ⟨HG3.out, .inr ⟨[], rfl, rfl, rfl⟩⟩
        | true =>
          have hle := HAL.out rfl
          obtain ⟨j, hj⟩ : ∃ j, lw - ls = j := ⟨_, rfl⟩
          have hji : (lw : Int) - (ls : Int) = (j : Int) := by omega
          have hjl : (j : Int) ≤ (lw : Int) := by omega
          obtain ⟨T2, hT2⟩ : ∃ T2, word.take j = T2 := ⟨_, rfl⟩
          have hex := slice_wd word 0 j
          rw [List.drop_zero, hT2] at hex
          have hl2 : T2.length ≤ 100000 := by rw [← hT2, List.length_take, HW.out]; omega
          have hcat2 : ¬ 9223372036854775807 < T2.length + add.length := by omega
          have hcw2 := cat_wd T2 add
          obtain ⟨X2, hX2⟩ : ∃ X2, (⟨T2.toArray⟩ : ByteArray) ++ ⟨add.toArray⟩ = X2 := ⟨_, rfl⟩
          rw [hX2] at hcw2
          have hr := HR1.out
          simp only [Bool.false_eq_true, if_false, true_and] at hr
          rw [hj, hT2] at hr
          have HR := Lib.hid hr
          have HCW2 := Lib.hid hcw2
          clear hr HR1 hcw2 hT2 hle hj
          go_upto_region 11 with (fail)
          go_quiet (fail)
          by_cases hne : T2 ++ add = []
          · have hx : X2 = ⟨#[]⟩ := by rw [HCW2.out, hne]
            subst hx
            have hr := HR.out
            rw [if_neg (by simp [hne])] at hr
            subst hr
            clear hX2
            go_wp2_with fail
            go_ret2
            exact ⟨grownBy_drewN HG3.out _, .inr ⟨[], rfl, rfl, rfl⟩⟩
          · have hx : ¬ X2 = ⟨#[]⟩ := by rw [HCW2.out]; exact wd_ne hne
            have hxe : X2.toList.isEmpty = false := by rw [HCW2.out]; exact wd_full hne
            have hr := HR.out
            rw [if_pos hne] at hr
            subst hr
            clear hX2
            go_wp2_with fail
            go_ret2
            exact ⟨grownBy_drewN HG3.out _, .inl ⟨_, rfl, by rw [HCW2.out]; rfl⟩⟩
  · have ha : appliesS ⟨pre, flag, cross, strip, add, C, cap, cond⟩ word = false := by unfold appliesS; rw [hcs]
    rw [HANS.out] at ha
    have hr := HR1.out
    rw [ha, if_neg (by simp)] at hr
    subst hr
    clear hcs
    go_wp2_with fail
    go_ret2
    exact ⟨grownBy_trans HB.out HG1.out nofun, .inr ⟨[], rfl, rfl, rfl⟩⟩
end Go.Proofs.YtlbbjcggjmaehaaDoor
