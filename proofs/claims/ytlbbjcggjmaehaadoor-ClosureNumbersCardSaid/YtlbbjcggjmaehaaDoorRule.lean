/-
  rule.Apply, rule.Both: the walks. Conditions: a word, a rule's parts not too long; unicode/utf8's two tables as they are laid.
-/
import Derived.Test.YtlbbjcggjmaehaaDoorEnds
import Derived.Test.YtlbbjcggjmaehaaDoorRunes
namespace Go.Proofs.YtlbbjcggjmaehaaDoor
open Go Go.RowKit Go.Maps

theorem prefix_walk (s p : Wd) (w : World) : Calls Tryd.prog 61 #[.string ⟨s.toArray⟩, .string ⟨p.toArray⟩] w fun e w' => e = .returned (.bool (p.isPrefixOf s)) ∧ w' = w := by
  simpa [Lib.hasPrefix] using Tryd.strings_HasPrefix ⟨s.toArray⟩ ⟨p.toArray⟩ w

theorem suffix_walk (s p : Wd) (w : World) (hs : s.length ≤ 1000000) : Calls Tryd.prog 63 #[.string ⟨s.toArray⟩, .string ⟨p.toArray⟩] w fun e w' => e = .returned (.bool (p.isSuffixOf s)) ∧ w' = w := by
  simpa [Lib.hasSuffix] using Tryd.strings_HasSuffix ⟨s.toArray⟩ ⟨p.toArray⟩ w (by rw [size_wd]; omega)

theorem trimp_walk (s p : Wd) (w : World) : Calls Tryd.prog 54 #[.string ⟨s.toArray⟩, .string ⟨p.toArray⟩] w fun e w' => e = .returned (.string ⟨(if p.isPrefixOf s then s.drop p.length else s).toArray⟩) ∧ w' = w := by
  simpa [Lib.trimPrefix, Lib.hasPrefix] using Tryd.strings_TrimPrefix ⟨s.toArray⟩ ⟨p.toArray⟩ w

theorem trims_walk (s p : Wd) (w : World) (hs : s.length ≤ 1000000) : Calls Tryd.prog 53 #[.string ⟨s.toArray⟩, .string ⟨p.toArray⟩] w fun e w' => e = .returned (.string ⟨(if p.isSuffixOf s then s.take (s.length - p.length) else s).toArray⟩) ∧ w' = w := by
  simpa [Lib.trimSuffix, Lib.hasSuffix] using Tryd.strings_TrimSuffix ⟨s.toArray⟩ ⟨p.toArray⟩ w (by rw [size_wd]; omega)

set_option maxRecDepth 100000 in
set_option maxHeartbeats 1000000 in
theorem applies_walk (r : Ru) (word : Wd) (w : World) (hw : word.length ≤ 100000) (hr : RuAt w r) (hT : Lib.Utf8Tabs 0 1 w) :
    Calls Tryd.prog 52 #[r.val, .string ⟨word.toArray⟩] w fun e w' => e = .returned (.bool (appliesS r word)) ∧ w.grownBy w' none := by
  obtain ⟨pre, flag, cross, strip, add, C, cap, cond⟩ := r
  obtain ⟨hcond, hsm⟩ := hr
  obtain ⟨n, hn⟩ : ∃ n, cond.length = n := ⟨_, rfl⟩
  have hbox := World.grownBy_alloc w (.cells #[.bool pre, .int .i64 flag, .bool cross, .string ⟨strip.toArray⟩, .string ⟨add.toArray⟩, .slice C n cap] 51) none
  have hob := heap_alloc_new w (.cells #[.bool pre, .int .i64 flag, .bool cross, .string ⟨strip.toArray⟩, .string ⟨add.toArray⟩, .slice C n cap] 51 (0, 0))
  have hT1 := tabs_kept hT hbox
  have hcd1 := hcond.kept hbox
  have hsm1 : n ≤ 100000 := by rw [← hn]; exact hsm.cond
  have hset := hsm.set
  simp only at hcd1 hset
  have hval : (⟨pre, flag, cross, strip, add, C, cap, cond⟩ : Ru).val = .agg #[.bool pre, .int .i64 flag, .bool cross, .string ⟨strip.toArray⟩, .string ⟨add.toArray⟩, .slice C n cap] := by unfold Ru.val; rw [hn]
  obtain ⟨ans, hans⟩ : ∃ ans, appliesS ⟨pre, flag, cross, strip, add, C, cap, cond⟩ word = ans := ⟨_, rfl⟩
  rw [hval, hans]
  have HB := Lib.hid hbox
  have HOB := Lib.hid hob
  have HT := Lib.hid hT1
  have HC := Lib.hid hcd1
  have HSET := Lib.hid hset
  have HANS := Lib.hid hans
  have HN := Lib.hid hn
  clear hbox hob hT1 hcd1 hset hans hcond hsm hval hT hn
  go_enter Tryd.func52, Tryd.ntmps52
  go_wp2_with fail
  refine (rcodes_walk word _ (by omega) HT.out).mono ?_
  rintro e w1 ⟨hg1, hres⟩
  have hob1 := grownBy_heap hg1 HOB.out nofun
  have c0 := cell_of_heap hob1 0
  have c3 := cell_of_heap hob1 3
  have c5 := cell_of_heap hob1 5
  have HG1 := Lib.hid hg1
  clear hg1 hob1
  rcases hres with ⟨cs, A, c, hcs, rfl, hown⟩ | ⟨hcs, rfl⟩
  · have hcl := codesB_len _ word cs (Nat.le_refl _) hcs
    obtain ⟨m, hm⟩ : ∃ m, cs.length = m := ⟨_, rfl⟩
    rw [hm] at hown hcl ⊢
    have hsl := Sl.of_own hown (by intro x hx; simp only [intCells, List.mem_map] at hx; obtain ⟨_, _, rfl⟩ := hx; rfl)
    have hmc : m ≤ c := by
      rcases hown.2 with ⟨e, h0⟩ | ⟨g, cap', cur, hv, _, _, h1, _⟩
      · cases e; omega
      · cases hv; exact h1
    have HSL := Lib.hid hsl
    have HM := Lib.hid hm
    have ha : appliesS ⟨pre, flag, cross, strip, add, C, cap, cond⟩ word = if pre then strip.isPrefixOf word && startsS cond cs else strip.isSuffixOf word && endsS cond cs := by unfold appliesS; rw [hcs]
    rw [HANS.out] at ha
    have HCS := Lib.hid hcs
    clear hown hsl hm hcs HANS
    cases pre with
    | true =>
      rw [if_pos rfl] at ha
      obtain ⟨pf, hpf⟩ : ∃ pf, strip.isPrefixOf word = pf := ⟨_, rfl⟩
      rw [hpf] at ha
      have HP := Lib.hid hpf
      have HA := Lib.hid ha
      clear hpf ha
      go_wp2_with fail
      refine (prefix_walk word strip w1).mono ?_
      rintro e w2 ⟨rfl, rfl⟩
      rw [HP.out]
      cases pf with
      | false =>
        have ha := HA.out
        rw [Bool.false_and] at ha
        subst ha
        go_wp2_with fail
        go_ret
        exact ⟨rfl, grownBy_trans HB.out HG1.out nofun⟩
      | true =>
        have ha := HA.out
        rw [Bool.true_and] at ha
        have HA2 := Lib.hid ha
        clear ha
        go_wp2_with fail
        refine (starts_walk cond C n cap cs A m c w2 HN.out hsm1 HSET.out (HC.out.kept HG1.out) HM.out (by omega) HSL.out).mono ?_
        rintro e w3 ⟨rfl, hg3⟩
        rw [← HA2.out]
        have HG3 := Lib.hid hg3
        clear hg3
        go_wp2_with fail
        go_ret
        exact ⟨rfl, grownBy_trans HB.out (grownBy_trans HG1.out HG3.out nofun) nofun⟩
    | false =>
      rw [if_neg (by decide)] at ha
      obtain ⟨pf, hpf⟩ : ∃ pf, strip.isSuffixOf word = pf := ⟨_, rfl⟩
      rw [hpf] at ha
      have HP := Lib.hid hpf
      have HA := Lib.hid ha
      clear hpf ha
      go_wp2_with fail
      refine (suffix_walk word strip w1 (by omega)).mono ?_
      rintro e w2 ⟨rfl, rfl⟩
      rw [HP.out]
      cases pf with
      | false =>
        have ha := HA.out
        rw [Bool.false_and] at ha
        subst ha
        go_wp2_with fail
        go_ret
        exact ⟨rfl, grownBy_trans HB.out HG1.out nofun⟩
      | true =>
        have ha := HA.out
        rw [Bool.true_and] at ha
        have HA2 := Lib.hid ha
        clear ha
        go_wp2_with fail
        refine (ends_walk cond C n cap cs A m c w2 HN.out hsm1 HSET.out (HC.out.kept HG1.out) HM.out (by omega) hmc HSL.out).mono ?_
        rintro e w3 ⟨rfl, hg3⟩
        rw [← HA2.out]
        have HG3 := Lib.hid hg3
        clear hg3
        go_wp2_with fail
        go_ret
        exact ⟨rfl, grownBy_trans HB.out (grownBy_trans HG1.out HG3.out nofun) nofun⟩
  · have ha : appliesS ⟨pre, flag, cross, strip, add, C, cap, cond⟩ word = false := by unfold appliesS; rw [hcs]
    rw [HANS.out] at ha
    subst ha
    clear hcs
    cases pre
    all_goals
      go_wp2_with fail
      go_ret
      exact ⟨rfl, grownBy_trans HB.out HG1.out nofun⟩
end Go.Proofs.YtlbbjcggjmaehaaDoor
