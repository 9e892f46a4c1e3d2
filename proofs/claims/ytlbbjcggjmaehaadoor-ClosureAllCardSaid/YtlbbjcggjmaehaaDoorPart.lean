/-
  ref10.part: the walk. Conditions: a text of at most 100000 bytes.
-/
import Derived.Test.YtlbbjcggjmaehaaDoorFlag
namespace Go.Proofs.YtlbbjcggjmaehaaDoor
open Go Go.RowKit Go.Maps

theorem wd_list (x : Wd) : (⟨x.toArray⟩ : ByteArray).toList = x := by rw [ByteArray.toList_eq]

set_option maxRecDepth 100000 in
set_option maxHeartbeats 1000000 in
theorem part_walk (s : Wd) (w : World) (hl : s.length ≤ 100000) : Calls Tryd.prog 35 #[.string ⟨s.toArray⟩] w fun e w' => e = .returned (.tuple #[.string ⟨(partV s).toArray⟩, .bool (partB s)]) ∧ w.grownBy w' none := by
  by_cases h0 : s = [48]
  · subst h0
    have e1 : partV [48] = [] := rfl
    have e2 : partB [48] = true := rfl
    rw [e1, e2]
    go_enter Tryd.func35, Tryd.ntmps35
    go_wp2_with fail
    go_ret2
    exact ⟨rfl, grownBy_refl _ none⟩
  · have e1 : partV s = s := by unfold partV; rw [if_neg h0]
    have e2 : partB s = (!decide (s = []) && decide (s.length ≤ 20) && (codesB s).isSome) := by unfold partB; rw [if_neg h0]
    rw [e1, e2]
    have hv := valid01_walk s w (by omega)
    obtain ⟨ok, hok⟩ : ∃ ok, (codesB s).isSome = ok := ⟨_, rfl⟩
    rw [hok] at hv ⊢
    have hne := wd_ne2 h0
    have hne2 : ¬ s.toArray = #[48] := fun e => h0 (by simpa using congrArg Array.toList e)
    have hbe : (s == [48]) = false := by rw [beq_eq_false_iff_ne]; exact h0
    have hsz := size_wd s
    obtain ⟨L, hL⟩ : ∃ L, s.length = L := ⟨_, rfl⟩
    rw [hL] at hsz ⊢
    have HV := Lib.hid hv
    by_cases hn : s = []
    · subst hn
      clear hv
      go_enter Tryd.func35, Tryd.ntmps35
      go_wp2_with fail
      go_ret2
      exact ⟨by simp, grownBy_refl _ none⟩
    · have hfull := wd_full hn
      have hnn := wd_ne hn
      rw [decide_eq_false hn]
      obtain ⟨S, hS⟩ : ∃ S : ByteArray, (⟨s.toArray⟩ : ByteArray) = S := ⟨_, rfl⟩
      rw [hS] at hfull hnn HV hsz hne ⊢
      have hbe2 : (S.toList == [48]) = false := by rw [← hS, wd_list]; exact hbe
      clear hv hok hS hn h0 e1 e2 hne2 hbe
      rcases Nat.lt_or_ge 20 L with hb | hb
      · have hbi : decide ((L : Int) ≤ (20 : Int)) = false := decide_eq_false (by omega)
        rw [decide_eq_false (show ¬ L ≤ 20 by omega)]
        go_enter Tryd.func35, Tryd.ntmps35
        go_wp2_with fail
        go_ret2
        exact ⟨by simp, grownBy_refl _ none⟩
      · have hbi : decide ((L : Int) ≤ (20 : Int)) = true := decide_eq_true (by omega)
        rw [decide_eq_true hb]
        go_enter Tryd.func35, Tryd.ntmps35
        go_wp2_with fail
        refine HV.out.mono ?_
        rintro e w1 ⟨rfl, hg⟩
        have HG := Lib.hid hg
        clear hg
        go_wp2_with fail
        go_ret2
        exact ⟨by simp, HG.out⟩
end Go.Proofs.YtlbbjcggjmaehaaDoor
