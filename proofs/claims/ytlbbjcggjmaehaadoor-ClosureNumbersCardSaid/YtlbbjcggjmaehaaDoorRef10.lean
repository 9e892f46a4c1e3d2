/-
  ref10.starts, ref10.ends, ref10.Apply: the walks. Conditions: a word, a rule's parts not too long.
-/
import Derived.Test.YtlbbjcggjmaehaaDoorBoth
import Derived.Test.YtlbbjcggjmaehaaDoorRef9
namespace Go.Proofs.YtlbbjcggjmaehaaDoor
open Go Go.RowKit Go.Maps

theorem prefix_is {s t : Wd} : t.isPrefixOf s = (decide (t.length ≤ s.length) && decide (s.take t.length = t)) := by
  rw [Bool.eq_iff_iff, List.isPrefixOf_iff_prefix, List.prefix_iff_eq_take]
  simp only [Bool.and_eq_true, decide_eq_true_eq]
  constructor
  · intro h
    refine ⟨?_, h.symm⟩
    have := congrArg List.length h
    rw [List.length_take] at this; omega
  · rintro ⟨_, h⟩; exact h.symm

theorem suffix_is {s t : Wd} : t.isSuffixOf s = (decide (t.length ≤ s.length) && decide (s.drop (s.length - t.length) = t)) := by
  rw [Bool.eq_iff_iff, List.isSuffixOf_iff_suffix, List.suffix_iff_eq_drop]
  simp only [Bool.and_eq_true, decide_eq_true_eq]
  constructor
  · intro h
    refine ⟨?_, h.symm⟩
    have := congrArg List.length h
    rw [List.length_drop] at this; omega
  · rintro ⟨_, h⟩; exact h.symm

theorem wd_ne2 {x y : Wd} (h : ¬ x = y) : ¬ (⟨x.toArray⟩ : ByteArray) = ⟨y.toArray⟩ := fun e => h (str_eq.1 e)

set_option maxRecDepth 100000 in
set_option maxHeartbeats 1000000 in
theorem rpre_walk (s t : Wd) (w : World) : Calls Tryd.prog 44 #[.string ⟨s.toArray⟩, .string ⟨t.toArray⟩] w fun e w' => e = .returned (.bool (t.isPrefixOf s)) ∧ w' = w := by
  rw [prefix_is]
  have z1 := size_wd s
  have z2 := size_wd t
  have hex := slice_wd s 0 t.length
  rw [List.drop_zero] at hex
  obtain ⟨n, hn⟩ : ∃ n, s.length = n := ⟨_, rfl⟩
  obtain ⟨m, hm⟩ : ∃ m, t.length = m := ⟨_, rfl⟩
  rw [hn, hm]
  rw [hn] at z1
  rw [hm] at z2 hex
  obtain ⟨x, hx⟩ : ∃ x, s.take m = x := ⟨_, rfl⟩
  rw [hx] at hex ⊢
  clear hn hm hx
  rcases Nat.lt_or_ge n m with hlt | hge
  · have hd : decide ((m : Int) ≤ (n : Int)) = false := decide_eq_false (by omega)
    rw [decide_eq_false (by omega), Bool.false_and]
    go_enter Tryd.func44, Tryd.ntmps44
    go_wp2_with fail
    go_ret
    exact ⟨rfl, rfl⟩
  · have hd : decide ((m : Int) ≤ (n : Int)) = true := decide_eq_true (by omega)
    have hmn : (m : Int) ≤ (n : Int) := by omega
    rw [decide_eq_true hge, Bool.true_and]
    by_cases he : x = t
    · subst he
      rw [decide_eq_true rfl]
      go_enter Tryd.func44, Tryd.ntmps44
      go_wp2_with fail
      go_ret
      exact ⟨by simp, rfl⟩
    · rw [decide_eq_false he]
      have hne := wd_ne2 he
      have hne2 : ¬ x.toArray = t.toArray := fun e => he (by simpa using e)
      have hbe : (x == t) = false := by rw [beq_eq_false_iff_ne]; exact he
      go_enter Tryd.func44, Tryd.ntmps44
      go_wp2_with fail
      go_ret
      exact ⟨by simp, rfl⟩

set_option maxRecDepth 100000 in
set_option maxHeartbeats 1000000 in
theorem rsuf_walk (s t : Wd) (w : World) (hs : s.length ≤ 1000000) : Calls Tryd.prog 46 #[.string ⟨s.toArray⟩, .string ⟨t.toArray⟩] w fun e w' => e = .returned (.bool (t.isSuffixOf s)) ∧ w' = w := by
  rw [suffix_is]
  have z1 := size_wd s
  have z2 := size_wd t
  have hex := slice_wd s (s.length - t.length) s.length
  rw [List.take_length] at hex
  obtain ⟨n, hn⟩ : ∃ n, s.length = n := ⟨_, rfl⟩
  obtain ⟨m, hm⟩ : ∃ m, t.length = m := ⟨_, rfl⟩
  rw [hn, hm]
  rw [hn] at z1 hs
  rw [hn, hm] at hex
  rw [hm] at z2
  obtain ⟨x, hx⟩ : ∃ x, s.drop (n - m) = x := ⟨_, rfl⟩
  rw [hx] at hex ⊢
  clear hn hm hx
  rcases Nat.lt_or_ge n m with hlt | hge
  · have hd : decide ((m : Int) ≤ (n : Int)) = false := decide_eq_false (by omega)
    rw [decide_eq_false (by omega), Bool.false_and]
    go_enter Tryd.func46, Tryd.ntmps46
    go_wp2_with fail
    go_ret
    exact ⟨rfl, rfl⟩
  · have hd : decide ((m : Int) ≤ (n : Int)) = true := decide_eq_true (by omega)
    rw [decide_eq_true hge, Bool.true_and]
    obtain ⟨j, hj⟩ : ∃ j, n - m = j := ⟨_, rfl⟩
    rw [hj] at hex
    have hji : (n : Int) - (m : Int) = (j : Int) := by omega
    have hjn : (j : Int) ≤ (n : Int) := by omega
    have hjw : IntKind.i64.wrap (j : Int) = (j : Int) := by rw [IntKind.wrap_i64]; omega
    by_cases he : x = t
    · subst he
      rw [decide_eq_true rfl]
      go_enter Tryd.func46, Tryd.ntmps46
      go_wp2_with fail
      go_ret
      exact ⟨by simp, rfl⟩
    · rw [decide_eq_false he]
      have hne := wd_ne2 he
      have hne2 : ¬ x.toArray = t.toArray := fun e => he (by simpa using e)
      have hbe : (x == t) = false := by rw [beq_eq_false_iff_ne]; exact he
      go_enter Tryd.func46, Tryd.ntmps46
      go_wp2_with fail
      go_ret
      exact ⟨by simp, rfl⟩
end Go.Proofs.YtlbbjcggjmaehaaDoor
