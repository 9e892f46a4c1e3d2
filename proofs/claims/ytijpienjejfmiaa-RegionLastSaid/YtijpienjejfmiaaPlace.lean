/-
  Place: any number as one from 0 to n - 1, for n from 1 to 2^60.
-/
import Derived.Test.YtijpienjejfmiaaChecked
import Derived.Test.YtijpienjejfmiaaHeap
namespace Go.Proofs.Ytijpienjejfmiaa
open Go Go.RowKit

theorem tmod_cases (v n : Int) (h0 : 0 < n) : (v.tmod n < 0 ∧ v % n = v.tmod n + n ∧ -n < v.tmod n) ∨ (0 ≤ v.tmod n ∧ v % n = v.tmod n ∧ v.tmod n < n) := by
  rcases Int.le_total 0 v with h | h
  · right
    rw [Int.tmod_eq_emod_of_nonneg h]
    exact ⟨Int.emod_nonneg _ (by omega), rfl, Int.emod_lt_of_pos _ h0⟩
  · obtain ⟨u, rfl⟩ : ∃ u, v = -u := ⟨-v, by omega⟩
    have hu : 0 ≤ u := by omega
    rw [Int.neg_tmod, Int.tmod_eq_emod_of_nonneg hu]
    have h1 := Int.emod_nonneg u (show n ≠ 0 by omega)
    have h2 := Int.emod_lt_of_pos u h0
    have h3 := Int.mul_ediv_add_emod u n
    rcases Int.lt_or_eq_of_le h1 with h | h
    · left
      refine ⟨by omega, ?_, by omega⟩
      have : (-u) = (n - u % n) + n * (-(u / n) - 1) := by rw [Int.mul_sub, Int.mul_neg]; omega
      rw [this, Int.add_mul_emod_self_left, Int.emod_eq_of_lt (by omega) (by omega)]
      omega
    · right
      rw [← h]
      refine ⟨by omega, ?_, by omega⟩
      have : (-u) = 0 + n * (-(u / n)) := by rw [Int.mul_neg]; omega
      rw [this, Int.add_mul_emod_self_left]; simp

set_option maxHeartbeats 400000 in
theorem place_any (v n : Int) (w : World) (h0 : 0 < n) (hn : n ≤ 1152921504606846976) :
    Calls Try.prog 12 #[.int .i64 v, .int .i64 n] w fun e w' => e = .returned (.int .i64 (v % n)) ∧ w = w' := by
  have hc := tmod_cases v n h0
  have hz : (n == 0) = false := by rw [beq_eq_false_iff_ne]; omega
  generalize hr : v % n = r at hc ⊢
  have HR := Lib.hid hr
  clear hr
  rcases hc with ⟨h1, h2, h3⟩ | ⟨h1, h2, h3⟩
  · have H2 := Lib.hid h2
    clear h2
    go_enter Try.func12, Try.ntmps12
    go_wp2_with fail
    go_ret
    rw [H2.out]
    exact ⟨rfl, rfl⟩
  · have H2 := Lib.hid h2
    clear h2
    go_enter Try.func12, Try.ntmps12
    go_wp2_with fail
    go_ret
    rw [H2.out]
    exact ⟨rfl, rfl⟩
end Go.Proofs.Ytijpienjejfmiaa
