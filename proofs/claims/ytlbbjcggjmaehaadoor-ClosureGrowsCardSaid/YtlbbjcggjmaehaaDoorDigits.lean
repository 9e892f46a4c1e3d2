/-
  law00.Digits below 20: the walk. Conditions: the number is from 0 to 19.
-/
import Derived.Test.YtlbbjcggjmaehaaDoorCountsP
namespace Go.Proofs.YtlbbjcggjmaehaaDoor
open Go Go.RowKit Go.Maps

def digsD : Wd := [48, 49, 50, 51, 52, 53, 54, 55, 56, 57]
def dig1 (v : Nat) : Wd := (digsD.take (v + 1)).drop v
def digD (v : Nat) : Wd := if v < 10 then dig1 v else dig1 (v / 10) ++ dig1 (v % 10)

set_option maxRecDepth 100000 in
set_option maxHeartbeats 1000000 in
theorem digits_low (v : Nat) (w : World) (hv : v < 10) : Calls Tryd.prog 20 #[.int .i64 (v : Int)] w fun e w' => e = .returned (.string ⟨(dig1 v).toArray⟩) ∧ w' = w := by
  have e1 : ¬ (v : Int) ≤ -10 := by omega
  have e2 : ¬ (v : Int) < 0 := by omega
  have e3 : (v : Int) < 10 := by omega
  have l1 : (v : Int) + 1 ≤ 10 := by omega
  have l2 : (v : Int) ≤ (v : Int) + 1 := by omega
  have wi : IntKind.i64.wrap (v : Int) = (v : Int) := by rw [IntKind.wrap_i64]; omega
  have wi1 : IntKind.i64.wrap ((v : Int) + 1) = (v : Int) + 1 := by rw [IntKind.wrap_i64]; omega
  have zi : (0 : Int) ≤ (v : Int) + 1 := by omega
  have hex := slice_wd digsD v (v + 1)
  obtain ⟨X, hX⟩ : ∃ X, (digsD.take (v + 1)).drop v = X := ⟨_, rfl⟩
  rw [hX] at hex
  unfold digsD at hex
  have e : dig1 v = X := hX
  rw [e]
  clear hX e
  go_enter Tryd.func20, Tryd.ntmps20
  go_wp2_with fail
  go_ret
  exact ⟨rfl, rfl⟩

set_option maxRecDepth 100000 in
set_option maxHeartbeats 1000000 in
theorem digits_walk (v : Nat) (w : World) (hv : v < 20) : Calls Tryd.prog 20 #[.int .i64 (v : Int)] w fun e w' => e = .returned (.string ⟨(digD v).toArray⟩) ∧ ∃ q, w' = w.drewN q := by
  rcases Nat.lt_or_ge v 10 with h | h
  · unfold digD
    rw [if_pos h]
    exact (digits_low v w h).mono fun e w' hh => ⟨hh.1, 0, hh.2⟩
  · unfold digD
    rw [if_neg (by omega)]
    obtain ⟨k, hk⟩ : ∃ k, v % 10 = k := ⟨_, rfl⟩
    have hq : v / 10 = 1 := by omega
    rw [hk, hq]
    have hk10 : k < 10 := by omega
    have e1 : ¬ (v : Int) ≤ -10 := by omega
    have e2 : ¬ (v : Int) < 0 := by omega
    have e3 : ¬ (v : Int) < 10 := by omega
    have q1 : (v : Int).tdiv 10 = 1 := by rw [Int.tdiv_eq_ediv_of_nonneg (by omega)]; omega
    have q1b : (v : Int) / 10 = 1 := by omega
    have q2 : (v : Int).tmod 10 = (k : Int) := by rw [Int.tmod_eq_emod_of_nonneg (by omega)]; omega
    have q2b : (v : Int) % 10 = (k : Int) := by omega
    have l1 : (k : Int) + 1 ≤ 10 := by omega
    have l2 : (k : Int) ≤ (k : Int) + 1 := by omega
    have wi : IntKind.i64.wrap (k : Int) = (k : Int) := by rw [IntKind.wrap_i64]; omega
    have wi1 : IntKind.i64.wrap ((k : Int) + 1) = (k : Int) + 1 := by rw [IntKind.wrap_i64]; omega
    have zi : (0 : Int) ≤ (k : Int) + 1 := by omega
    have hex := slice_wd digsD k (k + 1)
    obtain ⟨X, hX⟩ : ∃ X, (digsD.take (k + 1)).drop k = X := ⟨_, rfl⟩
    rw [hX] at hex
    unfold digsD at hex
    have e : dig1 k = X := hX
    rw [e]
    have hXl : X.length ≤ 10 := by rw [← hX, List.length_drop, List.length_take]; show min (k + 1) 10 - k ≤ 10; omega
    have hd := fun u => digits_low 1 u (by omega)
    obtain ⟨Y, hY⟩ : ∃ Y, dig1 1 = Y := ⟨_, rfl⟩
    have hYl : Y.length ≤ 10 := by rw [← hY]; decide
    rw [hY] at hd ⊢
    have hcat := cat_wd Y X
    obtain ⟨Z, hZ⟩ : ∃ Z, Y ++ X = Z := ⟨_, rfl⟩
    rw [hZ] at hcat ⊢
    have hll : ¬ 9223372036854775807 < Y.length + X.length := by omega
    have HD := Lib.hid hd
    clear hX e hd hY hZ h hq hk
    go_enter Tryd.func20, Tryd.ntmps20
    go_upto_region 8 with (fail)
    go_quiet (first | (go_at_call 20; exact Calls.quiet_of_same (HD.out _)))
    go_wp2_with fail
    go_ret
    exact ⟨rfl, _, rfl⟩
end Go.Proofs.YtlbbjcggjmaehaaDoor
