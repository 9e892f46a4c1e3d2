/-
  The law RegionMoves: three runs. No conditions beyond those that each law names.
-/
import Derived.Test.YtijpienjejfmiaaRg7
namespace Go.Proofs.Ytijpienjejfmiaa
open Go Go.RowKit

theorem moves_edit {d i : Int} (hd : 0 ≤ d ∧ d < 20) (hi : 0 ≤ i ∧ i < 50) : evenE (cutI 30) (cutI d) (cutI i) [⟨0, 10, 2⟩, ⟨20, 60, 4⟩, ⟨70, 80, 6⟩] = [⟨0, 10, 2⟩, ⟨20, 60 + i - d, 4⟩, ⟨70 + i - d, 80 + i - d, 6⟩] := by
  rw [cutI_id (v := 30) (by omega), cutI_id (v := d) (by omega), cutI_id (v := i) (by omega)]
  have hX : evenX 30 d [⟨0, 10, 2⟩, ⟨20, 60, 4⟩, ⟨70, 80, 6⟩] = [⟨20, 60, 4⟩] := by
    unfold evenX overS
    rw [List.filter_cons_of_neg (by simp only [Bool.and_eq_true, decide_eq_true_eq]; omega), List.filter_cons_of_pos (by simp only [Bool.and_eq_true, decide_eq_true_eq]; omega), List.filter_cons_of_neg (by simp only [Bool.and_eq_true, decide_eq_true_eq]; omega)]
    rfl
  have hA : evenA 30 d [⟨0, 10, 2⟩, ⟨20, 60, 4⟩, ⟨70, 80, 6⟩] = [⟨0, 10, 2⟩, ⟨70, 80, 6⟩] := by
    unfold evenA
    rw [hX]
    decide
  have hB : evenB 30 d i [⟨0, 10, 2⟩, ⟨20, 60, 4⟩, ⟨70, 80, 6⟩] = [⟨0, 10, 2⟩, ⟨70 + i - d, 80 + i - d, 6⟩] := by
    unfold evenB
    rw [hA]
    unfold tailS
    simp only [List.map_cons, List.map_nil, Sp.add]
    rw [if_neg (by omega), if_pos (by omega)]
    simp only [List.cons.injEq, Sp.mk.injEq, and_true, true_and]
    omega
  have hclip : clipI 30 d i ⟨20, 60, 4⟩ = (⟨20, 60 + i - d, 4⟩, true) := by
    unfold clipI
    simp only
    rw [place_low (p := 20) (by omega) (by omega), place_high (p := 60) (by omega) (by omega) (by omega), if_neg (by omega)]
  have hC : evenC 30 d i [⟨0, 10, 2⟩, ⟨20, 60, 4⟩, ⟨70, 80, 6⟩] = [⟨0, 10, 2⟩, ⟨20, 60 + i - d, 4⟩, ⟨70 + i - d, 80 + i - d, 6⟩] := by
    unfold evenC
    rw [hX, hB]
    show (if (clipI 30 d i ⟨20, 60, 4⟩).2 then insS (clipI 30 d i ⟨20, 60, 4⟩).1 [⟨0, 10, 2⟩, ⟨70 + i - d, 80 + i - d, 6⟩] else [⟨0, 10, 2⟩, ⟨70 + i - d, 80 + i - d, 6⟩]) = _
    rw [hclip, if_pos rfl]
    unfold insS
    rw [if_neg (by unfold Sp.lt; simp only; omega), if_neg (by intro h; rw [Sp.mk.injEq] at h; omega)]
    unfold insS
    rw [if_pos (.inl (by show (20 : Int) < 70 + i - d; omega))]
  unfold evenE
  rw [hC, far_none]
  intro x hx
  simp only [List.mem_cons, List.not_mem_nil, or_false] at hx
  rcases hx with rfl | rfl | rfl <;> simp only <;> omega

theorem moves_runs {d i : Int} (hd : 0 ≤ d ∧ d < 20) (hi : 0 ≤ i ∧ i < 50) : runsL [⟨0, 10, 2⟩, ⟨20, 60 + i - d, 4⟩, ⟨70 + i - d, 80 + i - d, 6⟩] = [⟨0, 10, 1⟩, ⟨20, 60 + i - d, 2⟩, ⟨70 + i - d, 80 + i - d, 3⟩] := by
  show mergeS (mergeS (mergeS [] ⟨0, 10, 2⟩) ⟨20, 60 + i - d, 4⟩) ⟨70 + i - d, 80 + i - d, 6⟩ = _
  rw [mergeS_nil, show ([⟨0, 10, 2 / 2⟩] : List Sp) = [] ++ [⟨0, 10, 1⟩] from rfl, mergeS_snoc, if_neg (by simp only; omega), mergeS_snoc, if_neg (by simp only; omega)]
  rfl

theorem moves_at {d i : Int} (hd : 0 ≤ d ∧ d < 20) (hi : 0 ≤ i ∧ i < 50) : atL [⟨0, 10, 2⟩, ⟨20, 60 + i - d, 4⟩, ⟨70 + i - d, 80 + i - d, 6⟩] 30 = 2 := by
  unfold atL overQ
  rw [List.filter_cons_of_neg (by simp only [Bool.and_eq_true, decide_eq_true_eq]; omega), List.filter_cons_of_pos (by simp only [Bool.and_eq_true, decide_eq_true_eq]; omega)]
  rfl
end Go.Proofs.Ytijpienjejfmiaa
