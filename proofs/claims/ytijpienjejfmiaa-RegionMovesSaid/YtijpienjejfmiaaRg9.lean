/-
  The law RegionMoves: the walk. No conditions beyond those that the law names.
-/
import Derived.Test.YtijpienjejfmiaaRg8
namespace Go.Proofs.Ytijpienjejfmiaa
open Go Go.RowKit

set_option maxRecDepth 100000 in
set_option maxHeartbeats 2000000 in
theorem moves_walk (del ins : Int) (w : World) : Calls Try.prog 9 #[.int .i64 del, .int .i64 ins] w (TrueRes w) := by
  have hd : 0 ≤ del % 20 ∧ del % 20 < 20 := by omega
  have hi : 0 ≤ ins % 50 ∧ ins % 50 < 50 := by omega
  have hp1 := fun w => place_any del 20 w (by decide) (by decide)
  have hp2 := fun w => place_any ins 50 w (by decide) (by decide)
  generalize del % 20 = d at *
  generalize ins % 50 = i at *
  have HED := Lib.hid (moves_edit hd hi)
  have HRU := Lib.hid (moves_runs hd hi)
  have HAT := Lib.hid (moves_at hd hi)
  have z1 : -9223372036854775808 ≤ 60 + i ∧ 60 + i ≤ 9223372036854775807 := by omega
  have z2 : -9223372036854775808 ≤ 60 + i - d ∧ 60 + i - d ≤ 9223372036854775807 := by omega
  have z3 : -9223372036854775808 ≤ 70 + i ∧ 70 + i ≤ 9223372036854775807 := by omega
  have z4 : -9223372036854775808 ≤ 70 + i - d ∧ 70 + i - d ≤ 9223372036854775807 := by omega
  have z5 : -9223372036854775808 ≤ 80 + i ∧ 80 + i ≤ 9223372036854775807 := by omega
  have z6 : -9223372036854775808 ≤ 80 + i - d ∧ 80 + i - d ≤ 9223372036854775807 := by omega
  have f1 : -9223372036854775808 ≤ i ∧ i ≤ 1000000 := by omega
  have f2 : RunsOk [⟨0, 10, 2⟩, ⟨20, 60, 4⟩, ⟨70, 80, 6⟩] := fun x hx => by
    simp only [List.mem_cons, List.not_mem_nil, or_false] at hx
    rcases hx with rfl | rfl | rfl <;> (unfold InG; decide)
  have f3 : LowOk [⟨0, 10, 2⟩, ⟨20, 60, 4⟩, ⟨70, 80, 6⟩] := fun x hx => by
    simp only [List.mem_cons, List.not_mem_nil, or_false] at hx
    rcases hx with rfl | rfl | rfl <;> decide
  have f4 : RunsOk [⟨0, 10, 2⟩, ⟨20, 60 + i - d, 4⟩, ⟨70 + i - d, 80 + i - d, 6⟩] := fun x hx => by
    simp only [List.mem_cons, List.not_mem_nil, or_false] at hx
    rcases hx with rfl | rfl | rfl <;> (unfold InG; simp only; omega)
  have F2 := Lib.hid f2
  have F3 := Lib.hid f3
  have F4 := Lib.hid f4
  clear hd hi f2 f3 f4
  obtain ⟨A1, hA1⟩ : ∃ v, 60 + i - d = v := ⟨_, rfl⟩
  obtain ⟨A2, hA2⟩ : ∃ v, 70 + i - d = v := ⟨_, rfl⟩
  obtain ⟨A3, hA3⟩ : ∃ v, 80 + i - d = v := ⟨_, rfl⟩
  have HED2 := HED.out
  have HRU2 := HRU.out
  have HAT2 := HAT.out
  have F42 := F4.out
  rw [hA1, hA2, hA3] at HED2 HRU2 HAT2 F42
  have HE := Lib.hid HED2
  have HR := Lib.hid HRU2
  have HA := Lib.hid HAT2
  have HF := Lib.hid F42
  have hw1 := wrap_fit z1
  have hw2 := (wrap_fit z2).trans hA1
  have hw3 := wrap_fit z3
  have hw4 := (wrap_fit z4).trans hA2
  have hw5 := wrap_fit z5
  have hw6 := (wrap_fit z6).trans hA3
  clear z1 z2 z3 z4 z5 z6 hA1 hA2 hA3 HED2 HRU2 HAT2 F42 HED HRU HAT F4
  go_enter Try.func9, Try.ntmps9
  go_wp2_with fail
  refine (rnew_walk w).mono ?_
  rintro e w1 ⟨rb, mb, rfl, h1⟩
  have hc1 := rset_walk 0 10 1 (by decide) (by decide) (by decide) (by decide) (fun x hx => (by simp at hx)) (by decide) h1
  rw [show setL 0 10 1 [] = [⟨0, 10, 2⟩] from by decide] at hc1
  have HC1 := Lib.hid hc1
  clear h1 hc1
  go_wp2_with fail
  refine (hp1 _).mono ?_
  rintro e u1 ⟨rfl, eu⟩
  subst eu
  go_wp2_with fail
  refine (hp2 _).mono ?_
  rintro e u1 ⟨rfl, eu⟩
  subst eu
  go_wp2_with fail
  refine HC1.out.mono ?_
  rintro e w2 ⟨rfl, h2⟩
  have hc2 := rset_walk 20 60 2 (by decide) (by decide) (by decide) (by decide) (fun x hx => by rw [List.mem_singleton.1 hx]; unfold InG; decide) (by decide) h2
  rw [show setL 20 60 2 [⟨0, 10, 2⟩] = [⟨0, 10, 2⟩, ⟨20, 60, 4⟩] from by decide] at hc2
  have HC2 := Lib.hid hc2
  clear h2 hc2
  go_wp2_with fail
  refine HC2.out.mono ?_
  rintro e w3 ⟨rfl, h3⟩
  have hc3 := rset_walk 70 80 3 (by decide) (by decide) (by decide) (by decide) (fun x hx => by
    simp only [List.mem_cons, List.not_mem_nil, or_false] at hx
    rcases hx with rfl | rfl <;> (unfold InG; decide)) (by decide) h3
  rw [show setL 70 80 3 [⟨0, 10, 2⟩, ⟨20, 60, 4⟩] = [⟨0, 10, 2⟩, ⟨20, 60, 4⟩, ⟨70, 80, 6⟩] from by decide] at hc3
  have HC3 := Lib.hid hc3
  clear h3 hc3
  go_wp2_with fail
  refine HC3.out.mono ?_
  rintro e w4 ⟨rfl, h4⟩
  have hc4 := redit_walk 30 d i f1 F2.out F3.out (by decide) h4
  rw [HE.out] at hc4
  have HC4 := Lib.hid hc4
  clear h4 hc4
  go_wp2_with fail
  refine HC4.out.mono ?_
  rintro e w5 ⟨rfl, h5⟩
  have hc5 := rall_walk HF.out (by simp) h5
  rw [HR.out] at hc5
  have HC5 := Lib.hid hc5
  clear h5 hc5
  go_wp2_with fail
  refine HC5.out.mono ?_
  rintro e w6 ⟨A, c, rfl, hs6, h6⟩
  obtain ⟨q, o, rfl, hcc⟩ := RN.cells hs6 (by simp)
  have x0 : w6.cell? ⟨q, o, none⟩ = some (.int .i64 0) := hcc 0 _ rfl
  have x1 : w6.cell? ⟨q, o + 1, none⟩ = some (.int .i64 10) := hcc 1 _ rfl
  have x2 : w6.cell? ⟨q, o + 2, none⟩ = some (.int .i64 1) := hcc 2 _ rfl
  have x3 : w6.cell? ⟨q, o + 3, none⟩ = some (.int .i64 20) := hcc 3 _ rfl
  have x4 : w6.cell? ⟨q, o + 3 + 1, none⟩ = some (.int .i64 A1) := hcc 4 _ rfl
  have x5 : w6.cell? ⟨q, o + 3 + 2, none⟩ = some (.int .i64 2) := hcc 5 _ rfl
  have x6 : w6.cell? ⟨q, o + 6, none⟩ = some (.int .i64 A2) := hcc 6 _ rfl
  have x7 : w6.cell? ⟨q, o + 6 + 1, none⟩ = some (.int .i64 A3) := hcc 7 _ rfl
  have x8 : w6.cell? ⟨q, o + 6 + 2, none⟩ = some (.int .i64 3) := hcc 8 _ rfl
  have y4 : w6.cell? ⟨q, o + 4, none⟩ = some (.int .i64 A1) := hcc 4 _ rfl
  have y5 : w6.cell? ⟨q, o + 5, none⟩ = some (.int .i64 2) := hcc 5 _ rfl
  have y7 : w6.cell? ⟨q, o + 7, none⟩ = some (.int .i64 A3) := hcc 7 _ rfl
  have y8 : w6.cell? ⟨q, o + 8, none⟩ = some (.int .i64 3) := hcc 8 _ rfl
  have hc6 := rat_walk 30 (by decide) (fun x hx => (HF.out x hx).2.2) h6
  rw [if_neg (by decide), HA.out] at hc6
  have HC6 := Lib.hid hc6
  clear hs6 hcc h6 hc6
  go_wp2_with fail
  refine HC6.out.mono ?_
  rintro e w7 ⟨rfl, h7⟩
  have HG7 := Lib.hid h7.grown
  clear h7 x0 x1 x2 x3 x4 x5 x6 x7 x8 y4 y5 y7 y8
  go_wp2_with fail
  refine (awake22_walk _).mono ?_
  rintro e w8 ⟨rfl, hg8⟩
  have HG8 := Lib.hid (grownBy_trans HG7.out hg8 nofun)
  clear hg8
  go_wp2_with fail
  go_ret
  exact ⟨rfl, HG8.out⟩
end Go.Proofs.Ytijpienjejfmiaa
