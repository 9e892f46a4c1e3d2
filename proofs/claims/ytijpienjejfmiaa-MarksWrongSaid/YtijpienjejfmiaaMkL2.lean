/-
  The law MarksWrong: the walk. No conditions beyond those that the law names.
-/
import Derived.Test.YtijpienjejfmiaaMkL1
namespace Go.Proofs.Ytijpienjejfmiaa
open Go Go.RowKit

/-- Spans that may not be. -/
def badS (q : Nat) (k : Int) : Sp :=
  if q = 0 then ⟨-k, 5, 0⟩ else if q = 1 then ⟨k, k, 0⟩ else if q = 2 then ⟨k, k - 1, 0⟩ else if q = 3 then ⟨0, 1099511627776 + k, 0⟩ else if q = 4 then ⟨1, 2, -k⟩ else ⟨1, 2, 1000 + k⟩

theorem badS_bad {q : Nat} {k : Int} (hk : 1 ≤ k ∧ k ≤ 1000) : (badS q k).a < 0 ∨ (badS q k).b ≤ (badS q k).a ∨ 1099511627776 < (badS q k).b ∨ (badS q k).k < 0 ∨ 1000 < (badS q k).k := by
  unfold badS
  split
  · simp only; omega
  · split
    · simp only; omega
    · split
      · simp only; omega
      · split
        · simp only; omega
        · split
          · simp only; omega
          · simp only; omega

abbrev spanO (s : Sp) : Obj := Obj.cells #[Value.int IntKind.i64 s.a, Value.int IntKind.i64 s.b, Value.int IntKind.i64 s.k] 25

theorem bad_index (q : Nat) (hq : q < 6) (k : Int) (u : World) : (Instr.index 28 (.agg #[.int .i64 (-k), .int .i64 5, .int .i64 0, .int .i64 k, .int .i64 k, .int .i64 0, .int .i64 k, .int .i64 (k - 1), .int .i64 0, .int .i64 0, .int .i64 (1099511627776 + k), .int .i64 0, .int .i64 1, .int .i64 2, .int .i64 (-k), .int .i64 1, .int .i64 2, .int .i64 (1000 + k)]) (.int .i64 (q : Int))).run Try.prog u = .ok (spanV (badS q k)) u := by
  have h1 := Try.sizeOf25
  have h2 := Try.isAgg25
  have h3 := Try.underlying28
  rcases (show q = 0 ∨ q = 1 ∨ q = 2 ∨ q = 3 ∨ q = 4 ∨ q = 5 by omega) with rfl | rfl | rfl | rfl | rfl | rfl
  all_goals (unfold Instr.index; simp [asIntOf, part, h1, h2, h3, run_underlying, badS]; try rfl)

set_option maxRecDepth 100000 in
set_option maxHeartbeats 2000000 in
theorem wrong_walk (how v : Int) (w : World) : Calls Try.prog 3 #[.int .i64 how, .int .i64 v] w (TrueRes w) := by
  have hv1 : 0 ≤ v % 1000 ∧ v % 1000 < 1000 := by omega
  have hq1 : 0 ≤ how % 6 ∧ how % 6 < 6 := by omega
  have hpv := fun w => place_any v 1000 w (by decide) (by decide)
  have hph := fun w => place_any how 6 w (by decide) (by decide)
  generalize v % 1000 = r at *
  obtain ⟨q, hq⟩ : ∃ q : Nat, how % 6 = (q : Int) := ⟨(how % 6).toNat, by omega⟩
  rw [hq] at hq1
  simp only [hq] at hph
  clear hq
  have hwk : IntKind.i64.wrap (1 + r) = 1 + r := wrap_fit (by omega)
  obtain ⟨k, hk⟩ : ∃ k, 1 + r = k := ⟨_, rfl⟩
  rw [hk] at hwk
  have hkb : 1 ≤ k ∧ k ≤ 1000 := by omega
  have hw1 : IntKind.i64.wrap (-k) = -k := wrap_fit (by omega)
  have hw2 : IntKind.i64.wrap (k - 1) = k - 1 := wrap_fit (by omega)
  have hw3 : IntKind.i64.wrap (1099511627776 + k) = 1099511627776 + k := wrap_fit (by omega)
  have hw4 : IntKind.i64.wrap (1000 + k) = 1000 + k := wrap_fit (by omega)
  have hbi := bad_index q (by omega) k
  have hbad := badS_bad (q := q) hkb
  generalize hbdd : badS q k = bd at *
  clear hbdd
  go_enter Try.func3, Try.ntmps3
  go_wp2_with fail
  refine (MN.new w).mono ?_
  rintro e w1 ⟨mb, rfl, h1⟩
  have h2 := h1.alloc (spanO ⟨5, 9, 2⟩)
  have hb := h2.held (p := (w1.heap.size, spanO ⟨5, 9, 2⟩)) (by simp)
  have b0 := cell_of_heap hb 0
  have b1 := cell_of_heap hb 1
  have b2 := cell_of_heap hb 2
  have hc2 := h2.put ⟨5, 9, 2⟩ (by decide) (by decide) (by decide) (by decide) (by decide) false (by decide) (by decide)
  have HC2 := Lib.hid hc2
  clear h1 h2 hc2 hb
  go_wp2_with fail
  refine HC2.out.mono ?_
  rintro e w2 ⟨rfl, h2⟩
  rw [show (!decide ((⟨5, 9, 2⟩ : Sp) ∈ two false [] [])) = true from rfl]
  change MN mb _ [⟨5, 9, 2⟩] [] w w2 at h2
  have h3 := h2.alloc (spanO bd)
  have hy := h3.held (p := (w2.heap.size, spanO bd)) (by simp)
  have y0 := cell_of_heap hy 0
  have y1 := cell_of_heap hy 1
  have y2 := cell_of_heap hy 2
  have hc3 := h3.bad bd hbad
  have hne : bd ≠ ⟨5, 9, 2⟩ := fun e => by rw [e] at hbad; revert hbad; decide
  have HNE := Lib.hid hne
  have HC3 := Lib.hid hc3
  clear h2 b0 b1 b2 h3 hy hc3 hbad hne
  go_wp2_with fail
  refine (hpv w2).mono ?_
  rintro e u1 ⟨rfl, eu⟩
  subst eu
  go_wp2_with fail
  refine (hph _).mono ?_
  rintro e u1 ⟨rfl, eu⟩
  subst eu
  go_wp2_with fail
  refine HC3.out.mono ?_
  rintro e w4 ⟨rfl, h4⟩
  generalize hbx : w1.heap.size = bx at *
  generalize hby : w2.heap.size = by_ at *
  have hx := h4.held (p := (bx, spanO ⟨5, 9, 2⟩)) (by simp)
  have b0 := cell_of_heap hx 0
  have b1 := cell_of_heap hx 1
  have b2 := cell_of_heap hx 2
  have hc4 := h4.put ⟨5, 9, 2⟩ (by decide) (by decide) (by decide) (by decide) (by decide) false (by decide) (by decide)
  rw [show (!decide ((⟨5, 9, 2⟩ : Sp) ∈ two false [⟨5, 9, 2⟩] [])) = false from rfl, show two false (insS ⟨5, 9, 2⟩ [⟨5, 9, 2⟩]) [⟨5, 9, 2⟩] = [(⟨5, 9, 2⟩ : Sp)] from by decide, show two false ([] : List Sp) (insS ⟨5, 9, 2⟩ []) = [] from rfl] at hc4
  have HC4 := Lib.hid hc4
  clear h4 hx hc4 y0 y1 y2
  go_wp2_with fail
  refine HC4.out.mono ?_
  rintro e w5 ⟨rfl, h5⟩
  have hx := h5.held (p := (by_, spanO bd)) (by simp)
  have b0 := cell_of_heap hx 0
  have b1 := cell_of_heap hx 1
  have b2 := cell_of_heap hx 2
  obtain ⟨i, hi⟩ : ∃ i : Bool, bd.k % 2 = if i then 1 else 0 := by
    rcases (show bd.k % 2 = 0 ∨ bd.k % 2 = 1 by omega) with h | h
    · exact ⟨false, h⟩
    · exact ⟨true, h⟩
  have hc5 := h5.remove bd i hi
  rw [show decide (bd ∈ two i [⟨5, 9, 2⟩] []) = false by cases i <;> simp [two, HNE.out], show two i (remS bd [⟨5, 9, 2⟩]) [⟨5, 9, 2⟩] = [(⟨5, 9, 2⟩ : Sp)] by have hne' : ¬ (⟨5, 9, 2⟩ : Sp) = bd := fun e => HNE.out e.symm; cases i <;> simp [two, remS, hne'], show two i ([] : List Sp) (remS bd []) = [] by cases i <;> rfl] at hc5
  have HC5 := Lib.hid hc5
  clear h5 hx hc5
  go_wp2_with fail
  refine HC5.out.mono ?_
  rintro e w6 ⟨rfl, h6⟩
  have hc6 := h6.remove ⟨5, 9, 3⟩ true (by decide)
  rw [show decide ((⟨5, 9, 3⟩ : Sp) ∈ two true [⟨5, 9, 2⟩] []) = false from rfl] at hc6
  have HC6 := Lib.hid hc6
  clear h6 hc6 b0 b1 b2
  go_wp2_with fail
  refine HC6.out.mono ?_
  rintro e w7 ⟨rfl, h7⟩
  change MN mb _ [⟨5, 9, 2⟩] [] w w7 at h7
  have HL7 := Lib.hid h7.len
  have hc7 := h7.put ⟨0, 1099511627776, 1000⟩ (by decide) (by decide) (by decide) (by decide) (by decide) false (by decide) (by decide)
  rw [show (!decide ((⟨0, 1099511627776, 1000⟩ : Sp) ∈ two false [⟨5, 9, 2⟩] [])) = true from rfl, show two false (insS ⟨0, 1099511627776, 1000⟩ [⟨5, 9, 2⟩]) [⟨5, 9, 2⟩] = [(⟨0, 1099511627776, 1000⟩ : Sp), ⟨5, 9, 2⟩] from by decide, show two false ([] : List Sp) (insS ⟨0, 1099511627776, 1000⟩ []) = [] from rfl] at hc7
  have HC7 := Lib.hid hc7
  clear h7 hc7
  go_wp2_with fail
  refine HL7.out.mono ?_
  rintro e u1 ⟨rfl, eu⟩
  have eu := eu.symm
  subst eu
  go_wp2_with fail
  refine HC7.out.mono ?_
  rintro e w8 ⟨rfl, h8⟩
  have hx := h8.held (p := (bx, spanO ⟨5, 9, 2⟩)) (by simp)
  have b0 := cell_of_heap hx 0
  have b1 := cell_of_heap hx 1
  have b2 := cell_of_heap hx 2
  have hc8 := h8.remove ⟨5, 9, 2⟩ false (by decide)
  rw [show decide ((⟨5, 9, 2⟩ : Sp) ∈ two false [⟨0, 1099511627776, 1000⟩, ⟨5, 9, 2⟩] []) = true from rfl, show two false (remS ⟨5, 9, 2⟩ [⟨0, 1099511627776, 1000⟩, ⟨5, 9, 2⟩]) [⟨0, 1099511627776, 1000⟩, ⟨5, 9, 2⟩] = [(⟨0, 1099511627776, 1000⟩ : Sp)] from by decide, show two false ([] : List Sp) (remS ⟨5, 9, 2⟩ []) = [] from rfl] at hc8
  have HC8 := Lib.hid hc8
  clear h8 hx hc8
  go_wp2_with fail
  refine HC8.out.mono ?_
  rintro e w9 ⟨rfl, h9⟩
  have HL9 := Lib.hid h9.len
  have HG9 := Lib.hid h9.grown
  clear h9 b0 b1 b2
  go_wp2_with fail
  refine HL9.out.mono ?_
  rintro e u1 ⟨rfl, eu⟩
  have eu := eu.symm
  subst eu
  go_wp2_with fail
  refine (awake21_walk _).mono ?_
  rintro e w10 ⟨rfl, hg10⟩
  have HG10 := Lib.hid (grownBy_trans HG9.out hg10 nofun)
  clear hg10
  go_wp2_with fail
  go_ret
  exact ⟨rfl, HG10.out⟩
end Go.Proofs.Ytijpienjejfmiaa
