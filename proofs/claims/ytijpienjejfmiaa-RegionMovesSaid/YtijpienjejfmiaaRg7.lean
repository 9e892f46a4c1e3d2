/-
  The law RegionTyped: the walk. No conditions beyond those that the law names.
-/
import Derived.Test.YtijpienjejfmiaaRg6
namespace Go.Proofs.Ytijpienjejfmiaa
open Go Go.RowKit

theorem runs_one (a b k : Int) : runsL [⟨a, b, k * 2⟩] = [⟨a, b, k⟩] := by
  show mergeS [] (⟨a, b, k * 2⟩ : Sp) = _
  rw [mergeS_nil]
  simp only
  rw [Int.mul_ediv_cancel _ (by decide)]

set_option maxRecDepth 100000 in
set_option maxHeartbeats 2000000 in
theorem typed_walk (from_ n at_ ins lang : Int) (w : World) : Calls Try.prog 7 #[.int .i64 from_, .int .i64 n, .int .i64 at_, .int .i64 ins, .int .i64 lang] w (TrueRes w) := by
  have ha1 : 0 ≤ from_ % 100 ∧ from_ % 100 < 100 := by omega
  have hk1 : 0 ≤ n % 100 ∧ n % 100 < 100 := by omega
  have hc1 : 0 ≤ ins % 50 ∧ ins % 50 < 50 := by omega
  have hg1 : 0 ≤ lang % 9 ∧ lang % 9 < 9 := by omega
  have hp1 := fun w => place_any from_ 100 w (by decide) (by decide)
  have hp2 := fun w => place_any n 100 w (by decide) (by decide)
  have hp3 := fun w => place_any ins 50 w (by decide) (by decide)
  have hp4 := fun w => place_any lang 9 w (by decide) (by decide)
  generalize from_ % 100 = a at *
  generalize n % 100 = r1 at *
  generalize ins % 50 = r2 at *
  generalize lang % 9 = r3 at *
  obtain ⟨k, hk⟩ : ∃ k, 1 + r1 = k := ⟨_, rfl⟩
  obtain ⟨c, hc⟩ : ∃ c, 1 + r2 = c := ⟨_, rfl⟩
  obtain ⟨g, hg⟩ : ∃ g, 1 + r3 = g := ⟨_, rfl⟩
  have hkb : 1 ≤ k ∧ k ≤ 100 := by omega
  have hcb : 1 ≤ c ∧ c ≤ 50 := by omega
  have hgb : 1 ≤ g ∧ g ≤ 9 := by omega
  have hq1 : 0 ≤ at_ % (k + 1) ∧ at_ % (k + 1) < k + 1 := ⟨Int.emod_nonneg _ (by omega), Int.emod_lt_of_pos _ (by omega)⟩
  have hp5 := fun w => place_any at_ (k + 1) w (by omega) (by omega)
  generalize at_ % (k + 1) = q at *
  have hqb : 0 ≤ q ∧ q ≤ k := by omega
  have hset := set_none (f := a) (t := a + k) (g := g) (by omega) (by omega)
  have hfirst := typed_first (m := g * 2) ha1 hkb hqb hcb
  have z1 : -9223372036854775808 ≤ 1 + r1 ∧ 1 + r1 ≤ 9223372036854775807 := by omega
  have z2 : -9223372036854775808 ≤ 1 + r2 ∧ 1 + r2 ≤ 9223372036854775807 := by omega
  have z3 : -9223372036854775808 ≤ 1 + r3 ∧ 1 + r3 ≤ 9223372036854775807 := by omega
  have z4 : -9223372036854775808 ≤ k + 1 ∧ k + 1 ≤ 9223372036854775807 := by omega
  have z5 : -9223372036854775808 ≤ a + q ∧ a + q ≤ 9223372036854775807 := by omega
  have z6 : -9223372036854775808 ≤ a + k ∧ a + k ≤ 9223372036854775807 := by omega
  obtain ⟨p, hp⟩ : ∃ p, a + q = p := ⟨_, rfl⟩
  obtain ⟨b, hb⟩ : ∃ b, a + k = b := ⟨_, rfl⟩
  have z7 : -9223372036854775808 ≤ b + c ∧ b + c ≤ 9223372036854775807 := by omega
  have hgone : ∀ t, a < t → t ≤ b + c → evenE (cutI 0) (cutI (b + c)) (cutI 0) [⟨a, t, g * 2⟩] = [] := fun t h1 h2 => by
    have := typed_gone (m := g * 2) (t := t) ha1 hkb hcb ⟨h1, by omega⟩
    rw [hb] at this
    exact this
  have f1 : 0 ≤ a := ha1.1
  have f2 : a < b := by omega
  have f3 : b ≤ 1099511627776 := by omega
  have f4 : 0 ≤ g ∧ g ≤ 400 := by omega
  have f5 : -9223372036854775808 ≤ c ∧ c ≤ 1000000 := by omega
  have f6 : -9223372036854775808 ≤ p ∧ p < 9223372036854775807 := by omega
  have f7 : ¬ p < 0 := by omega
  have f8 : RunsOk [⟨a, b, g * 2⟩] := fun x hx => by rw [List.mem_singleton.1 hx]; unfold InG; simp only; omega
  have f9 : LowOk [⟨a, b, g * 2⟩] := fun x hx => by rw [List.mem_singleton.1 hx]; simp only; omega
  rw [hb] at hset hfirst
  rw [hp] at hfirst
  have HSET := Lib.hid hset
  have F8 := Lib.hid f8
  have F9 := Lib.hid f9
  by_cases hcase : p = b
  · have hcase2 := hcase.symm
    subst hcase2
    clear hcase
    have HF := Lib.hid (hfirst.trans (by rw [if_pos rfl]))
    have g1 : RunsOk [⟨a, b, g * 2⟩] := fun x hx => by rw [List.mem_singleton.1 hx]; unfold InG; simp only; omega
    have g2 : LowOk [⟨a, b, g * 2⟩] := fun x hx => by rw [List.mem_singleton.1 hx]; simp only; omega
    have g3 : (if b < 0 then 0 else atL [⟨a, b, g * 2⟩] b) = 0 := by
      rw [if_neg f7, at_one]
      simp only
      rw [if_neg (by omega)]
    have g4 := hgone (b) (by omega) (by omega)
    have g5 : ((0 : Int) == g) = false := by rw [beq_eq_false_iff_ne]; omega
    have hplt : ¬ b < b := by omega
    have G1 := Lib.hid g1
    have G2 := Lib.hid g2
    have G3 := Lib.hid g3
    have G4 := Lib.hid g4
    have F6 := Lib.hid f6
    clear hset hfirst hgone hkb hcb hgb hq1 hqb ha1 hk1 hc1 hg1 g1 g2 g3 g4 f6 f8 f9
    have hwk := (wrap_fit z1).trans hk
    have hwc := (wrap_fit z2).trans hc
    have hwg := (wrap_fit z3).trans hg
    have hwk1 := wrap_fit z4
    have hwp := (wrap_fit z5).trans hp
    have hwb := (wrap_fit z6).trans hb
    have hwe := wrap_fit z7
    clear z1 z2 z3 z4 z5 z6 z7 hk hc hg hp hb
    go_enter Try.func7, Try.ntmps7
    go_wp2_with fail
    refine (hp1 w).mono ?_
    rintro e u1 ⟨rfl, eu⟩
    subst eu
    go_wp2_with fail
    refine (hp2 _).mono ?_
    rintro e u1 ⟨rfl, eu⟩
    subst eu
    go_wp2_with fail
    refine (hp3 _).mono ?_
    rintro e u1 ⟨rfl, eu⟩
    subst eu
    go_wp2_with fail
    refine (hp4 _).mono ?_
    rintro e u1 ⟨rfl, eu⟩
    subst eu
    go_wp2_with fail
    refine (rnew_walk _).mono ?_
    rintro e w1 ⟨rb, mb, rfl, h1⟩
    have hc1 := rset_walk a b g f1 f2 f3 f4 (fun x hx => (by simp at hx)) (by decide) h1
    rw [HSET.out] at hc1
    have HC1 := Lib.hid hc1
    clear h1 hc1
    go_wp2_with fail
    refine HC1.out.mono ?_
    rintro e w2 ⟨rfl, h2⟩
    have hc2 := redit_walk b 0 c f5 F8.out F9.out (by simp) h2
    rw [HF.out] at hc2
    have HC2 := Lib.hid hc2
    clear h2 hc2
    go_wp2_with fail
    refine (hp5 _).mono ?_
    rintro e u1 ⟨rfl, eu⟩
    subst eu
    go_wp2_with fail
    refine HC2.out.mono ?_
    rintro e w3 ⟨rfl, h3⟩
    have hc3 := rall_walk G1.out (by simp) h3
    rw [runs_one] at hc3
    have HC3 := Lib.hid hc3
    clear h3 hc3
    go_wp2_with fail
    refine HC3.out.mono ?_
    rintro e w4 ⟨A, cc, rfl, hs4, h4⟩
    obtain ⟨q4, o4, rfl, hcc⟩ := RN.cells hs4 (by simp)
    have x0 : w4.cell? ⟨q4, o4, none⟩ = some (.int .i64 a) := hcc 0 _ rfl
    have x1 : w4.cell? ⟨q4, o4 + 1, none⟩ = some (.int .i64 (b)) := hcc 1 _ rfl
    have x2 : w4.cell? ⟨q4, o4 + 2, none⟩ = some (.int .i64 g) := hcc 2 _ rfl
    have hc4 := rat_walk b F6.out (fun x hx => (G1.out x hx).2.2) h4
    rw [G3.out] at hc4
    have HC4 := Lib.hid hc4
    clear hs4 hcc h4 hc4
    go_wp2_with fail
    refine HC4.out.mono ?_
    rintro e w5 ⟨rfl, h5⟩
    have hc5 := redit_walk 0 (b + c) 0 (by decide) G1.out G2.out (by simp) h5
    rw [G4.out] at hc5
    have HC5 := Lib.hid hc5
    clear h5 hc5 x0 x1 x2
    go_wp2_with fail
    refine HC5.out.mono ?_
    rintro e w6 ⟨rfl, h6⟩
    have hc6 := rall_walk (fun x hx => (by simp at hx)) (by simp) h6
    have HC6 := Lib.hid hc6
    clear h6 hc6
    go_wp2_with fail
    refine HC6.out.mono ?_
    rintro e w7 ⟨A7, c7, rfl, _, h7⟩
    have HG7 := Lib.hid h7.grown
    clear h7
    go_wp2_with fail
    refine (awake22_walk _).mono ?_
    rintro e w8 ⟨rfl, hg8⟩
    have HG8 := Lib.hid (grownBy_trans HG7.out hg8 nofun)
    clear hg8
    go_wp2_with fail
    go_ret
    exact ⟨rfl, HG8.out⟩
  · have HF := Lib.hid (hfirst.trans (by rw [if_neg hcase]))
    have hpk : (p == b) = false := by simp [hcase]
    have g1 : RunsOk [⟨a, b + c, g * 2⟩] := fun x hx => by rw [List.mem_singleton.1 hx]; unfold InG; simp only; omega
    have g2 : LowOk [⟨a, b + c, g * 2⟩] := fun x hx => by rw [List.mem_singleton.1 hx]; simp only; omega
    have g3 : (if p < 0 then 0 else atL [⟨a, b + c, g * 2⟩] p) = g := by
      rw [if_neg f7, at_one]
      simp only
      rw [if_pos (by omega)]; exact Int.mul_ediv_cancel _ (by decide)
    have g4 := hgone (b + c) (by omega) (by omega)
    have g5 : ((0 : Int) == g) = false := by rw [beq_eq_false_iff_ne]; omega
    have hplt : p < b + c := by omega
    have G1 := Lib.hid g1
    have G2 := Lib.hid g2
    have G3 := Lib.hid g3
    have G4 := Lib.hid g4
    have F6 := Lib.hid f6
    clear hset hfirst hgone hkb hcb hgb hq1 hqb ha1 hk1 hc1 hg1 g1 g2 g3 g4 f6 f8 f9
    have hwk := (wrap_fit z1).trans hk
    have hwc := (wrap_fit z2).trans hc
    have hwg := (wrap_fit z3).trans hg
    have hwk1 := wrap_fit z4
    have hwp := (wrap_fit z5).trans hp
    have hwb := (wrap_fit z6).trans hb
    have hwe := wrap_fit z7
    clear z1 z2 z3 z4 z5 z6 z7 hk hc hg hp hb
    go_enter Try.func7, Try.ntmps7
    go_wp2_with fail
    refine (hp1 w).mono ?_
    rintro e u1 ⟨rfl, eu⟩
    subst eu
    go_wp2_with fail
    refine (hp2 _).mono ?_
    rintro e u1 ⟨rfl, eu⟩
    subst eu
    go_wp2_with fail
    refine (hp3 _).mono ?_
    rintro e u1 ⟨rfl, eu⟩
    subst eu
    go_wp2_with fail
    refine (hp4 _).mono ?_
    rintro e u1 ⟨rfl, eu⟩
    subst eu
    go_wp2_with fail
    refine (rnew_walk _).mono ?_
    rintro e w1 ⟨rb, mb, rfl, h1⟩
    have hc1 := rset_walk a b g f1 f2 f3 f4 (fun x hx => (by simp at hx)) (by decide) h1
    rw [HSET.out] at hc1
    have HC1 := Lib.hid hc1
    clear h1 hc1
    go_wp2_with fail
    refine HC1.out.mono ?_
    rintro e w2 ⟨rfl, h2⟩
    have hc2 := redit_walk p 0 c f5 F8.out F9.out (by simp) h2
    rw [HF.out] at hc2
    have HC2 := Lib.hid hc2
    clear h2 hc2
    go_wp2_with fail
    refine (hp5 _).mono ?_
    rintro e u1 ⟨rfl, eu⟩
    subst eu
    go_wp2_with fail
    refine HC2.out.mono ?_
    rintro e w3 ⟨rfl, h3⟩
    have hc3 := rall_walk G1.out (by simp) h3
    rw [runs_one] at hc3
    have HC3 := Lib.hid hc3
    clear h3 hc3
    go_wp2_with fail
    refine HC3.out.mono ?_
    rintro e w4 ⟨A, cc, rfl, hs4, h4⟩
    obtain ⟨q4, o4, rfl, hcc⟩ := RN.cells hs4 (by simp)
    have x0 : w4.cell? ⟨q4, o4, none⟩ = some (.int .i64 a) := hcc 0 _ rfl
    have x1 : w4.cell? ⟨q4, o4 + 1, none⟩ = some (.int .i64 (b + c)) := hcc 1 _ rfl
    have x2 : w4.cell? ⟨q4, o4 + 2, none⟩ = some (.int .i64 g) := hcc 2 _ rfl
    have hc4 := rat_walk p F6.out (fun x hx => (G1.out x hx).2.2) h4
    rw [G3.out] at hc4
    have HC4 := Lib.hid hc4
    clear hs4 hcc h4 hc4
    go_wp2_with fail
    refine HC4.out.mono ?_
    rintro e w5 ⟨rfl, h5⟩
    have hc5 := redit_walk 0 (b + c) 0 (by decide) G1.out G2.out (by simp) h5
    rw [G4.out] at hc5
    have HC5 := Lib.hid hc5
    clear h5 hc5 x0 x1 x2
    go_wp2_with fail
    refine HC5.out.mono ?_
    rintro e w6 ⟨rfl, h6⟩
    have hc6 := rall_walk (fun x hx => (by simp at hx)) (by simp) h6
    have HC6 := Lib.hid hc6
    clear h6 hc6
    go_wp2_with fail
    refine HC6.out.mono ?_
    rintro e w7 ⟨A7, c7, rfl, _, h7⟩
    have HG7 := Lib.hid h7.grown
    clear h7
    go_wp2_with fail
    refine (awake22_walk _).mono ?_
    rintro e w8 ⟨rfl, hg8⟩
    have HG8 := Lib.hid (grownBy_trans HG7.out hg8 nofun)
    clear hg8
    go_wp2_with fail
    go_ret
    exact ⟨rfl, HG8.out⟩
end Go.Proofs.Ytijpienjejfmiaa
