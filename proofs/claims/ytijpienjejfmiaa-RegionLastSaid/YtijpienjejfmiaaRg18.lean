/-
  The law RegionNumbers: the walk. No conditions beyond those that the law names.
-/
import Derived.Test.YtijpienjejfmiaaRg17
namespace Go.Proofs.Ytijpienjejfmiaa
open Go Go.RowKit

/-- The law's loop. -/
structure NumRel (rb mb q n : Nat) (w : World) (iv : Value) (wr : World) : Prop where
  out : ∃ j : Nat, j ≤ n ∧ iv = .int .i64 (j : Int) ∧ ∃ L l, PN rb mb q L l w wr ∧ Agree (3000 + 300 * (j : Int)) L l

theorem ans_same {A1 A2 : Option Addr} {c1 c2 N : Nat} {R : List Sp} {w : World} (hl : R.length ≤ 100000) (hN : N = R.length) (h1 : Sl w 3 A1 R.length (rowS R)) (h2 : Sl w 3 A2 R.length (rowS R)) :
    Calls Try.prog 24 #[.slice A1 N c1, .slice A2 N c2] w fun e w' => e = .returned (.bool true) ∧ w.grownBy w' none := by
  subst hN
  exact same21_walk (by omega) h1 h2

theorem Agree.runs_length {b : Int} {L : List Sp} {l : List Int} (h : Agree b L l) (hb : 0 ≤ b) (ho : Ord L) : (L.length : Int) ≤ b := rn_length hb ho h.dis h.rn

theorem tdiv_of {k d : Int} (h : 0 ≤ k) : k.tdiv d = k / d := Int.tdiv_eq_ediv_of_nonneg h
theorem tmod_of {k d : Int} (h : 0 ≤ k) : k.tmod d = k % d := Int.tmod_eq_emod_of_nonneg h

set_option maxRecDepth 100000 in
set_option maxHeartbeats 4000000 in
theorem numbers_walk (xs : List Int) (A : Option Addr) (n c : Nat) (w : World) (hn : n ≤ 9223372036854775807) (hA : Sl w 1 A n (iV xs)) :
    Calls Try.prog 6 #[.slice A n c] w (TrueRes w) := by
  have HA := Lib.hid hA
  have hxl : xs.length = n := by have := hA.1; simpa using this
  have HXL := Lib.hid hxl
  clear hA hxl
  go_enter Try.func6, Try.ntmps6
  go_wp2_with fail
  refine (rnew_walk w).mono ?_
  rintro e w1 ⟨rb, mb, rfl, h1⟩
  have H2 := Lib.hid (PN.start h1)
  clear h1
  by_cases hbig : 100 < n
  · have b1 : (100 : Int) < (n : Int) := by omega
    have HG2 := Lib.hid H2.out.grown
    go_wp2_with fail
    refine (awake22_walk _).mono ?_
    rintro e w8 ⟨rfl, hg8⟩
    have HG8 := Lib.hid (grownBy_trans HG2.out hg8 nofun)
    clear hg8
    go_wp2_with fail
    go_ret
    exact ⟨rfl, HG8.out⟩
  · have b1 : ¬ (100 : Int) < (n : Int) := by omega
    go_upto_region 4 with (fail)
    go_wp2_with fail
    go_loopw [5] (fun iv wr => NumRel rb mb w1.heap.size n w iv wr) (fun iv _ => n - (RowKit.intOf iv).toNat)
    case atStart => exact ⟨0, Nat.zero_le _, rfl, [], [], H2.out, Agree.nil.mono (by omega)⟩
    case round =>
      obtain ⟨j, hj, rfl, L, l, hp, hag⟩ := hrel.out
      rcases Nat.lt_or_ge j n with hlt | hge
      · have hltI : (j : Int) < (n : Int) := Int.ofNat_lt.2 hlt
        obtain ⟨p1, o1, rfl, hc1⟩ := (HA.out.kept hp.grown nofun).2.2 (by omega)
        have hjx : j < xs.length := by rw [HXL.out]; exact hlt
        have x0 := hc1 j (.int .i64 xs[j]) (by rw [List.getElem?_map, List.getElem?_eq_getElem hjx]; rfl)
        have hpl := fun w => place_any xs[j] 1099511627776 w (by decide) (by decide)
        have hk : 0 ≤ xs[j] % 1099511627776 ∧ xs[j] % 1099511627776 < 1099511627776 := by omega
        generalize xs[j] = x at *
        generalize x % 1099511627776 = k at *
        have HP := Lib.hid hp
        have HAG := Lib.hid hag
        have hj100 : j < 100 := by omega
        clear hc1 hjx hp hag
        go_wp2_with fail
        refine (hpl _).mono ?_
        rintro e u1 ⟨rfl, eu⟩
        subst eu
        obtain ⟨k5, e1⟩ : ∃ k5, k.tdiv 5 = k5 := ⟨_, rfl⟩
        obtain ⟨a, e2⟩ : ∃ a, k5.tmod 60 = a := ⟨_, rfl⟩
        obtain ⟨k3, e3⟩ : ∃ k3, k.tdiv 300 = k3 := ⟨_, rfl⟩
        obtain ⟨b, e4⟩ : ∃ b, k3.tmod 15 = b := ⟨_, rfl⟩
        obtain ⟨k4, e5⟩ : ∃ k4, k.tdiv 4500 = k4 := ⟨_, rfl⟩
        obtain ⟨cc, e6⟩ : ∃ cc, k4.tmod 12 = cc := ⟨_, rfl⟩
        obtain ⟨m5, e7⟩ : ∃ m5, k.tmod 5 = m5 := ⟨_, rfl⟩
        have f1 : 0 ≤ k5 ∧ k5 < 1099511627776 := by rw [tdiv_of hk.1] at e1; omega
        have f2 : 0 ≤ a ∧ a < 60 := by rw [tmod_of f1.1] at e2; omega
        have f3 : 0 ≤ k3 ∧ k3 < 1099511627776 := by rw [tdiv_of hk.1] at e3; omega
        have f4 : 0 ≤ b ∧ b < 15 := by rw [tmod_of f3.1] at e4; omega
        have f5 : 0 ≤ k4 ∧ k4 < 1099511627776 := by rw [tdiv_of hk.1] at e5; omega
        have f6 : 0 ≤ cc ∧ cc < 12 := by rw [tmod_of f5.1] at e6; omega
        have f7 : 0 ≤ m5 ∧ m5 < 5 := by rw [tmod_of hk.1] at e7; omega
        obtain ⟨c4, e8⟩ : ∃ c4, cc.tmod 4 = c4 := ⟨_, rfl⟩
        have f8 : 0 ≤ c4 ∧ c4 < 4 := by rw [tmod_of f6.1] at e8; omega
        obtain ⟨ab, e9⟩ : ∃ ab, a + b = ab := ⟨_, rfl⟩
        have g1 : IntKind.i64.wrap k5 = k5 := by rw [IntKind.wrap_i64]; omega
        have g2 : IntKind.i64.wrap a = a := by rw [IntKind.wrap_i64]; omega
        have g3 : IntKind.i64.wrap k3 = k3 := by rw [IntKind.wrap_i64]; omega
        have g4 : IntKind.i64.wrap b = b := by rw [IntKind.wrap_i64]; omega
        have g5 : IntKind.i64.wrap k4 = k4 := by rw [IntKind.wrap_i64]; omega
        have g6 : IntKind.i64.wrap cc = cc := by rw [IntKind.wrap_i64]; omega
        have g7 : IntKind.i64.wrap m5 = m5 := by rw [IntKind.wrap_i64]; omega
        have g8 : IntKind.i64.wrap c4 = c4 := by rw [IntKind.wrap_i64]; omega
        have g9 : IntKind.i64.wrap (a + b) = ab := by rw [IntKind.wrap_i64]; omega
        have F := Lib.hid (And.intro f2 (And.intro f4 (And.intro f6 (And.intro f8 e9))))
        clear hk f1 f2 f3 f4 f5 f6 f8 e9 x0 hpl HXL
        go_upto_region 9 with (fail)
        go_upto_if 47 with (fail)
        go_cut [] from 25 to 102 (fun wx => ∃ L l, PN rb mb w1.heap.size L l w wx ∧ Agree (3000 + 300 * ((j : Int) + 1)) L l)
        case first =>
          obtain ⟨f2, f4, f6, f8, e9⟩ := F.out
          have hab3 : ab ≤ 3000 := by omega
          have hb1 : 0 ≤ 3000 + 300 * (j : Int) ∧ 3000 + 300 * (j : Int) ≤ 100000 := by omega
          have hLl := HAG.out.runs_length hb1.1 HP.out.ord
          have HHB := Lib.hid (And.intro hb1 hLl)
          have HE9 := Lib.hid (And.intro hab3 e9)
          by_cases hm : m5 < 3
          · have hS1 := HP.out.rset HAG.out.rn hb1.2 hLl a ab c4
            obtain ⟨β, hβ⟩ : ∃ β, okB a ab c4 = β := ⟨_, rfl⟩
            rw [hβ] at hS1
            have hbb : (β != β) = false := by simp
            have HS1 := Lib.hid hS1
            have HB := Lib.hid hβ
            clear hS1 hβ hb1 hLl f2 f4 f6 f8 e9 hab3 e1 e2 e3 e4 e5 e6
            go_wp2_with fail
            refine HS1.out.mono ?_
            rintro e w2 ⟨rfl, hp2⟩
            have hS2 := hp2.wset a ab c4 HE9.out.1
            rw [HB.out] at hS2
            have HS2 := Lib.hid hS2
            clear hS2 hp2
            go_wp2_with fail
            refine HS2.out.mono ?_
            rintro e w3 ⟨rfl, hp3⟩
            have HP3 := Lib.hid hp3
            clear hp3
            go_wp2_with fail
            go_meet
            exact ⟨_, _, HP3.out, (HAG.out.setB a ab c4 (by have := HE9.out.1; have := HHB.out.1; omega)).mono (by omega)⟩
          · have hS1 := HP.out.redit HAG.out.rn hb1.2 hLl a b cc (by omega)
            have HS1 := Lib.hid hS1
            have hcc3 : cc ≤ 300 := by omega
            have HCC := Lib.hid hcc3
            clear hS1 hb1 hLl f2 f4 f6 f8 e9 hab3 e1 e2 e3 e4 e5 e6 hcc3
            go_wp2_with fail
            refine HS1.out.mono ?_
            rintro e w2 ⟨rfl, hp2⟩
            have hS2 := hp2.wedit a b cc HCC.out (by have := HAG.out.len; have := HHB.out.1; omega)
            have HS2 := Lib.hid hS2
            clear hS2 hp2
            go_wp2_with fail
            refine HS2.out.mono ?_
            rintro e w3 ⟨rfl, hp3⟩
            have HP3 := Lib.hid hp3
            clear hp3
            go_wp2_with fail
            go_meet
            exact ⟨_, _, HP3.out, (HAG.out.editB a b cc HCC.out HHB.out.1).mono (by omega)⟩
        case rest =>
          clear HP HAG e1 e2 e3 e4 e5 e6 e7
          obtain ⟨L2, l2, hp2, hag2⟩ := hcut
          obtain ⟨f2, f4, f6, f8, e9⟩ := F.out
          have hb1 : 0 ≤ 3000 + 300 * ((j : Int) + 1) ∧ 3000 + 300 * ((j : Int) + 1) ≤ 100000 := by omega
          have hLl := hag2.runs_length hb1.1 hp2.ord
          have hall := hag2.all hp2.ord
          have ha1 := hag2.at_ a
          have ha2 := hag2.at_ ab
          have hRl : (runsL L2).length ≤ 100000 := by
            have := runsL_length L2 L2.length (Nat.le_refl _)
            rw [List.take_length] at this
            omega
          obtain ⟨R, hR⟩ : ∃ R, runsL L2 = R := ⟨_, rfl⟩
          have hC1 := hp2.rall hag2.rn hb1.2 hLl
          rw [hR] at hC1 hall hRl
          have HC1 := Lib.hid hC1
          have HALL := Lib.hid hall.symm
          have HRL := Lib.hid hRl
          have HAT := Lib.hid (And.intro ha1 ha2)
          have HFF := Lib.hid (And.intro f2 (And.intro f4 (And.intro hb1.2 hag2.len)))
          have HAG2 := Lib.hid hag2
          have HF9 := Lib.hid e9
          clear hp2 hag2 f2 f4 f6 f8 e9 hb1 hLl hall ha1 ha2 hRl hR hC1
          go_wp2_with fail
          refine HC1.out.mono ?_
          rintro e w2 ⟨A1, c1, rfl, hs1, hp3⟩
          have hC2 := hp3.wall (by have := HFF.out; omega)
          rw [HALL.out] at hC2
          have HC2 := Lib.hid hC2
          have HS1 := Lib.hid hs1
          clear hC2 hs1 hp3
          go_wp2_with fail
          refine HC2.out.mono ?_
          rintro e w3 ⟨A2, c2, rfl, hs2, hp4, hg3⟩
          have hC3 := same21_walk (c1 := c1) (c2 := c2) (by have := HRL.out; omega) (HS1.out.kept hg3 nofun) hs2
          have HC3 := Lib.hid hC3
          have HP4 := Lib.hid hp4
          clear hC3 hs2 hp4 hg3
          go_wp2_with fail
          refine HC3.out.mono ?_
          rintro e w4 ⟨rfl, hg4⟩
          have hp5 := HP4.out.kept hg4
          have hC4 := hp5.rat HAG2.out.rn a (by have := HFF.out.1; omega) HFF.out.2.2.1
          rw [HAT.out.1] at hC4
          have HC4 := Lib.hid hC4
          clear hg4 hp5 hC4
          go_wp2_with fail
          refine HC4.out.mono ?_
          rintro e w5 ⟨rfl, hp6⟩
          have HC5 := Lib.hid (hp6.wat a)
          clear hp6
          go_wp2_with fail
          refine HC5.out.mono ?_
          rintro e w6 ⟨rfl, hp7⟩
          have hne : (getL l2 a != getL l2 a) = false := by simp
          have hC6 := hp7.rat HAG2.out.rn ab (by have := HFF.out.1; have := HFF.out.2.1; have := HF9.out; omega) HFF.out.2.2.1
          rw [HAT.out.2] at hC6
          have HC6 := Lib.hid hC6
          clear hp7 hC6
          go_wp2_with fail
          refine HC6.out.mono ?_
          rintro e w7 ⟨rfl, hp8⟩
          have HC7 := Lib.hid (hp8.wat ab)
          clear hp8
          go_wp2_with fail
          refine HC7.out.mono ?_
          rintro e w8 ⟨rfl, hp9⟩
          have hne2 : (getL l2 ab != getL l2 ab) = false := by simp
          have HP9 := Lib.hid hp9
          clear hp9
          go_wp2_with fail
          go_roundw
          case rel =>
            have hfin : NumRel rb mb w1.heap.size n w (.int .i64 ((j : Int) + 1)) w8 := ⟨⟨j + 1, hlt, by simp, L2, l2, HP9.out, HAG2.out.mono (by omega)⟩⟩
            exact hfin
          case measure => exact meas hlt
      · have b2 : ¬ (j : Int) < (n : Int) := by omega
        have HG := Lib.hid hp.grown
        clear hp hag
        go_wp2_with fail
        refine (awake22_walk _).mono ?_
        rintro e w8 ⟨rfl, hg8⟩
        have HG8 := Lib.hid (grownBy_trans HG.out hg8 nofun)
        clear hg8
        go_wp2_with fail
        go_ret
        exact ⟨rfl, HG8.out⟩
end Go.Proofs.Ytijpienjejfmiaa
