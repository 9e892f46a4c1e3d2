/-
  ref17.Far: how far two lists of codes are: the walk. Conditions: at most 1000 codes each.
-/
import Derived.Test.YtdcdhcgfhapbnaaDoorWalkLaw
import Derived.Test.YtdcdhcgfhapbnaaDoorWalkR
import Derived.Deep.OwnRows
import Derived.Deep.CutBlock
namespace Go.Proofs.YtdcdhcgfhapbnaaDoor
open Go Go.RowKit Go.Maps

/-- The table under way. -/
structure FarAt (a b : List Int) (q m N : Nat) (i : Nat) (w wr : World) (c : Array Value) : Prop where
  heap : wr.heap[q]? = some (.cells c 3 (0, 0))
  size : c.size = N
  rows : ∀ i', i' < i → ∀ k', k' ≤ m → c[i' * (m + 1) + k']? = some (.int .i64 (farD a b i' k' : Nat))
  grown : w.grownBy wr none

theorem FarAt.put {a b : List Int} {q m N i P k : Nat} {w wr : World} {c : Array Value} (h : FarAt a b q m N i w wr c) (hP : i * (m + 1) = P) (hrow : ∀ k', k' < k → c[P + k']? = some (.int .i64 (farD a b i k' : Nat)))
    (hT : P + k < N) (hq : w.heap.size ≤ q) {T : Nat} (hTe : P + k = T) {v : Value} (hv : v = .int .i64 (farD a b i k : Nat)) :
    FarAt a b q m N i w (wr.setCell ⟨q, T, none⟩ v) (c.setIfInBounds T v) ∧ ∀ k', k' < k + 1 → (c.setIfInBounds T v)[P + k']? = some (.int .i64 (farD a b i k' : Nat)) := by
  subst hTe hv
  refine ⟨⟨heap_setCell h.heap (P + k) _, by rw [Array.size_setIfInBounds, h.size], fun i' hi' k' hk' => ?_, grownBy_setCell h.grown _ _ _ (.inr hq)⟩, fun k' hk' => ?_⟩
  · have h1 : (i' + 1) * (m + 1) ≤ i * (m + 1) := Nat.mul_le_mul_right _ (by omega)
    rw [Nat.succ_mul] at h1
    rw [Array.getElem?_setIfInBounds_ne (by omega)]
    exact h.rows i' hi' k' hk'
  · rcases Nat.lt_or_ge k' k with h1 | h1
    · rw [Array.getElem?_setIfInBounds_ne (by omega)]
      exact hrow k' h1
    · rw [show k' = k by omega]
      exact Array.getElem?_setIfInBounds_self_of_lt (by rw [h.size]; exact hT)

theorem FarAt.at_ {a b : List Int} {q m N i : Nat} {w wr : World} {c : Array Value} (h : FarAt a b q m N i w wr c) {T : Nat} {v : Value} (hc : c[T]? = some v) : wr.cell? ⟨q, T, none⟩ = some v := by
  rw [cell_of_heap h.heap, hc]

theorem FarAt.drewN {a b : List Int} {q m N i : Nat} {w wr : World} {c : Array Value} (h : FarAt a b q m N i w wr c) (z : Nat) : FarAt a b q m N i w (wr.drewN z) c := ⟨h.heap, h.size, h.rows, grownBy_drewN h.grown z⟩

set_option maxRecDepth 100000 in
set_option maxHeartbeats 8000000 in
theorem far_walk (a b : List Int) (A B : Option Addr) (n m ca cb : Nat) (w : World) (hn : a.length = n) (hm : b.length = m) (hn2 : n ≤ 1000) (hm2 : m ≤ 1000) (hA : Sl w 1 A n (intCells a)) (hB : Sl w 1 B m (intCells b)) :
    Calls Tryd.prog 50 #[.slice A n ca, .slice B m cb] w fun e w' => e = .returned (.int .i64 (farC a b : Nat)) ∧ w.grownBy w' none := by
  obtain ⟨i0, hi0, hz0, hz1, hz2⟩ := info_parts int_info
  obtain ⟨N, hN⟩ : ∃ N, (n + 1) * (m + 1) = N := ⟨_, rfl⟩
  have hNb : N ≤ 1002001 := by rw [← hN]; exact Nat.mul_le_mul (show n + 1 ≤ 1001 by omega) (show m + 1 ≤ 1001 by omega)
  have hNi : ((n : Int) + 1) * ((m : Int) + 1) = (N : Int) := by rw [← hN, Int.natCast_mul]; rfl
  have hNw : IntKind.i64.wrap (N : Int) = (N : Int) := by rw [IntKind.wrap_i64]; omega
  have hmk : ∀ w : World, (Instr.makeSlice 36 (.int .i64 (N : Int)) (.int .i64 (N : Int))).run Tryd.prog w = .ok (.slice (some ⟨w.heap.size, 0, none⟩) N N) (w.alloc (.cells (madeCells #[.int .i64 0] N) 3)) := by
    intro w
    have h := run_make (P := Tryd.prog) w 36 3 i0 _ Tryd.underlying36 hi0 hz0 .i64 .i64 (N : Int) (N : Int) (by omega) (Int.le_refl _) (by rw [hz2]; omega) (by omega)
    rw [Int.toNat_natCast, hz1, Nat.mul_one] at h
    exact h
  have HA := Lib.hid hA
  have HB := Lib.hid hB
  have HN := Lib.hid hn
  have HM := Lib.hid hm
  have HNN := Lib.hid hN
  clear hA hB hn hm hN
  go_enter Tryd.func50, Tryd.ntmps50
  go_wp2_with fail
  have hal := World.grownBy_alloc w (.cells (madeCells #[.int .i64 0] N) 3) none
  have hnw := heap_alloc_new w (.cells (madeCells #[.int .i64 0] N) 3 (0, 0))
  have hsz : (madeCells #[.int .i64 0] N).size = N := by simp [madeCells]
  clear hmk hNi hNw
  obtain ⟨q, hq⟩ : ∃ q, w.heap.size = q := ⟨_, rfl⟩
  rw [hq] at hnw ⊢
  have HQ := Lib.hid hq
  clear hq
  go_loopw [8] (fun iv wr => ∃ (i : Nat) (c : Array Value), i ≤ n + 1 ∧ iv = .int .i64 (i : Int) ∧ FarAt a b q m N i w wr c) (fun iv _ => n + 1 - (intOf iv).toNat)
  case atStart => exact ⟨0, _, Nat.zero_le _, rfl, ⟨hnw, hsz, fun i' h => absurd h (by omega), hal⟩⟩
  case round =>
    obtain ⟨i, c, hi, rfl, hat⟩ := hrel
    rcases Nat.lt_or_ge i (n + 1) with hlt | hge
    · have hli : (i : Int) ≤ (n : Int) := by omega
      obtain ⟨P, hP⟩ : ∃ P, i * (m + 1) = P := ⟨_, rfl⟩
      have hPN : P + (m + 1) ≤ N := by
        rw [← HNN.out, ← hP, ← Nat.succ_mul]
        exact Nat.mul_le_mul_right _ (by omega)
      have hPi : (i : Int) * ((m : Int) + 1) = (P : Int) := by rw [← hP, Int.natCast_mul]; rfl
      have hPw : IntKind.i64.wrap (P : Int) = (P : Int) := by rw [IntKind.wrap_i64]; omega
      have HAT := Lib.hid hat
      have HP := Lib.hid hP
      clear hat hP hal hnw hsz
      go_wp2_with fail
      go_loopw [9] (fun kv wx => ∃ (k : Nat) (c : Array Value), k ≤ m + 1 ∧ kv = .int .i64 (k : Int) ∧ FarAt a b q m N i w wx c ∧ ∀ k', k' < k → c[P + k']? = some (.int .i64 (farD a b i k' : Nat))) (fun kv _ => m + 1 - (intOf kv).toNat)
      case atStart => exact ⟨0, c, Nat.zero_le _, rfl, HAT.out, fun k' h => absurd h (by omega)⟩
      case round =>
        obtain ⟨k, c2, hk, rfl, hat2, hrow⟩ := hrel
        rcases Nat.lt_or_ge k (m + 1) with hkm | hkm
        · have hlk : (k : Int) ≤ (m : Int) := by omega
          have HAT2 := Lib.hid hat2
          have HROW := Lib.hid hrow
          clear hat2 hrow
          obtain ⟨T, hT⟩ : ∃ T, P + k = T := ⟨_, rfl⟩
          have hTN : T < N := by omega
          have hTi : (P : Int) + (k : Int) = (T : Int) := by omega
          have hTw : IntKind.i64.wrap (T : Int) = (T : Int) := by rw [IntKind.wrap_i64]; omega
          have hTl : (T : Int) < (N : Int) := by omega
          have hcT := HAT2.out.at_ (T := T) (Array.getElem?_eq_getElem (by rw [HAT2.out.size]; exact hTN))
          have hfT := frozen_of_heap HAT2.out.heap T
          have HTE := Lib.hid hT
          clear hT
          rcases Nat.eq_zero_or_pos k with rfl | hkp
          · have hTP : (P : Int) = (T : Int) := by omega
            go_wp2_with fail
            go_roundw
            case rel =>
              obtain ⟨u1, u2⟩ := HAT2.out.put HP.out HROW.out (by omega) (by rw [HQ.out]; exact Nat.le_refl _) HTE.out (v := .int .i64 (i : Int)) (by rw [farD_left (by rw [HN.out]; omega)])
              exact ⟨0 + 1, _, by omega, by go_num, u1, u2⟩
            case measure => first | (simp [intOf]; done) | (simp [intOf]; omega)
          · have hk0 : ((k : Int) == 0) = false := by rw [beq_eq_false_iff_ne]; omega
            obtain ⟨k', hk'⟩ : ∃ k', k = k' + 1 := ⟨k - 1, by omega⟩
            have ik : (k : Int) - 1 = (k' : Int) := by omega
            have HK := Lib.hid hk'
            rcases Nat.eq_zero_or_pos i with hi00 | hip
            · have hi0t : ((i : Int) == 0) = true := by rw [beq_iff_eq]; omega
              have HI0 := Lib.hid hi00
              clear hi00 hk' ik
              go_wp2_with fail
              go_roundw
              case rel =>
                obtain ⟨u1, u2⟩ := HAT2.out.put HP.out HROW.out (by omega) (by rw [HQ.out]; exact Nat.le_refl _) HTE.out (v := .int .i64 (k : Int)) (by rw [HI0.out, farD_top (by rw [HM.out]; omega)])
                exact ⟨k + 1, _, by omega, by go_num, u1, u2⟩
              case measure => first | (simp [intOf]; done) | (simp [intOf]; omega)
            · have hi0f : ((i : Int) == 0) = false := by rw [beq_eq_false_iff_ne]; omega
              obtain ⟨i', hi'⟩ : ∃ i', i = i' + 1 := ⟨i - 1, by omega⟩
              have ii : (i : Int) - 1 = (i' : Int) := by omega
              have HI := Lib.hid hi'
              obtain ⟨P1, hP1⟩ : ∃ P1, i' * (m + 1) = P1 := ⟨_, rfl⟩
              have hPP : P = P1 + (m + 1) := by rw [← HP.out, ← hP1, hi', Nat.succ_mul]
              have hTT := HTE.out
              obtain ⟨U, hU⟩ : ∃ U, P1 + k' + 2 = U := ⟨_, rfl⟩
              obtain ⟨V1, hV1⟩ : ∃ V1, P1 + (k' + 1) = V1 := ⟨_, rfl⟩
              obtain ⟨V2, hV2⟩ : ∃ V2, P + k' = V2 := ⟨_, rfl⟩
              obtain ⟨V3, hV3⟩ : ∃ V3, P1 + k' = V3 := ⟨_, rfl⟩
              have iU : (T : Int) - (m : Int) = (U : Int) := by omega
              have iV1 : (U : Int) - 1 = (V1 : Int) := by omega
              have iV2 : (T : Int) - 1 = (V2 : Int) := by omega
              have iV3 : (U : Int) - 2 = (V3 : Int) := by omega
              have wU : IntKind.i64.wrap (U : Int) = (U : Int) := by rw [IntKind.wrap_i64]; omega
              have wV1 : IntKind.i64.wrap (V1 : Int) = (V1 : Int) := by rw [IntKind.wrap_i64]; omega
              have wV2 : IntKind.i64.wrap (V2 : Int) = (V2 : Int) := by rw [IntKind.wrap_i64]; omega
              have wV3 : IntKind.i64.wrap (V3 : Int) = (V3 : Int) := by rw [IntKind.wrap_i64]; omega
              have wi : IntKind.i64.wrap (i' : Int) = (i' : Int) := by rw [IntKind.wrap_i64]; omega
              have wk : IntKind.i64.wrap (k' : Int) = (k' : Int) := by rw [IntKind.wrap_i64]; omega
              have lV1 : (V1 : Int) < (N : Int) := by omega
              have lV2 : (V2 : Int) < (N : Int) := by omega
              have lV3 : (V3 : Int) < (N : Int) := by omega
              have li' : (i' : Int) < (n : Int) := by omega
              have lk' : (k' : Int) < (m : Int) := by omega
              have g1 := HAT2.out.rows i' (by omega) (k' + 1) (by omega)
              rw [hP1, hV1] at g1
              have g2 := HROW.out k' (by omega)
              rw [hV2, hi'] at g2
              have g3 := HAT2.out.rows i' (by omega) k' (by omega)
              rw [hP1, hV3] at g3
              have d1 := HAT2.out.at_ g1
              have d2 := HAT2.out.at_ g2
              have d3 := HAT2.out.at_ g3
              obtain ⟨ab, ao, eA, ha⟩ := int_cell (HA.out.kept HAT2.out.grown nofun) HN.out (by omega)
              cases eA
              obtain ⟨bb, bo, eB, hb⟩ := int_cell (HB.out.kept HAT2.out.grown nofun) HM.out (by omega)
              cases eB
              have ha1 := ha i' (by omega)
              have hb1 := hb k' (by omega)
              have hx1 := farD_le (a := a) (b := b) (i := i') (k := k' + 1) (by rw [HN.out]; omega) (by rw [HM.out]; omega)
              have hx2 := farD_le (a := a) (b := b) (i := i' + 1) (k := k') (by rw [HN.out]; omega) (by rw [HM.out]; omega)
              have hx3 := farD_le (a := a) (b := b) (i := i') (k := k') (by rw [HN.out]; omega) (by rw [HM.out]; omega)
              have HHA := Lib.hid ha
              have HHB := Lib.hid hb
              obtain ⟨x1, hx1e⟩ : ∃ x1, farD a b i' (k' + 1) = x1 := ⟨_, rfl⟩
              obtain ⟨x2, hx2e⟩ : ∃ x2, farD a b (i' + 1) k' = x2 := ⟨_, rfl⟩
              obtain ⟨x3, hx3e⟩ : ∃ x3, farD a b i' k' = x3 := ⟨_, rfl⟩
              obtain ⟨ai, hai2⟩ : ∃ ai, a.getD i' 0 = ai := ⟨_, rfl⟩
              obtain ⟨bk, hbk2⟩ : ∃ bk, b.getD k' 0 = bk := ⟨_, rfl⟩
              rw [hx1e] at d1 hx1
              rw [hx2e] at d2 hx2
              rw [hx3e] at d3 hx3
              rw [hai2] at ha1
              rw [hbk2] at hb1
              have HX := Lib.hid (And.intro hx1e (And.intro hx2e (And.intro hx3e (And.intro hai2 hbk2))))
              have HV := Lib.hid (And.intro hP1 (And.intro hPP hTT))
              obtain ⟨cc, hcc⟩ : ∃ cc : Nat, (if ai = bk then 0 else 1) = cc := ⟨_, rfl⟩
              have hcc1 : cc ≤ 1 := by rw [← hcc]; split <;> omega
              have HCC := Lib.hid hcc
              have hx3b : x1 ≤ 2001 ∧ x2 ≤ 2001 ∧ x3 ≤ 2001 := by omega
              obtain ⟨bx1, bx2, bx3⟩ := hx3b
              clear hU hV1 hV2 hV3 hP1 hPP hTT g1 g2 g3 ha hb hai2 hbk2 hx1e hx2e hx3e hx1 hx2 hx3 hcc hi' hk'
              go_upto_region 11 with (fail)
              go_quiet (fail)
              go_upto_if 49 with (fail)
              go_cut [11] (fun v wx => v = .int .i64 (cc : Int) ∧ wx.heap = wr.heap ∧ wr.grownBy wx none)
              case first =>
                have hcc := HCC.out
                by_cases hab : ai = bk
                · rw [if_pos hab] at hcc
                  subst hcc
                  go_wp2_with fail
                  go_meet
                  exact ⟨by first | rfl | trivial, by first | rfl | exact hhz, by first | exact grownBy_refl _ none | exact grownBy_drewN (grownBy_refl _ none) _ | exact grownBy_drewN (grownBy_drewN (grownBy_refl _ none) _) _ | exact grownBy_drewN hgz _ | exact grownBy_drewN (grownBy_drewN hgz _) _ | exact grownBy_drewN (grownBy_drewN (grownBy_drewN hgz _) _) _⟩
                · rw [if_neg hab] at hcc
                  subst hcc
                  go_wp2_with fail
                  go_meet
                  exact ⟨by first | rfl | trivial, by first | rfl | exact hhz, by first | exact grownBy_refl _ none | exact grownBy_drewN (grownBy_refl _ none) _ | exact grownBy_drewN (grownBy_drewN (grownBy_refl _ none) _) _ | exact grownBy_drewN hgz _ | exact grownBy_drewN (grownBy_drewN hgz _) _ | exact grownBy_drewN (grownBy_drewN (grownBy_drewN hgz _) _) _⟩
              case rest =>
                obtain ⟨rfl, hhz, hgz⟩ := hcut
                have e1 := hgz.cell d1 nofun
                have e2 := hgz.cell d2 nofun
                have e3 := hgz.cell d3 nofun
                clear d1 d2 d3 ha1 hb1
                obtain ⟨d0, hd0⟩ : ∃ d0, min (min (x1 + 1) (x2 + 1)) (x3 + cc) = d0 := ⟨_, rfl⟩
                have hmin : ∀ (ts : Array TypeId) (t : TypeId) (w : World), (Builtin.min_ ts t #[.int .i64 ((x1 : Int) + 1), .int .i64 ((x2 : Int) + 1), .int .i64 ((x3 : Int) + (cc : Int))]).run Tryd.prog w = .ok (.int .i64 (d0 : Int)) w := by
                  intro ts t w
                  rw [run_min_int3]; congr 2; rw [← hd0]; split <;> split <;> omega
                have hd0b : d0 ≤ 2002 := by omega
                have HD0 := Lib.hid hd0
                clear hd0
                go_upto_region 13 with (fail)
                go_quiet (fail)
                have HLI := Lib.hid (And.intro hli hlk)
                clear e1 e2 e3 wV1 wV2 wV3 lV1 lV2 lV3 iU iV1 iV2 iV3 wU hTw hTl hcT hfT hTi hPi hPw hk0 hi0f hmin hli hlk
                go_upto_region 14 with (fail)
                have hcell := farD_cell (a := a) (b := b) (i := i') (k := k') (by rw [HN.out]; have := HLI.out; omega) (by rw [HM.out]; have := HLI.out; omega)
                rw [HX.out.1, HX.out.2.1, HX.out.2.2.1, HX.out.2.2.2.1, HX.out.2.2.2.2, HCC.out, HD0.out] at hcell
                obtain ⟨b0, hb0⟩ : ∃ b0, b.getD (k' - 1) 0 = b0 := ⟨_, rfl⟩
                obtain ⟨a0, ha0⟩ : ∃ a0, a.getD (i' - 1) 0 = a0 := ⟨_, rfl⟩
                rw [hb0, ha0] at hcell
                have HCELL := Lib.hid hcell
                have HB0 := Lib.hid hb0
                have HA0 := Lib.hid ha0
                obtain ⟨tb, htb⟩ : ∃ tb, decide (0 < i' ∧ 0 < k' ∧ ai = b0 ∧ a0 = bk) = tb := ⟨_, rfl⟩
                have HTB := Lib.hid htb
                clear hcell hb0 ha0 htb
                go_cut [105] (fun v wx => v = .bool tb ∧ wx.heap = wr.heap ∧ wr.grownBy wx none)
                case first =>
                  have htb := HTB.out
                  rcases Nat.eq_zero_or_pos i' with h1 | h1
                  · rw [decide_eq_false (by omega)] at htb
                    subst htb
                    have j1 : decide ((1 : Int) < (i : Int)) = false := decide_eq_false (by have := HI.out; omega)
                    clear h1
                    go_wp2_with fail
                    go_quiet (fail)
                    go_wp2_with fail
                    go_meet
                    exact ⟨by first | rfl | trivial, by first | rfl | exact hhz, by first | exact grownBy_refl _ none | exact grownBy_drewN (grownBy_refl _ none) _ | exact grownBy_drewN (grownBy_drewN (grownBy_refl _ none) _) _ | exact grownBy_drewN hgz _ | exact grownBy_drewN (grownBy_drewN hgz _) _ | exact grownBy_drewN (grownBy_drewN (grownBy_drewN hgz _) _) _⟩
                  · rcases Nat.eq_zero_or_pos k' with h2 | h2
                    · rw [decide_eq_false (by omega)] at htb
                      subst htb
                      have j1 : decide ((1 : Int) < (i : Int)) = true := decide_eq_true (by have := HI.out; omega)
                      have j2 : decide ((1 : Int) < (k : Int)) = false := decide_eq_false (by have := HK.out; omega)
                      clear h1 h2
                      go_wp2_with fail
                      go_quiet (fail)
                      go_wp2_with fail
                      go_meet
                      exact ⟨by first | rfl | trivial, by first | rfl | exact hhz, by first | exact grownBy_refl _ none | exact grownBy_drewN (grownBy_refl _ none) _ | exact grownBy_drewN (grownBy_drewN (grownBy_refl _ none) _) _ | exact grownBy_drewN hgz _ | exact grownBy_drewN (grownBy_drewN hgz _) _ | exact grownBy_drewN (grownBy_drewN (grownBy_drewN hgz _) _) _⟩
                    · have j1 : decide ((1 : Int) < (i : Int)) = true := decide_eq_true (by have := HI.out; omega)
                      have j2 : decide ((1 : Int) < (k : Int)) = true := decide_eq_true (by have := HK.out; omega)
                      obtain ⟨i2, hi2⟩ : ∃ i2, i' - 1 = i2 := ⟨_, rfl⟩
                      obtain ⟨k2, hk2⟩ : ∃ k2, k' - 1 = k2 := ⟨_, rfl⟩
                      have ii2 : (i : Int) - 2 = (i2 : Int) := by have := HI.out; omega
                      have ik2 : (k : Int) - 2 = (k2 : Int) := by have := HK.out; omega
                      have wi2 : IntKind.i64.wrap (i2 : Int) = (i2 : Int) := by rw [IntKind.wrap_i64]; omega
                      have wk2 : IntKind.i64.wrap (k2 : Int) = (k2 : Int) := by rw [IntKind.wrap_i64]; omega
                      have li2 : (i2 : Int) < (n : Int) := by omega
                      have lk2 : (k2 : Int) < (m : Int) := by omega
                      have hA1 := hgz.cell (HHA.out i' (by omega)) nofun
                      rw [HX.out.2.2.2.1] at hA1
                      have hB1 := hgz.cell (HHB.out k' (by omega)) nofun
                      rw [HX.out.2.2.2.2] at hB1
                      have ha2 := hgz.cell (HHA.out i2 (by omega)) nofun
                      have hb2 := hgz.cell (HHB.out k2 (by omega)) nofun
                      have e1 := HA0.out
                      have e2 := HB0.out
                      rw [hi2] at e1
                      rw [hk2] at e2
                      rw [e1] at ha2
                      rw [e2] at hb2
                      by_cases h3 : ai = b0
                      · by_cases h4 : a0 = bk
                        · rw [decide_eq_true ⟨h1, h2, h3, h4⟩] at htb
                          subst htb
                          clear h1 h2 e1 e2 hi2 hk2
                          go_wp2_with fail
                          go_quiet (fail)
                          go_wp2_with fail
                          go_meet
                          exact ⟨by first | rfl | trivial, by first | rfl | exact hhz, by first | exact grownBy_refl _ none | exact grownBy_drewN (grownBy_refl _ none) _ | exact grownBy_drewN (grownBy_drewN (grownBy_refl _ none) _) _ | exact grownBy_drewN hgz _ | exact grownBy_drewN (grownBy_drewN hgz _) _ | exact grownBy_drewN (grownBy_drewN (grownBy_drewN hgz _) _) _⟩
                        · rw [decide_eq_false (fun e => h4 e.2.2.2)] at htb
                          subst htb
                          have h4b : (a0 == bk) = false := by rw [beq_eq_false_iff_ne]; exact h4
                          clear h1 h2 e1 e2 hi2 hk2
                          go_wp2_with fail
                          go_quiet (fail)
                          go_wp2_with fail
                          go_meet
                          exact ⟨by first | rfl | trivial, by first | rfl | exact hhz, by first | exact grownBy_refl _ none | exact grownBy_drewN (grownBy_refl _ none) _ | exact grownBy_drewN (grownBy_drewN (grownBy_refl _ none) _) _ | exact grownBy_drewN hgz _ | exact grownBy_drewN (grownBy_drewN hgz _) _ | exact grownBy_drewN (grownBy_drewN (grownBy_drewN hgz _) _) _⟩
                      · rw [decide_eq_false (fun e => h3 e.2.2.1)] at htb
                        subst htb
                        have h3b : (ai == b0) = false := by rw [beq_eq_false_iff_ne]; exact h3
                        clear h1 h2 e1 e2 hi2 hk2
                        go_wp2_with fail
                        go_quiet (fail)
                        go_wp2_with fail
                        go_meet
                        exact ⟨by first | rfl | trivial, by first | rfl | exact hhz, by first | exact grownBy_refl _ none | exact grownBy_drewN (grownBy_refl _ none) _ | exact grownBy_drewN (grownBy_drewN (grownBy_refl _ none) _) _ | exact grownBy_drewN hgz _ | exact grownBy_drewN (grownBy_drewN hgz _) _ | exact grownBy_drewN (grownBy_drewN (grownBy_drewN hgz _) _) _⟩
                case rest =>
                  obtain ⟨rfl, hh2, hg2⟩ := hcut
                  go_upto_if 105 with (fail)
                  obtain ⟨fd, hfd⟩ : ∃ fd, farD a b (i' + 1) (k' + 1) = fd := ⟨_, rfl⟩
                  have hcell := HCELL.out
                  rw [hfd] at hcell
                  have HFD := Lib.hid hfd
                  have HCL := Lib.hid hcell
                  clear hfd hcell
                  go_cut [12] (fun v wx => v = .int .i64 (fd : Int) ∧ wx.heap = wr.heap ∧ wr.grownBy wx none)
                  case first =>
                    have htb := HTB.out
                    have hcell := HCL.out
                    cases tb
                    · rw [if_neg (of_decide_eq_false htb)] at hcell
                      subst hcell
                      clear htb
                      go_wp2_with fail
                      go_meet
                      exact ⟨by first | rfl | trivial, hh2, hg2⟩
                    · have hcond := of_decide_eq_true htb
                      rw [if_pos hcond] at hcell
                      have hc1 := hcond.1
                      have hc2 := hcond.2.1
                      clear htb hcond
                      obtain ⟨i2, hi2⟩ : ∃ i2, i' = i2 + 1 := ⟨i' - 1, by omega⟩
                      obtain ⟨k2, hk2⟩ : ∃ k2, k' = k2 + 1 := ⟨k' - 1, by omega⟩
                      obtain ⟨P2, hP2⟩ : ∃ P2, i2 * (m + 1) = P2 := ⟨_, rfl⟩
                      have hPP2 : P1 = P2 + (m + 1) := by rw [← HV.out.1, ← hP2, hi2, Nat.succ_mul]
                      have hPP1 := HV.out.2.1
                      have hTT := HV.out.2.2
                      have hik := HI.out
                      have hkk := HK.out
                      have hll := HLI.out
                      have e1 : i' - 1 = i2 := by omega
                      have e2 : k' - 1 = k2 := by omega
                      rw [e1, e2] at hcell
                      obtain ⟨X, hX⟩ : ∃ X, P2 + k2 + 2 = X := ⟨_, rfl⟩
                      obtain ⟨V4, hV4⟩ : ∃ V4, P2 + k2 = V4 := ⟨_, rfl⟩
                      have g4 := HAT2.out.rows i2 (by omega) k2 (by omega)
                      rw [hP2, hV4] at g4
                      have d4 := hg2.cell (HAT2.out.at_ g4) nofun
                      have hx4 := farD_le (a := a) (b := b) (i := i2) (k := k2) (by rw [HN.out]; omega) (by rw [HM.out]; omega)
                      obtain ⟨x4, hx4e⟩ : ∃ x4, farD a b i2 k2 = x4 := ⟨_, rfl⟩
                      rw [hx4e] at d4 hx4 hcell
                      have iX : (T : Int) - 2 * ((m : Int) + 1) = (X : Int) := by omega
                      have iV4 : (X : Int) - 2 = (V4 : Int) := by omega
                      have w2m : IntKind.i64.wrap (2 * ((m : Int) + 1)) = 2 * ((m : Int) + 1) := by rw [IntKind.wrap_i64]; omega
                      have wX : IntKind.i64.wrap (X : Int) = (X : Int) := by rw [IntKind.wrap_i64]; omega
                      have wV4 : IntKind.i64.wrap (V4 : Int) = (V4 : Int) := by rw [IntKind.wrap_i64]; omega
                      have lV4 : (V4 : Int) < (N : Int) := by omega
                      have hmin2 : ∀ (ts : Array TypeId) (t : TypeId) (w : World), (Builtin.min_ ts t #[.int .i64 (d0 : Int), .int .i64 ((x4 : Int) + 1)]).run Tryd.prog w = .ok (.int .i64 (fd : Int)) w := by
                        intro ts t w
                        rw [run_min_int2]; congr 2; rw [hcell]; split <;> omega
                      have hx4b : x4 ≤ 2000 := by omega
                      clear hcell g4 hx4 hx4e hX hV4 hP2 hPP2 hPP1 hTT hik hkk hll e1 e2 hi2 hk2 hc1 hc2
                      go_wp2_with fail
                      go_meet
                      exact ⟨by first | rfl | trivial, hh2, hg2⟩
                  case rest =>
                    obtain ⟨rfl, hh3, hg3⟩ := hcut
                    have hatc : FarAt a b q m N i w wc c2 := ⟨by rw [hh3]; exact HAT2.out.heap, HAT2.out.size, HAT2.out.rows, grownBy_trans HAT2.out.grown hg3 nofun⟩
                    have hTl : (T : Int) < (N : Int) := by omega
                    obtain ⟨old, hold⟩ : ∃ old, c2[T]? = some old := ⟨_, Array.getElem?_eq_getElem (by rw [hatc.size]; exact hTN)⟩
                    have hcT := hatc.at_ hold
                    have hfT := frozen_of_heap hatc.heap T
                    have HATC := Lib.hid hatc
                    have hkb : (k : Int) ≤ 1000 := by have := HLI.out; omega
                    clear hatc hh3 hg3 hh2 hg2 hhz hgz ii ik wi wk li' lk'
                    go_wp2_with fail
                    go_roundw
                    case rel =>
                      have hll := HLI.out
                      obtain ⟨u1, u2⟩ := HATC.out.put HP.out HROW.out (by omega) (by rw [HQ.out]; exact Nat.le_refl _) HTE.out (v := .int .i64 (fd : Int)) (by rw [HI.out, HK.out, HFD.out])
                      exact ⟨k + 1, _, by omega, by go_num, u1, u2⟩
                    case measure =>
                      have := HLI.out
                      first | (simp [intOf]; done) | (simp [intOf]; omega)
        · obtain rfl : k = m + 1 := by omega
          have HAT2 := Lib.hid hat2
          have HROW := Lib.hid hrow
          clear hat2 hrow
          go_wp2_with fail
          go_roundw
          case rel =>
            refine ⟨i + 1, c2, by omega, by go_num, HAT2.out.heap, HAT2.out.size, fun i' hi' k' hk' => ?_, HAT2.out.grown⟩
            rcases Nat.lt_or_ge i' i with h | h
            · exact HAT2.out.rows i' h k' hk'
            · rw [show i' = i by omega, HP.out]
              exact HROW.out k' (by omega)
          case measure => first | (simp [intOf]; done) | (simp [intOf]; omega)
    · obtain rfl : i = n + 1 := by omega
      have g := hat.rows n (by omega) m (Nat.le_refl _)
      have hlast : n * (m + 1) + m < N := by rw [← HNN.out, Nat.succ_mul]; omega
      obtain ⟨P, hP⟩ : ∃ P, n * (m + 1) = P := ⟨_, rfl⟩
      obtain ⟨V, hV⟩ : ∃ V, P + m = V := ⟨_, rfl⟩
      rw [hP, hV] at g
      rw [hP, hV] at hlast
      have d := hat.at_ g
      have hPi : (n : Int) * ((m : Int) + 1) = (P : Int) := by rw [← hP, Int.natCast_mul]; rfl
      have hPw : IntKind.i64.wrap (P : Int) = (P : Int) := by rw [IntKind.wrap_i64]; omega
      have hVi : (P : Int) + (m : Int) = (V : Int) := by omega
      have hVw : IntKind.i64.wrap (V : Int) = (V : Int) := by rw [IntKind.wrap_i64]; omega
      have hVl : (V : Int) < (N : Int) := by omega
      have HG := Lib.hid hat.grown
      have he : farD a b n m = farC a b := by have := farD_far a b; rw [HN.out, HM.out] at this; exact this
      rw [he] at d
      clear hat g hP hV hal hnw hsz he
      go_wp2_with fail
      go_ret
      exact ⟨rfl, HG.out⟩
end Go.Proofs.YtdcdhcgfhapbnaaDoor
