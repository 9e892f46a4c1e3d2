/-
  HistoryDepth: of more groups than the depth the last ones can be undone, the last one first; then there is none; and all of them again. For every input.
-/
import Derived.Test.YtiiaphgencoijaaHistP
namespace Go.Proofs.Ytiiaphgencoijaa
open Go Go.RowKit

theorem cells_grpD (j : Nat) : ∀ x ∈ grpD j, x.oneCell' = true := by
  intro x hx; simp [grpD] at hx; rcases hx with rfl | rfl | rfl | rfl | rfl | rfl <;> rfl

set_option maxRecDepth 100000 in
set_option maxHeartbeats 1000000 in
theorem depth_walk (a0 a1 : Int) (w : World) :
    Calls Try.prog 4 #[.int .i64 a0, .int .i64 a1] w (TrueRes w) := by
  obtain ⟨d, hd⟩ : ∃ d : Nat, a0 % 70 = d := ⟨(a0 % 70).toNat, by omega⟩
  obtain ⟨K, hK⟩ : ∃ K : Nat, a1 % 120 = K := ⟨(a1 % 120).toNat, by omega⟩
  have hd70 : d < 70 := by omega
  have hK120 : K < 120 := by omega
  have HD := Lib.hid hd
  have HK := Lib.hid hK
  clear hd hK
  go_enter Try.func4, Try.ntmps4
  go_wp2_with fail
  refine (place_any a0 70 w (by omega) (by omega)).mono ?_
  rintro e w' ⟨rfl, rfl⟩
  rw [HD.out]
  go_wp2_with fail
  refine (place_any a1 120 w (by omega) (by omega)).mono ?_
  rintro e w' ⟨rfl, rfl⟩
  rw [HK.out]
  go_wp2_with fail
  refine (hist_new d [] w nofun).mono ?_
  rintro e w1 ⟨rfl, hg1, hs1, D, hD50, hD, hh⟩
  have HDd := Lib.hid hD
  have hh0 := Lib.hid hh
  clear hD hh
  go_wp2_with fail
  go_loopw [8] (fun i wr => ∃ k : Nat, k ≤ K ∧ i = .int .i64 k ∧ Hist wr w.heap.size D [w.heap.size] (lastU grpD D k) [] ∧ w.grownBy wr none) (fun i _ => K - (intOf i).toNat)
  case atStart => exact ⟨0, Nat.zero_le _, rfl, by rw [lastU_zero]; exact hh0.out, hg1⟩
  case round =>
    obtain ⟨k, hk, rfl, hh, hg⟩ := hrel
    by_cases hlt : k < K
    · have hal := World.grownBy_alloc wr (.cells #[.int .i64 k, .string ⟨#[]⟩, .string ⟨#[]⟩, .int .i64 k, .string ⟨#[]⟩, .string ⟨#[121]⟩] 31) none
      have hgo := World.ownsRow_lit (base := 0) (size := 3) (e := 31) wr #[.int .i64 k, .string ⟨#[]⟩, .string ⟨#[]⟩, .int .i64 k, .string ⟨#[]⟩, .string ⟨#[121]⟩] 2 (Nat.zero_le _) (by decide) rfl
      have hh2 := hh.kept hal nofun
      clear hh
      go_wp2_with fail
      refine (hist_push w.heap.size D _ _ [] ⟨wr.heap.size, 0, none⟩ 2 2 (grpD k) _ hh2 (by omega) (by omega) rfl (hgo.cells rfl) (cells_grpD k)).mono ?_
      rintro e w4 ⟨rfl, hg4, hh4⟩
      rw [push_lastU] at hh4
      have hgw := grownBy_trans (grownBy_trans hg hal nofun) hg4 (by intro i e; cases e; exact .inr (Nat.le_refl _))
      clear hal hgo hh2
      go_wp2_with fail
      go_roundw
      case rel => exact ⟨k + 1, by omega, by go_num, hh4, hgw⟩
      case measure => simp [intOf]; omega
    · obtain rfl : k = K := by omega
      obtain ⟨C, hC⟩ : ∃ C, C = min k D := ⟨_, rfl⟩
      have hm3 : ∀ (ts : Array TypeId) (t : TypeId) (w : World), (Builtin.min_ ts t #[.int .i64 k, .int .i64 d, .int .i64 50]).run Try.prog w = .ok (.int .i64 C) w := by
        intro ts t w
        have := HDd.out
        have e : C = min k (min d 50) := by omega
        rw [run_min_int3]; congr 2; split <;> split <;> omega
      have hCK : C ≤ k := by omega
      have hCD : C ≤ D := by omega
      have HC := Lib.hid hC
      clear hC
      go_wp2_with fail
      obtain ⟨U, hU⟩ : ∃ U, U = lastU grpD D k := ⟨_, rfl⟩
      rw [← hU] at hh
      have hlU : U.length = C := by rw [hU, len_lastU, HC.out]
      have hgU : ∀ i, i < C → U[i]? = some (grpD (k - C + i)) := by
        intro i hi; rw [hU, get_lastU _ _ _ _ (by have := HC.out; omega), ← HC.out]
      have HL := Lib.hid hlU
      have HG := Lib.hid hgU
      have HH := Lib.hid hh
      have hgw := hg
      clear hU hlU hgU hh hg
      go_loopw [10] (fun i wr => ∃ j : Nat, j ≤ C ∧ i = .int .i64 j ∧ (∃ L, Hist wr w.heap.size D L (U.take (C - j)) (U.drop (C - j))) ∧ w.grownBy wr none) (fun i _ => C - (intOf i).toNat)
      case atStart => exact ⟨0, Nat.zero_le _, rfl, ⟨_, by rw [Nat.sub_zero, List.take_of_length_le (by rw [HL.out]; omega), List.drop_of_length_le (by rw [HL.out]; omega)]; exact HH.out⟩, hgw⟩
      case round =>
        obtain ⟨j, hj, rfl, ⟨L, hh⟩, hg⟩ := hrel
        by_cases hjC : j < C
        · obtain ⟨m, hm⟩ : ∃ m, C - j = m + 1 := ⟨C - j - 1, by omega⟩
          have hgm := HG.out m (by omega)
          obtain ⟨x, hx⟩ : ∃ x, x = k - C + m := ⟨_, rfl⟩
          rw [← hx] at hgm
          rw [hm, take_snoc_get hgm] at hh
          have hd2 := Lib.hid (drop_cons_get hgm)
          have hxk : ((x : Int) != (k : Int) - 1 - j) = false := by rw [bne_eq_false_iff_eq]; omega
          have HM := Lib.hid hm
          clear hm hgm hx
          go_wp2_with fail
          refine (hist_undo w.heap.size D L _ _ _ _ hh).mono ?_
          rintro e w5 ⟨q, n, cap, rfl, hg5, ho5, hh5⟩
          obtain rfl : n = 2 := by have := ho5.1; simp [grpD] at this; omega
          have hc := ho5.cellAt 3 (by omega)
          simp only [grpD, List.getElem?_cons_succ, List.getElem?_cons_zero] at hc
          rw [← hd2.out] at hh5
          have hh6 := Lib.hid hh5
          have hgw5 := grownBy_trans hg hg5 (by intro i e; cases e; exact .inr (Nat.le_refl _))
          clear hh hh5
          go_wp2_with fail
          go_roundw
          case rel => exact ⟨j + 1, by omega, by go_num, ⟨_, by rw [show C - (j + 1) = m by have := HM.out; omega]; exact hh6.out⟩, hgw5⟩
          case measure => simp [intOf]; omega
        · obtain rfl : j = C := by omega
          rw [Nat.sub_self, List.take_zero, List.drop_zero] at hh
          go_wp2_with fail
          refine (hist_undo_none w.heap.size D L _ _ hh).mono ?_
          rintro e w5 ⟨rfl, rfl⟩
          have hgw3 := hg
          have hh3 := Lib.hid hh
          clear hh hg
          go_wp2_with fail
          go_loopw [15] (fun i wr => ∃ i' : Nat, i' ≤ j ∧ i = .int .i64 i' ∧ (∃ L, Hist wr w.heap.size D L (U.take i') (U.drop i')) ∧ w.grownBy wr none) (fun i _ => j - (intOf i).toNat)
          case atStart => exact ⟨0, Nat.zero_le _, rfl, ⟨_, hh3.out⟩, hgw3⟩
          case round =>
            obtain ⟨m, hm, rfl, ⟨L, hh⟩, hg⟩ := hrel
            by_cases hmC : m < j
            · have hgm := HG.out m hmC
              obtain ⟨x, hx⟩ : ∃ x, x = k - j + m := ⟨_, rfl⟩
              rw [← hx] at hgm
              rw [drop_cons_get hgm] at hh
              have hd2 := Lib.hid (take_snoc_get hgm)
              have hxk : ((x : Int) != (k : Int) - j + m) = false := by rw [bne_eq_false_iff_eq]; omega
              clear hgm hx
              go_wp2_with fail
              refine (hist_redo w.heap.size D L _ _ _ _ hh).mono ?_
              rintro e w5 ⟨q, n, cap, rfl, hg5, ho5, hh5⟩
              obtain rfl : n = 2 := by have := ho5.1; simp [grpD] at this; omega
              have hc := ho5.cellAt 0 (by omega)
              simp only [grpD, List.getElem?_cons_zero] at hc
              rw [← hd2.out] at hh5
              have hh6 := Lib.hid hh5
              have hgw5 := grownBy_trans hg hg5 (by intro i e; cases e; exact .inr (Nat.le_refl _))
              clear hh hh5
              go_wp2_with fail
              go_roundw
              case rel => exact ⟨m + 1, by omega, by go_num, ⟨_, hh6.out⟩, hgw5⟩
              case measure => simp [intOf]; omega
            · obtain rfl : m = j := by omega
              rw [List.take_of_length_le (by rw [HL.out]; omega), List.drop_of_length_le (by rw [HL.out]; omega)] at hh
              go_wp2_with fail
              refine (hist_redo_none w.heap.size D L _ _ hh).mono ?_
              rintro e w5 ⟨rfl, rfl⟩
              go_wp2_with fail
              refine (hist_len _ _ _ _ _ m 0 _ hh HL.out rfl).mono ?_
              rintro e w6 ⟨rfl, hg6⟩
              go_wp2_with fail
              refine (awake08_any w6).mono ?_
              rintro e w7 ⟨rfl, hg7⟩
              go_wp2_with fail
              go_ret
              exact ⟨rfl, grownBy_trans (grownBy_trans hg hg6 nofun) hg7 nofun⟩
end Go.Proofs.Ytiiaphgencoijaa
