/-
  HistoryCleared: behind a new group nothing can be redone; one of no edits turns nothing. For every input.
-/
import Derived.Test.YtiiaphgencoijaaHistP
namespace Go.Proofs.Ytiiaphgencoijaa
open Go Go.RowKit

/-- A group of one edit, at place j. -/
def grpC (j : Nat) : List Value := [.int .i64 j, .string ⟨#[]⟩, .string ⟨#[]⟩]

theorem hist_push_none (b d : Nat) (L : List Nat) (U R : List (List Value)) (a : Option Addr) (c : Nat) (w : World) (_h : Hist w b d L U R) :
    Calls Try.prog 16 #[.pointer (some ⟨b, 0, none⟩), .slice a 0 c] w fun e w' => e = .returned (.tuple #[]) ∧ w = w' := push_none b a c w

set_option maxRecDepth 100000 in
set_option maxHeartbeats 1000000 in
theorem cleared_walk (a0 a1 : Int) (a2 : Bool) (w : World) :
    Calls Try.prog 5 #[.int .i64 a0, .int .i64 a1, .bool a2] w (TrueRes w) := by
  obtain ⟨K', hK⟩ : ∃ K' : Nat, a0 % 15 = K' := ⟨(a0 % 15).toNat, by omega⟩
  have hK15 : K' < 15 := by omega
  obtain ⟨K, hKK⟩ : ∃ K, K = K' + 1 := ⟨_, rfl⟩
  obtain ⟨J', hJ⟩ : ∃ J' : Nat, a1 % (K : Int) = J' := ⟨(a1 % (K : Int)).toNat, by have := Int.emod_nonneg a1 (show (K : Int) ≠ 0 by omega); omega⟩
  have hJK : J' < K := by have := Int.emod_lt_of_pos a1 (show (0 : Int) < K by omega); omega
  obtain ⟨J, hJJ⟩ : ∃ J, J = J' + 1 := ⟨_, rfl⟩
  obtain ⟨M, hM⟩ : ∃ M, M = K - J := ⟨_, rfl⟩
  have hK1 : K ≤ 15 := by omega
  have hJ1 : 1 ≤ J := by omega
  have hJ2 : J ≤ K := by omega
  have eK := Lib.hid (show (1 : Int) + K' = K by omega)
  have eJ := Lib.hid (show (1 : Int) + J' = J by omega)
  have b1 : ((M : Int) != (K : Int) - J) = false := by rw [bne_eq_false_iff_eq]; omega
  have b2 : ((M : Int) == (K : Int) - J) = true := by rw [beq_iff_eq]; omega
  have HK := Lib.hid hK
  have HJ := Lib.hid hJ
  have HM := Lib.hid (show M + J = K by omega)
  have hMJ : M + 1 ≤ 15 := by omega
  clear hK hJ hKK hJJ hM
  go_enter Try.func5, Try.ntmps5
  go_wp2_with fail
  refine (hist_new 20 [] w nofun).mono ?_
  rintro e w1 ⟨rfl, hg1, hs1, D, _, hD, hh⟩
  obtain rfl : D = 20 := by omega
  have hh0 := Lib.hid hh
  clear hD hh
  go_wp2_with fail
  refine (place_any a0 15 w1 (by omega) (by omega)).mono ?_
  rintro e w' ⟨rfl, rfl⟩
  rw [HK.out]
  go_wp2_with fail
  rw [eK.out]
  refine (place_any a1 K w1 (by omega) (by omega)).mono ?_
  rintro e w' ⟨rfl, rfl⟩
  rw [HJ.out]
  go_wp2_with fail
  rw [eJ.out]
  go_loopw [10] (fun i wr => ∃ k : Nat, k ≤ K ∧ i = .int .i64 k ∧ Hist wr w.heap.size 20 [w.heap.size] (lastU grpC 20 k) [] ∧ w.grownBy wr none) (fun i _ => K - (intOf i).toNat)
  case atStart => exact ⟨0, Nat.zero_le _, rfl, by rw [lastU_zero]; exact hh0.out, hg1⟩
  case round =>
    obtain ⟨k, hk, rfl, hh, hg⟩ := hrel
    by_cases hlt : k < K
    · have hal := World.grownBy_alloc wr (.cells #[.int .i64 k, .string ⟨#[]⟩, .string ⟨#[]⟩] 31) none
      have hgo := World.ownsRow_lit (base := 0) (size := 3) (e := 31) wr #[.int .i64 k, .string ⟨#[]⟩, .string ⟨#[]⟩] 1 (Nat.zero_le _) (by decide) rfl
      have hh2 := hh.kept hal nofun
      clear hh
      go_wp2_with fail
      refine (hist_push w.heap.size 20 _ _ [] ⟨wr.heap.size, 0, none⟩ 1 1 (grpC k) _ hh2 (by omega) (by omega) rfl (hgo.cells rfl) (cells_edit1 _ _ _)).mono ?_
      rintro e w4 ⟨rfl, hg4, hh4⟩
      rw [push_lastU] at hh4
      have hgw := grownBy_trans (grownBy_trans hg hal nofun) hg4 (by intro i e; cases e; exact .inr (Nat.le_refl _))
      clear hal hgo hh2
      go_wp2_with fail
      go_roundw
      case rel => exact ⟨k + 1, by omega, by go_num, hh4, hgw⟩
      case measure => simp [intOf]; omega
    · obtain rfl : k = K := by omega
      obtain ⟨U, hU⟩ : ∃ U, U = lastU grpC 20 k := ⟨_, rfl⟩
      rw [← hU] at hh
      have hlU : U.length = k := by rw [hU, len_lastU]; omega
      have hgU : ∀ i, i < k → U[i]? = some (grpC i) := by
        intro i hi; rw [hU, get_lastU _ _ _ _ (by omega)]; congr 2; omega
      have HL := Lib.hid hlU
      have HG := Lib.hid hgU
      have HH := Lib.hid hh
      have hgw := hg
      clear hU hlU hgU hh hg
      go_wp2_with fail
      go_loopw [11] (fun i wr => ∃ j : Nat, j ≤ J ∧ i = .int .i64 j ∧ (∃ L, Hist wr w.heap.size 20 L (U.take (k - j)) (U.drop (k - j))) ∧ w.grownBy wr none) (fun i _ => J - (intOf i).toNat)
      case atStart => exact ⟨0, Nat.zero_le _, rfl, ⟨_, by rw [Nat.sub_zero, List.take_of_length_le (by rw [HL.out]; omega), List.drop_of_length_le (by rw [HL.out]; omega)]; exact HH.out⟩, hgw⟩
      case round =>
        obtain ⟨j, hj, rfl, ⟨L, hh⟩, hg⟩ := hrel
        by_cases hjC : j < J
        · obtain ⟨m, hm⟩ : ∃ m, k - j = m + 1 := ⟨k - j - 1, by omega⟩
          have hgm := HG.out m (by omega)
          rw [hm, take_snoc_get hgm] at hh
          have hd2 := Lib.hid (drop_cons_get hgm)
          have HM' := Lib.hid hm
          clear hm hgm
          go_wp2_with fail
          refine (hist_undo w.heap.size 20 L _ _ _ _ hh).mono ?_
          rintro e w5 ⟨q, n, cap, rfl, hg5, ho5, hh5⟩
          rw [← hd2.out] at hh5
          have hh6 := Lib.hid hh5
          have hgw5 := grownBy_trans hg hg5 (by intro i e; cases e; exact .inr (Nat.le_refl _))
          clear hh hh5
          go_wp2_with fail
          go_roundw
          case rel => exact ⟨j + 1, by omega, by go_num, ⟨_, by rw [show k - (j + 1) = m by have := HM'.out; omega]; exact hh6.out⟩, hgw5⟩
          case measure => simp [intOf]; omega
        · obtain rfl : j = J := by omega
          have hMk : M < k := by have := HM.out; omega
          rw [show k - j = M by have := HM.out; omega] at hh
          go_wp2_with fail
          refine (hist_len _ _ _ _ _ M j _ hh (by rw [List.length_take, HL.out]; omega) (by rw [List.length_drop, HL.out]; have := HM.out; omega)).mono ?_
          rintro e w6 ⟨rfl, hg6⟩
          have hh6 := hh.kept hg6 nofun
          have hgw6 := grownBy_trans hg hg6 nofun
          have hgm := HG.out M hMk
          clear hh hg hg6
          cases a2 with
          | true =>
            rw [drop_cons_get hgm] at hh6
            clear hgm
            go_wp2_with fail
            refine (hist_push_none w.heap.size 20 L _ _ none 0 _ hh6).mono ?_
            rintro e w7 ⟨rfl, rfl⟩
            go_wp2_with fail
            refine (hist_redo w.heap.size 20 L _ _ _ _ hh6).mono ?_
            rintro e w7 ⟨q, n, cap, rfl, hg7, ho7, hh7⟩
            obtain rfl : n = 1 := by have := ho7.1; simp [grpC] at this; omega
            have hc := ho7.cellAt 0 (by omega)
            simp only [grpC, List.getElem?_cons_zero] at hc
            have hgw7 := grownBy_trans hgw6 hg7 (by intro i e; cases e; exact .inr (Nat.le_refl _))
            clear hh6 hh7 hg7
            go_wp2_with fail
            refine (awake08_any w7).mono ?_
            rintro e w8 ⟨rfl, hg8⟩
            go_wp2_with fail
            go_ret
            exact ⟨rfl, grownBy_trans hgw7 hg8 nofun⟩
          | false =>
            have hal := World.grownBy_alloc w6 (.cells #[.int .i64 99, .string ⟨#[]⟩, .string ⟨#[]⟩] 31) none
            have hgo := World.ownsRow_lit (base := 0) (size := 3) (e := 31) w6 #[.int .i64 99, .string ⟨#[]⟩, .string ⟨#[]⟩] 1 (Nat.zero_le _) (by decide) rfl
            have hh7 := hh6.kept hal nofun
            clear hh6 hgm
            go_wp2_with fail
            refine (hist_push w.heap.size 20 _ _ _ ⟨w6.heap.size, 0, none⟩ 1 1 _ _ hh7 (by omega) (by omega) hgo.1 (hgo.cells rfl) (cells_edit1 _ _ _)).mono ?_
            rintro e w8 ⟨rfl, hg8, hh8⟩
            have hgw8 := grownBy_trans (grownBy_trans hgw6 hal nofun) hg8 (by intro i e; cases e; exact .inr (Nat.le_refl _))
            have hlM : (U.take M).length = M := by rw [List.length_take, HL.out]; omega
            rw [pushU, if_pos (by omega)] at hh8
            have HlM := Lib.hid hlM
            clear hlM hal hgo hg8 hh7
            go_wp2_with fail
            refine (hist_redo_none w.heap.size 20 _ _ _ hh8).mono ?_
            rintro e w9 ⟨rfl, rfl⟩
            go_wp2_with fail
            refine (hist_undo w.heap.size 20 _ _ _ _ _ hh8).mono ?_
            rintro e w9 ⟨q, n, cap, rfl, hg9, ho9, hh9⟩
            obtain rfl : n = 1 := by have := ho9.1; simp at this; omega
            have hc := ho9.cellAt 0 (by omega)
            simp only [List.getElem?_cons_zero] at hc
            have hgw9 := grownBy_trans hgw8 hg9 (by intro i e; cases e; exact .inr (Nat.le_refl _))
            clear hh8
            go_wp2_with fail
            refine (hist_len _ _ _ _ _ M 1 _ hh9 HlM.out rfl).mono ?_
            rintro e w10 ⟨rfl, hg10⟩
            have hc10 : w10.cell? ⟨q, 0, none⟩ = some (.int .i64 99) := hg10.cell hc nofun
            clear hc
            go_wp2_with fail
            refine (awake08_any w10).mono ?_
            rintro e w11 ⟨rfl, hg11⟩
            go_wp2_with fail
            go_ret
            exact ⟨rfl, grownBy_trans (grownBy_trans hgw9 hg10 nofun) hg11 nofun⟩
end Go.Proofs.Ytiiaphgencoijaa
