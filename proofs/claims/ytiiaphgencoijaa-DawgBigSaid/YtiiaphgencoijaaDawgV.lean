/-
  Layer 15's law DawgBig: the walk. Every number.
-/
import Derived.Test.YtiiaphgencoijaaDawgG
import Derived.Deep.OwnRows
namespace Go.Proofs.Ytiiaphgencoijaa
open Go Go.RowKit Go.Maps

theorem conv97 {u : World} {b j : Nat} {c : Array Value} (hh : u.heap[b]? = some (.cells c 5 (0, 0))) (h97 : ∀ m, m < j → c[m]? = some (.int .u8 97)) {m : Nat} (hm : m ≤ j) (cap : Nat) :
    (convert 52 9 (.slice (some ⟨b, 0, none⟩) m cap)).run Try.prog u = .ok (.string ⟨(List.replicate m (97 : UInt8)).toArray⟩) u := by
  refine conv_bytes (List.replicate m 97) b m cap u (by simp) (fun i v hv => ?_)
  have hi : i < m := by have := (List.getElem?_eq_some_iff.1 hv).1; simpa [Lib.byteCells] using this
  rw [cell_of_heap hh, h97 i (by omega), ← hv]
  simp [Lib.byteCells, hi]

set_option maxRecDepth 100000 in
set_option maxHeartbeats 1000000 in
theorem big_walk (a0 : Int) (w : World) : Calls Try.prog 8 #[.int .i64 a0] w (TrueRes w) := by
  obtain ⟨i0, hi, hz0, hz1, hz2⟩ := info_parts byte_info
  obtain ⟨K', hK⟩ : ∃ K' : Nat, a0 % 5 = K' := ⟨(a0 % 5).toNat, by omega⟩
  have hK5 : K' < 5 := by omega
  obtain ⟨k, hkk⟩ : ∃ k, k = K' + 198 := ⟨_, rfl⟩
  have hk1 : 198 ≤ k := by omega
  have hk2 : k ≤ 202 := by omega
  have eK := Lib.hid (show (198 : Int) + K' = k by omega)
  have HK := Lib.hid hK
  have hmk : ∀ w : World, (Instr.makeSlice 52 (.int .i64 (198 + (K' : Int))) (.int .i64 (198 + (K' : Int)))).run Try.prog w = .ok (.slice (some ⟨w.heap.size, 0, none⟩) k k) (w.alloc (.cells (madeCells #[.int .u8 0] k) 5)) := by
    intro w
    have h := run_make (P := Try.prog) w 52 5 i0 _ Try.underlying52 hi hz0 .i64 .i64 (198 + (K' : Int)) (198 + (K' : Int)) (by omega) (Int.le_refl _) (by rw [hz2]; omega) (by omega)
    rw [eK.out, Int.toNat_natCast, hz1, Nat.mul_one] at h
    rw [eK.out]
    exact h
  clear hK hkk
  go_enter Try.func8, Try.ntmps8
  go_wp2_with fail
  refine (place_any a0 5 w (by omega) (by omega)).mono ?_
  rintro e w' ⟨rfl, rfl⟩
  rw [HK.out]
  go_wp2_with fail
  rw [eK.out]
  have hal := World.grownBy_alloc w (.cells (madeCells #[.int .u8 0] k) 5) none
  have hnw := heap_alloc_new w (.cells (madeCells #[.int .u8 0] k) 5 (0, 0))
  have hsz : (madeCells #[.int .u8 0] k).size = k := by simp [madeCells]
  clear hmk
  go_loopw [5] (fun i wr => ∃ (j : Nat) (c : Array Value), j ≤ k ∧ i = .int .i64 j ∧ w.grownBy wr none ∧ wr.heap[w.heap.size]? = some (.cells c 5 (0, 0)) ∧ c.size = k ∧ ∀ m, m < j → c[m]? = some (.int .u8 97)) (fun i _ => k - (intOf i).toNat)
  case atStart => exact ⟨0, _, Nat.zero_le _, rfl, hal, hnw, hsz, by omega⟩
  case round =>
    obtain ⟨j, c, hj, rfl, hg, hh, hc, h97⟩ := hrel
    rcases Nat.lt_or_ge j k with hlt | hge
    · have hcj : wr.cell? ⟨w.heap.size, j, none⟩ = some c[j] := by rw [cell_of_heap hh, Array.getElem?_eq_getElem (by omega)]
      have hzj := frozen_of_heap hh j
      have HH := Lib.hid hh
      have H9 := Lib.hid h97
      clear hh h97
      go_wp2_with fail
      go_roundw
      case rel =>
        refine ⟨j + 1, _, by omega, by go_num, grownBy_setCell hg _ _ _ (.inr (Nat.le_refl _)), heap_setCell HH.out j _, by simp [hc], fun m hm => ?_⟩
        rcases Nat.lt_or_ge m j with h | h
        · rw [Array.getElem?_setIfInBounds_ne (by omega)]; exact H9.out m h
        · obtain rfl : m = j := by omega
          exact Array.getElem?_setIfInBounds_self_of_lt (by omega)
      case measure => simp [intOf]; omega
    · obtain rfl : j = k := by omega
      have hcv := conv97 hh h97 (Nat.le_refl j) j
      have HH := Lib.hid hh
      have H9 := Lib.hid h97
      have HG := Lib.hid hg
      have hwr := hg.size
      clear hh h97 hg
      have hown := words_own (ss := [[98], List.replicate j 97]) (World.ownsRow_lit (base := 0) (size := 1) (e := 9) wr #[.string ⟨#[98]⟩, .string ⟨(List.replicate j (97 : UInt8)).toArray⟩] 2 (Nat.zero_le _) (by decide) rfl) (by decide)
      have HO := Lib.hid hown
      clear hown
      go_wp2_with fail
      refine (build_walk [[98], List.replicate j 97] _ 2 2 _ HO.out).mono ?_
      rintro e w1 hb
      have hgal := World.grownBy_alloc wr (.cells #[.string ⟨#[98]⟩, .string ⟨(List.replicate j (97 : UInt8)).toArray⟩] 9) none
      by_cases hbig : j ≤ 200
      · obtain ⟨p1, p2, p3, p4⟩ := big_build j (by simp; omega)
        generalize hr : buildS 201 (bigW j) [] = r at p1 p2 p3 p4
        obtain ⟨hg, B, M, lv, rfl, hB, hbd⟩ := build_ok hb (big_canon (by omega)) (by rw [big_long]; simp; omega) hr
        have hg1 := grownBy_trans hgal hg nofun
        have HBD := Lib.hid hbd
        clear hbd hb hg hgal HO
        go_wp2_with fail
        refine (build_walk [] none 0 0 w1 ⟨rfl, Nat.le_refl _, by decide, Sl.nil _ _ _, fun _ h => h.elim⟩).mono ?_
        rintro e w2 hb2
        obtain ⟨hg2, B2, M2, lv2, rfl, hB2, hbd2⟩ := build_ok hb2 none_canon (by decide) none_build
        have HBD2 := Lib.hid hbd2
        clear hbd2 hb2
        go_wp2_with fail
        refine (states_walk _ B2 M2 _ lv2 _ _ w2 HBD2.out).mono ?_
        rintro e w3 ⟨rfl, rfl⟩
        go_wp2_with fail
        refine (has_walk _ B2 M2 _ lv2 _ _ [] w3 HBD2.out (by decide)).mono ?_
        rintro e w4 ⟨rfl, hg4⟩
        go_wp2_with fail
        refine (start_walk _ B2 M2 _ lv2 _ _ w4 (HBD2.out.kept hg4)).mono ?_
        rintro e w5 ⟨rfl, rfl⟩
        go_wp2_with fail
        refine (final_walk _ B2 M2 _ lv2 _ _ 0 w5 (HBD2.out.kept hg4)).mono ?_
        rintro e w6 ⟨rfl, hg6⟩
        have ef : (stAt [(false, [])] 0).1 = false := rfl
        rw [ef]
        have hg26 := grownBy_trans (grownBy_trans hg2 hg4 nofun) hg6 nofun
        have hd6 : decide ((j : Int) ≤ 200) = true := decide_eq_true (by omega)
        have hn6 : ¬ (200 : Int) < j := by omega
        have cv6 := conv97 (grownBy_heap (grownBy_trans hg1 hg26 nofun) HH.out nofun) H9.out (Nat.le_refl j) j
        go_wp2_with fail
        refine (states_walk _ B M _ lv _ _ w6 (HBD.out.kept hg26)).mono ?_
        rintro e w7 ⟨rfl, rfl⟩
        rw [p1]
        go_wp2_with fail
        refine (has_walk _ B M _ lv _ _ (List.replicate j 97) w7 (HBD.out.kept hg26) (by simp; omega)).mono ?_
        rintro e w8 ⟨rfl, hg8⟩
        rw [p2]
        have hg28 := grownBy_trans hg26 hg8 nofun
        have cv8 := conv97 (grownBy_heap (grownBy_trans hg1 hg28 nofun) HH.out nofun) H9.out (Nat.sub_le j 1) j
        have ej : ((j : Int) - 1) = ((j - 1 : Nat) : Int) := by omega
        go_wp2_with fail
        refine (has_walk _ B M _ lv _ _ (List.replicate (j - 1) 97) w8 (HBD.out.kept hg28) (by simp; omega)).mono ?_
        rintro e w9 ⟨rfl, hg9⟩
        rw [p3]
        have hg29 := grownBy_trans hg28 hg9 nofun
        go_wp2_with fail
        refine (has_walk _ B M _ lv _ _ [98] w9 (HBD.out.kept hg29) (by decide)).mono ?_
        rintro e w10 ⟨rfl, hg10⟩
        rw [p4]
        have hg210 := grownBy_trans hg29 hg10 nofun
        go_wp2_with fail
        refine (awake_walk w10).mono ?_
        rintro e w11 ⟨rfl, hg11⟩
        go_wp2_with fail
        go_ret
        exact ⟨rfl, grownBy_trans (grownBy_trans (grownBy_trans HG.out hg1 nofun) hg210 nofun) hg11 nofun⟩
      · obtain ⟨hg, rfl⟩ := build_big hb (big_canon (by omega)) (by rw [big_long]; simp; omega)
        have hg1 := grownBy_trans hgal hg nofun
        clear hb hg hgal HO
        go_wp2_with fail
        refine (build_walk [] none 0 0 w1 ⟨rfl, Nat.le_refl _, by decide, Sl.nil _ _ _, fun _ h => h.elim⟩).mono ?_
        rintro e w2 hb2
        obtain ⟨hg2, B2, M2, lv2, rfl, hB2, hbd2⟩ := build_ok hb2 none_canon (by decide) none_build
        have HBD2 := Lib.hid hbd2
        clear hbd2 hb2
        go_wp2_with fail
        refine (states_walk _ B2 M2 _ lv2 _ _ w2 HBD2.out).mono ?_
        rintro e w3 ⟨rfl, rfl⟩
        go_wp2_with fail
        refine (has_walk _ B2 M2 _ lv2 _ _ [] w3 HBD2.out (by decide)).mono ?_
        rintro e w4 ⟨rfl, hg4⟩
        go_wp2_with fail
        refine (start_walk _ B2 M2 _ lv2 _ _ w4 (HBD2.out.kept hg4)).mono ?_
        rintro e w5 ⟨rfl, rfl⟩
        go_wp2_with fail
        refine (final_walk _ B2 M2 _ lv2 _ _ 0 w5 (HBD2.out.kept hg4)).mono ?_
        rintro e w6 ⟨rfl, hg6⟩
        have ef : (stAt [(false, [])] 0).1 = false := rfl
        rw [ef]
        have hd6 : decide ((j : Int) ≤ 200) = false := decide_eq_false (by omega)
        have hn6 : (200 : Int) < j := by omega
        go_wp2_with fail
        refine (awake_walk w6).mono ?_
        rintro e w7 ⟨rfl, hg7⟩
        go_wp2_with fail
        go_ret
        exact ⟨rfl, grownBy_trans (grownBy_trans (grownBy_trans (grownBy_trans (grownBy_trans HG.out hg1 nofun) hg2 nofun) hg4 nofun) hg6 nofun) hg7 nofun⟩
end Go.Proofs.Ytiiaphgencoijaa
