/-
  Layer 18's law WalkFew: the further nothing can be near, the fewer steps: the walk. Every number; unicode/utf8's two tables as they are laid.
-/
import Derived.Test.YtgcaenckjelijaaDoorWalkFp
import Derived.Test.YtgcaenckjelijaaDoorPlace
namespace Go.Proofs.YtgcaenckjelijaaDoor
open Go Go.RowKit Go.Maps

theorem strg_info : (Tryd.prog.info? 9).map (fun i => (i.zero, i.size, i.bytes)) = some (some (.string ⟨#[]⟩), 1, 16) := by kernel_rfl

set_option maxRecDepth 100000 in
set_option maxHeartbeats 2000000 in
theorem few_walk (a0 a1 : Int) (w : World) (hT : Lib.Utf8Tabs 0 1 w) : Calls Tryd.prog 6 #[.int .i64 a0, .int .i64 a1] w (TrueRes w) := by
  obtain ⟨i0, hi, hz0, hz1, hz2⟩ := info_parts strg_info
  obtain ⟨K, hK⟩ : ∃ K : Nat, a0 % 20 = K := ⟨(a0 % 20).toNat, by omega⟩
  obtain ⟨m, hm⟩ : ∃ m : Nat, a1 % 4 = m := ⟨(a1 % 4).toNat, by omega⟩
  have hK20 : K < 20 := by omega
  have hm4 : m < 4 := by omega
  have HT := Lib.hid hT
  have HK := Lib.hid hK
  have HM := Lib.hid hm
  clear hT hK hm
  go_enter Tryd.func6, Tryd.ntmps6
  go_wp2_with fail
  refine (place_any a0 20 w (by omega) (by omega)).mono ?_
  rintro e w1 ⟨rfl, rfl⟩
  rw [HK.out]
  go_wp2_with fail
  refine (place_any a1 4 w (by omega) (by omega)).mono ?_
  rintro e w1 ⟨rfl, rfl⟩
  rw [HM.out]
  go_wp2_with fail
  go_loopw [7, 8] (fun lv kv wr => ∃ (k c : Nat) (A : Option Addr), k ≤ K + 1 ∧ kv = .int .i64 (k : Int) ∧ lv = .slice A k c ∧ wr.ownsRow w.heap.size 9 1 (.slice A k c) k (strCells (fewWs k)) ∧ w.grownBy wr none) (fun _ kv _ => K + 1 - (intOf kv).toNat)
  case atStart => exact ⟨0, 0, none, Nat.zero_le _, rfl, rfl, World.ownsRow_nil _ _ _ _, grownBy_refl _ _⟩
  case round =>
    obtain ⟨k, c, A, hk, rfl, rfl, hown, hg⟩ := hrel
    rcases Nat.lt_or_ge k (K + 1) with hlt | hge
    · have hlt1 : (k : Int) < 1 + (K : Int) := by omega
      have hk26 : (k : Int) + 1 ≤ 26 := by omega
      obtain ⟨X, hX⟩ : ∃ X, (⟨#[97, 98, 99, 100, 101, 102, 103, 104, 105, 106, 107, 108, 109, 110, 111, 112, 113, 114, 115, 116, 117, 118, 119, 120, 121, 122]⟩ : ByteArray).extract k (k + 1) ++ (⟨#[101, 101, 101, 101, 101, 101, 101, 101, 101, 101, 101, 101]⟩ : ByteArray) = X := ⟨_, rfl⟩
      have hXe : X = ⟨(fewW1 k).toArray⟩ := by
        have := few_str k (List.mem_range.2 (by omega))
        rw [hX] at this
        exact ByteArray.ext this
      have hA := World.grownBy_alloc wr (.cells #[.string X] 9) none
      have hwr := hg.size
      have hown2 := ownsRow_kept hown hA (own_none _)
      have hsl := Sl.of_own (World.ownsRow_lit (base := 0) (size := 1) (e := 9) wr #[.string X] 1 (Nat.zero_le _) (by decide) rfl) (by intro x hx; simp at hx; subst hx; rfl)
      have HO2 := Lib.hid hown2
      have HSL := Lib.hid hsl
      have HA := Lib.hid hA
      have HXE := Lib.hid hXe
      clear hown hown2 hsl hA hXe
      go_wp2_with (at_builtin; refine wpList_append_sl _ rfl (.tmp 22) (.tmp 28) 22 rfl w.heap.size 9 i0 _ 1 16 Tryd.underlying22 hi hz0 hz1 hz2 rfl (by decide) (.slice A k c) k _ rfl HO2.out (some ⟨wr.heap.size, 0, none⟩) 1 1 [.string X] rfl HSL.out (by unfold maxLen; omega) (by omega) (by simp; omega) ?_)
      rintro v' w' ⟨hown', hg', hat⟩
      obtain ⟨q', c', rfl, _⟩ := own_form hown' (by omega)
      have hgw : w.grownBy w' none := grownBy_trans (grownBy_trans hg HA.out nofun) hg' (fun l hl => .inr (HO2.out.lt l hl).1)
      go_wp2_with fail
      go_roundw
      case rel =>
        refine ⟨k + 1, c', some ⟨q', 0, none⟩, by omega, by go_num, rfl, ?_, hgw⟩
        rw [few_succ, ← HXE.out]; exact hown'
      case measure => simp [intOf]; omega
    · obtain rfl : k = K + 1 := by omega
      obtain ⟨r, hr⟩ : ∃ r, buildS 201 (fewWs (K + 1)) [] = r := ⟨_, rfl⟩
      obtain ⟨g1, g2, g3, g4⟩ := few_rise K (List.mem_range.2 hK20)
      obtain ⟨p1, p2, p3, p4⟩ := few_plain K (List.mem_range.2 hK20) m (List.mem_range.2 hm4) r hr
      obtain ⟨k1, k2, k3⟩ := ready g1 g2 hr
      have hmS := mostS_few hm4
      have hprod : (K + 1) * (m + 1) ≤ 20 * 4 := Nat.mul_le_mul (by omega) (by omega)
      have hpi : (1 + (K : Int)) * ((m : Int) + 1) = (((K + 1) * (m + 1) : Nat) : Int) := by rw [Int.natCast_mul]; congr 1; omega
      have hp2 : (walkS r.2 r.1 onesC m).steps ≤ 80 := by omega
      have P1 := Lib.hid p1
      have P2 := Lib.hid p2
      have P3 := Lib.hid p3
      have P4 := Lib.hid p4
      have K1 := Lib.hid k1
      have K3 := Lib.hid (show r.2.length ≤ 900000 by omega)
      have HR := Lib.hid hr
      have HW := Lib.hid (words_own hown (by omega))
      have HG := Lib.hid hg
      have HMS := Lib.hid hmS
      have HPI := Lib.hid hpi
      have HP2 := Lib.hid hp2
      have HC := Lib.hid (canon_of_rise g1 (fun _ => Iff.rfl))
      have HTB := Lib.hid g3
      clear hr g1 g2 g3 g4 p1 p2 p3 p4 k1 k3 hown hg hmS hpi hp2
      go_wp2_with fail
      refine (build_walk (fewWs (K + 1)) A (K + 1) c wr HW.out).mono ?_
      rintro e w1 hb
      obtain ⟨hg1, B, M, lv, rfl, hB, hbd⟩ := build_ok hb HC.out HTB.out HR.out
      have H := Lib.hid hbd
      have HG1 := Lib.hid (grownBy_trans HG.out hg1 nofun)
      have hgal := World.grownBy_alloc w1 (.cells #[.int .i64 49, .int .i64 49, .int .i64 49, .int .i64 49, .int .i64 49, .int .i64 49, .int .i64 49, .int .i64 49, .int .i64 49, .int .i64 49, .int .i64 49, .int .i64 49, .int .i64 49] 3) none
      have hsl := Sl.of_own (World.ownsRow_lit (base := 0) (size := 1) (e := 3) w1 #[.int .i64 49, .int .i64 49, .int .i64 49, .int .i64 49, .int .i64 49, .int .i64 49, .int .i64 49, .int .i64 49, .int .i64 49, .int .i64 49, .int .i64 49, .int .i64 49, .int .i64 49] 13 (Nat.zero_le _) (by decide) rfl) (by intro x hx; simp at hx; subst hx; rfl)
      have HGA := Lib.hid hgal
      have HSL := Lib.hid hsl
      clear hbd hb hg1 hgal hsl
      go_wp2_with fail
      refine (Walk_walk B M _ lv r.1 r.2 _ 13 13 onesC (m : Int) _ (H.out.kept HGA.out) K1.out rfl (by decide) HSL.out (tabs_kept (tabs_kept HT.out HG1.out) HGA.out) k2 K3.out (by rw [HMS.out]; have := HP2.out; omega) (by rw [HMS.out, P1.out]; decide)).mono ?_
      rintro e w2 ⟨v2, rfl, hown2, hg2⟩
      rw [HMS.out, P1.out] at hown2
      obtain ⟨A2, c2, rfl⟩ := own_slice hown2
      have HG2 := Lib.hid (grownBy_trans HGA.out hg2 nofun)
      have HG2r := Lib.hid hg2
      clear hown2 hg2
      go_wp2_with fail
      refine (Steps_walk B M _ lv r.1 r.2 _ 13 13 onesC (m : Int) w2 (H.out.kept HG2.out) K1.out rfl (by decide) (HSL.out.kept HG2r.out nofun) (tabs_kept (tabs_kept HT.out HG1.out) HG2.out) k2 K3.out (by rw [HMS.out]; have := HP2.out; omega) (by rw [HMS.out, P1.out]; decide)).mono ?_
      rintro e w3 ⟨rfl, hg3⟩
      rw [HMS.out]
      have HG3 := Lib.hid (grownBy_trans HG2.out hg3 nofun)
      have hs3 : ((walkS r.2 r.1 onesC m).steps : Int) ≤ (1 + (K : Int)) * ((m : Int) + 1) := by rw [HPI.out]; have := P2.out; omega
      have hw3 : IntKind.i64.wrap ((1 + (K : Int)) * ((m : Int) + 1)) = (1 + (K : Int)) * ((m : Int) + 1) := by rw [HPI.out, IntKind.wrap_i64]; omega
      generalize ((walkS r.2 r.1 onesC m).steps : Int) = t3 at hs3 ⊢
      have hw5 : wrap64 ((1 + (K : Int)) * ((m : Int) + 1)) = (1 + (K : Int)) * ((m : Int) + 1) := IntWalk.wrap64_in _ (by rw [HPI.out]; omega)
      clear hg3
      go_wp2_with fail
      refine (Walk_walk B M _ lv r.1 r.2 none 0 0 [] (m : Int) w3 (H.out.kept HG3.out) K1.out rfl (by decide) (Sl.nil _ _ _) (tabs_kept (tabs_kept HT.out HG1.out) HG3.out) k2 K3.out (by rw [HMS.out]; have := P4.out; omega) (by rw [HMS.out, P3.out]; decide)).mono ?_
      rintro e w4 ⟨v4, rfl, hown4, hg4⟩
      rw [HMS.out, P3.out] at hown4
      obtain ⟨A4, c4, rfl⟩ := own_slice hown4
      have HG4 := Lib.hid (grownBy_trans HG3.out hg4 nofun)
      clear hown4 hg4
      go_wp2_with fail
      refine (awake18_walk w4 (tabs_kept (tabs_kept HT.out HG1.out) HG4.out)).mono ?_
      rintro e w5 ⟨rfl, hg5⟩
      have HG5 := Lib.hid (grownBy_trans HG1.out (grownBy_trans HG4.out hg5 nofun) nofun)
      clear hg5
      go_wp2_with fail
      go_ret
      exact ⟨rfl, HG5.out⟩
end Go.Proofs.YtgcaenckjelijaaDoor
