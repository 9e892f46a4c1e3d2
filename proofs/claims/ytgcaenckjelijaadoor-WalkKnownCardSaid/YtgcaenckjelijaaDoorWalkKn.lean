/-
  Layer 18's law WalkKnown: the walk. Every number; unicode/utf8's two tables as they are laid.
-/
import Derived.Test.YtgcaenckjelijaaDoorWalkKp
import Derived.Test.YtgcaenckjelijaaDoorPlace
import Derived.Deep.RegionLaw
import Derived.Test.YtgcaenckjelijaaDoorTail
import Derived.Deep.RegionHeld3
namespace Go.Proofs.YtgcaenckjelijaaDoor
open Go Go.RowKit Go.Maps

theorem strk_info : (Tryd.prog.info? 9).map (fun i => (i.zero, i.size, i.bytes)) = some (some (.string ⟨#[]⟩), 1, 16) := by kernel_rfl

theorem kn_str : ∀ k ∈ List.range 64, ((((⟨#[97, 98, 99, 100]⟩ : ByteArray).extract (k / 16) (k / 16 + 1) ++ (⟨#[97, 98, 99, 100]⟩ : ByteArray).extract (k / 4 % 4) (k / 4 % 4 + 1)) ++ (⟨#[97, 98, 99, 100]⟩ : ByteArray).extract (k % 4) (k % 4 + 1)).data = (knW k).toArray) := by decide +kernel

theorem kn_succ (k : Nat) : strCells (knWs (k + 1)) = strCells (knWs k) ++ [.string ⟨(knW k).toArray⟩] := by
  rw [knWs, List.range_succ, List.map_append, strCells, List.map_append]; rfl

def KnRel (w : World) (lv kv : Value) (wr : World) : Prop :=
  ∃ (k c : Nat) (A : Option Addr), k ≤ 64 ∧ kv = .int .i64 (k : Int) ∧ lv = .slice A k c ∧ wr.ownsRow w.heap.size 9 1 (.slice A k c) k (strCells (knWs k)) ∧ w.grownBy wr none

set_option maxRecDepth 100000 in
set_option maxHeartbeats 40000000 in
theorem known_walk (a0 a1 : Int) (w : World) (hT : Lib.Utf8Tabs 0 1 w) : Calls Tryd.prog 3 #[.int .i64 a0, .int .i64 a1] w (TrueRes w) := by
  obtain ⟨i0, hi, hz0, hz1, hz2⟩ := info_parts strk_info
  obtain ⟨m, hm⟩ : ∃ m : Nat, a0 % 4 = m := ⟨(a0 % 4).toNat, by omega⟩
  obtain ⟨ix, hix⟩ : ∃ ix : Nat, a1 % 64 = ix := ⟨(a1 % 64).toNat, by omega⟩
  have hm4 : m < 4 := by omega
  have hi64 : ix < 64 := by omega
  have HT := Lib.hid hT
  have HM := Lib.hid hm
  have HI := Lib.hid hix
  clear hT hm hix
  go_enter Tryd.func3, Tryd.ntmps3
  go_wp2_with fail
  go_loopw [5, 6] (fun lv kv wr => KnRel w lv kv wr) (fun _ kv _ => 64 - (intOf kv).toNat)
  case atStart => exact ⟨0, 0, none, by omega, rfl, rfl, World.ownsRow_nil _ _ _ _, grownBy_refl _ _⟩
  case round =>
    obtain ⟨k, c, A, hk, rfl, rfl, hown, hg⟩ := hrel
    rcases Nat.lt_or_ge k 64 with hlt | hge
    · have hlt1 : (k : Int) < 64 := by omega
      obtain ⟨a, ha⟩ : ∃ a, k / 16 = a := ⟨_, rfl⟩
      obtain ⟨b, hb⟩ : ∃ b, k / 4 % 4 = b := ⟨_, rfl⟩
      obtain ⟨d, hd⟩ : ∃ d, k % 4 = d := ⟨_, rfl⟩
      have h1 : (k : Int) / 16 = (a : Int) := by omega
      have h2 : (k : Int) / 4 % 4 = (b : Int) := by omega
      have h3 : (k : Int) % 4 = (d : Int) := by omega
      have h2t : ((k : Int) / 4).tmod 4 = (b : Int) := by rw [Int.tmod_eq_emod_of_nonneg (by omega)]; exact h2
      have h3t : (k : Int).tmod 4 = (d : Int) := by rw [Int.tmod_eq_emod_of_nonneg (by omega)]; exact h3
      have hw4 : IntKind.i64.wrap ((k : Int) / 4) = (k : Int) / 4 := by rw [IntKind.wrap_i64]; omega
      have hcat1 : ¬ 9223372036854775807 < min (a + 1) 4 - a + (min (b + 1) 4 - b) := by omega
      have hcat2 : ¬ 9223372036854775807 < min (a + 1) 4 - a + (min (b + 1) 4 - b) + (min (d + 1) 4 - d) := by omega
      have a4 : (a : Int) + 1 ≤ 4 := by omega
      have b4 : (b : Int) + 1 ≤ 4 := by omega
      have d4 : (d : Int) + 1 ≤ 4 := by omega
      have wa : IntKind.i64.wrap (a : Int) = (a : Int) := by rw [IntKind.wrap_i64]; omega
      have wa1 : IntKind.i64.wrap ((a : Int) + 1) = (a : Int) + 1 := by rw [IntKind.wrap_i64]; omega
      have za : (0 : Int) ≤ (a : Int) + 1 := by omega
      have wb : IntKind.i64.wrap (b : Int) = (b : Int) := by rw [IntKind.wrap_i64]; omega
      have wb1 : IntKind.i64.wrap ((b : Int) + 1) = (b : Int) + 1 := by rw [IntKind.wrap_i64]; omega
      have zb : (0 : Int) ≤ (b : Int) + 1 := by omega
      have wd : IntKind.i64.wrap (d : Int) = (d : Int) := by rw [IntKind.wrap_i64]; omega
      have wd1 : IntKind.i64.wrap ((d : Int) + 1) = (d : Int) + 1 := by rw [IntKind.wrap_i64]; omega
      have zd : (0 : Int) ≤ (d : Int) + 1 := by omega
      have ya : (a : Int) ≤ (a : Int) + 1 := by omega
      have yb : (b : Int) ≤ (b : Int) + 1 := by omega
      have yd : (d : Int) ≤ (d : Int) + 1 := by omega
      obtain ⟨X, hX⟩ : ∃ X, ((⟨#[97, 98, 99, 100]⟩ : ByteArray).extract a (a + 1) ++ (⟨#[97, 98, 99, 100]⟩ : ByteArray).extract b (b + 1)) ++ (⟨#[97, 98, 99, 100]⟩ : ByteArray).extract d (d + 1) = X := ⟨_, rfl⟩
      have hXe : X = ⟨(knW k).toArray⟩ := by
        have := kn_str k (List.mem_range.2 hlt)
        rw [ha, hb, hd, hX] at this
        exact ByteArray.ext this
      have hA := World.grownBy_alloc wr.drew (.cells #[.string X] 9) none
      have hwr := hg.size
      have hown2 := ownsRow_kept (ownsRow_drewN hown 1) hA (own_none _)
      have hsl := Sl.of_own (World.ownsRow_lit (base := 0) (size := 1) (e := 9) wr.drew #[.string X] 1 (Nat.zero_le _) (by decide) rfl) (by intro x hx; simp at hx; subst hx; rfl)
      have HO2 := Lib.hid hown2
      have HSL := Lib.hid hsl
      have HA := Lib.hid hA
      have HXE := Lib.hid hXe
      clear hown hown2 hsl hA hXe
      go_wp2_with fail
      refine region_tail 25 (fun _ => True) (by kernel_rfl) trivial (fun hHeld => ?_)
      refine tail_take 0 (v := ?_) rfl (by kernel_rfl) (by kernel_rfl) (by kernel_rfl) (by kernel_rfl) (fun _ _ _ h => h) (by rfl) (fun u hu => ?_) (by assumption) ?_
      rotate_left
      focus ((try dsimp only at hu); go_simp; (try with_reducible rfl); done)
      try simp only [Act.put]
      refine tail_take 1 (v := ?_) rfl (by kernel_rfl) (by kernel_rfl) (by kernel_rfl) (by kernel_rfl) (fun _ _ _ h => h) (by rfl) (fun u hu => ?_) (by assumption) ?_
      rotate_left
      focus ((try dsimp only at hu); go_simp; (try with_reducible rfl); done)
      try simp only [Act.put]
      refine tail_take 2 (v := ?_) rfl (by kernel_rfl) (by kernel_rfl) (by kernel_rfl) (by kernel_rfl) (fun _ _ _ h => h) (by rfl) (fun u hu => ?_) (by assumption) ?_
      rotate_left
      focus ((try dsimp only at hu); go_simp; (try with_reducible rfl); done)
      try simp only [Act.put]
      refine tail_take 3 (v := ?_) rfl (by kernel_rfl) (by kernel_rfl) (by kernel_rfl) (by kernel_rfl) (fun _ _ _ h => h) (by rfl) (fun u hu => ?_) (by assumption) ?_
      rotate_left
      focus ((try dsimp only at hu); go_simp; (try with_reducible rfl); done)
      try simp only [Act.put]
      refine tail_take 4 (v := ?_) rfl (by kernel_rfl) (by kernel_rfl) (by kernel_rfl) (by kernel_rfl) (fun _ _ _ h => h) (by rfl) (fun u hu => ?_) (by assumption) ?_
      rotate_left
      focus ((try dsimp only at hu); go_simp; (try with_reducible rfl); done)
      try simp only [Act.put]
      refine tail_take 5 (v := ?_) rfl (by kernel_rfl) (by kernel_rfl) (by kernel_rfl) (by kernel_rfl) (fun _ _ _ h => h) (by rfl) (fun u hu => ?_) (by assumption) ?_
      rotate_left
      focus ((try dsimp only at hu); go_simp; (try with_reducible rfl); done)
      try simp only [Act.put]
      refine tail_take 6 (v := ?_) rfl (by kernel_rfl) (by kernel_rfl) (by kernel_rfl) (by kernel_rfl) (fun _ _ _ h => h) (by rfl) (fun u hu => ?_) (by assumption) ?_
      rotate_left
      focus ((try dsimp only at hu); go_simp; (try with_reducible rfl); done)
      try simp only [Act.put]
      refine tail_take 7 (v := ?_) rfl (by kernel_rfl) (by kernel_rfl) (by kernel_rfl) (by kernel_rfl) (fun _ _ _ h => h) (by rfl) (fun u hu => ?_) (by assumption) ?_
      rotate_left
      focus ((try dsimp only at hu); go_simp; (try with_reducible rfl); done)
      try simp only [Act.put]
      refine tail_take 8 (v := ?_) rfl (by kernel_rfl) (by kernel_rfl) (by kernel_rfl) (by kernel_rfl) (fun _ _ _ h => h) (by rfl) (fun u hu => ?_) (by assumption) ?_
      rotate_left
      focus ((try dsimp only at hu); go_simp; (try with_reducible rfl); done)
      try simp only [Act.put]
      refine tail_take 9 (v := ?_) rfl (by kernel_rfl) (by kernel_rfl) (by kernel_rfl) (by kernel_rfl) (fun _ _ _ h => h) (by rfl) (fun u hu => ?_) (by assumption) ?_
      rotate_left
      focus ((try dsimp only at hu); go_simp; (try with_reducible rfl); done)
      try simp only [Act.put]
      refine tail_take 10 (v := ?_) rfl (by kernel_rfl) (by kernel_rfl) (by kernel_rfl) (by kernel_rfl) (fun _ _ _ h => h) (by rfl) (fun u hu => ?_) (by assumption) ?_
      rotate_left
      focus ((try dsimp only at hu); go_simp; (try with_reducible rfl); done)
      try simp only [Act.put]
      refine tail_take 11 (v := ?_) rfl (by kernel_rfl) (by kernel_rfl) (by kernel_rfl) (by kernel_rfl) (fun _ _ _ h => h) (by rfl) (fun u hu => ?_) (by assumption) ?_
      rotate_left
      focus ((try dsimp only at hu); go_simp; (try with_reducible rfl); done)
      try simp only [Act.put]
      refine tail_take 12 (v := ?_) rfl (by kernel_rfl) (by kernel_rfl) (by kernel_rfl) (by kernel_rfl) (fun _ _ _ h => h) (by rfl) (fun u hu => ?_) (by assumption) ?_
      rotate_left
      focus ((try dsimp only at hu); go_simp; (try with_reducible rfl); done)
      try simp only [Act.put]
      refine tail_take 13 (v := ?_) rfl (by kernel_rfl) (by kernel_rfl) (by kernel_rfl) (by kernel_rfl) (fun _ _ _ h => h) (by rfl) (fun u hu => ?_) (by assumption) ?_
      rotate_left
      focus ((try dsimp only at hu); go_simp; (try with_reducible rfl); done)
      try simp only [Act.put]
      refine tail_take 14 (v := ?_) rfl (by kernel_rfl) (by kernel_rfl) (by kernel_rfl) (by kernel_rfl) (fun _ _ _ h => h) (by rfl) (fun u hu => ?_) (by assumption) ?_
      rotate_left
      focus ((try dsimp only at hu); go_simp; (try with_reducible rfl); done)
      try simp only [Act.put]
      refine tail_take 15 (v := ?_) rfl (by kernel_rfl) (by kernel_rfl) (by kernel_rfl) (by kernel_rfl) (fun _ _ _ h => h) (by rfl) (fun u hu => ?_) (by assumption) ?_
      rotate_left
      focus ((try dsimp only at hu); go_simp; (try with_reducible rfl); done)
      try simp only [Act.put]
      refine tail_take 16 (v := ?_) rfl (by kernel_rfl) (by kernel_rfl) (by kernel_rfl) (by kernel_rfl) (fun _ _ _ h => h) (by rfl) (fun u hu => ?_) (by assumption) ?_
      rotate_left
      focus ((try dsimp only at hu); go_simp; (try with_reducible rfl); done)
      try simp only [Act.put]
      refine tail_take 17 (v := ?_) rfl (by kernel_rfl) (by kernel_rfl) (by kernel_rfl) (by kernel_rfl) (fun _ _ _ h => h) (by rfl) (fun u hu => ?_) (by assumption) ?_
      rotate_left
      focus ((try dsimp only at hu); go_simp; (try with_reducible rfl); done)
      try simp only [Act.put]
      refine tail_take 18 (v := ?_) rfl (by kernel_rfl) (by kernel_rfl) (by kernel_rfl) (by kernel_rfl) (fun _ _ _ h => h) (by rfl) (fun u hu => ?_) (by assumption) ?_
      rotate_left
      focus ((try dsimp only at hu); go_simp; (try with_reducible rfl); done)
      try simp only [Act.put]
      refine tail_take 19 (v := ?_) rfl (by kernel_rfl) (by kernel_rfl) (by kernel_rfl) (by kernel_rfl) (fun _ _ _ h => h) (by rfl) (fun u hu => ?_) (by assumption) ?_
      rotate_left
      focus ((try dsimp only at hu); go_simp; (try with_reducible rfl); done)
      try simp only [Act.put]
      refine tail_take 20 (v := ?_) rfl (by kernel_rfl) (by kernel_rfl) (by kernel_rfl) (by kernel_rfl) (fun _ _ _ h => h) (by rfl) (fun u hu => ?_) (by assumption) ?_
      rotate_left
      focus ((try dsimp only at hu); go_simp; (try with_reducible rfl); done)
      try simp only [Act.put]
      refine tail_take 21 (v := ?_) rfl (by kernel_rfl) (by kernel_rfl) (by kernel_rfl) (by kernel_rfl) (fun _ _ _ h => h) (by rfl) (fun u hu => ?_) (by assumption) ?_
      rotate_left
      focus ((try dsimp only at hu); go_simp; (try with_reducible rfl); done)
      try simp only [Act.put]
      refine tail_take 22 (v := ?_) rfl (by kernel_rfl) (by kernel_rfl) (by kernel_rfl) (by kernel_rfl) (fun _ _ _ h => h) (by rfl) (fun u hu => ?_) (by assumption) ?_
      rotate_left
      focus ((try dsimp only at hu); go_simp; (try with_reducible rfl); done)
      try simp only [Act.put]
      refine tail_step 23 (by kernel_rfl) rfl (fun K hK => ?_)
      go_simp
      refine hK.out _ _ (by exact trivial) (fun hHeld23 => ?_)
      clear hK K
      try simp only [Act.put]
      refine tail_step 24 (by kernel_rfl) rfl (fun K hK => ?_)
      refine step_append_sl _ (by rfl) _ _ 22 (by rfl) w.heap.size 9 i0 _ 1 16 Tryd.underlying22 hi hz0 hz1 hz2 rfl (by decide) (.slice A k c) k _ (by rfl) HO2.out (some ⟨wr.heap.size, 0, none⟩) 1 1 _ (by rfl) HSL.out (by unfold maxLen; omega) (by omega) (by simp; omega) ?_; rintro v' w' ⟨hown', hg', hat⟩; obtain ⟨q', c', rfl, _⟩ := own_form hown' (by omega)
      refine hK.out _ _ (by exact trivial) (fun hHeld24 => ?_)
      clear hK K
      try simp only [Act.put]
      refine tail_last (by kernel_rfl) rfl (fun K hK => ?_)
      go_simp
      refine hK.out _ _ ?_
      clear hK K
      refine tail_done (by kernel_rfl) ?_
      have hgw : w.grownBy w' none := grownBy_trans (grownBy_trans (grownBy_drew hg) HA.out nofun) hg' (fun l hl => .inr (HO2.out.lt l hl).1)
      go_wp2_with fail
      go_roundw
      case rel =>
        refine ⟨k + 1, c', some ⟨q', 0, none⟩, by omega, by go_num, rfl, ?_, hgw⟩
        rw [kn_succ, ← HXE.out]; exact hown'
      case measure => simp [intOf]; omega
    · obtain rfl : k = 64 := by omega
      have hsl := Sl.of_own hown (by intro x hx; simp only [strCells, List.mem_map] at hx; obtain ⟨_, _, rfl⟩ := hx; rfl)
      have HW := Lib.hid (words_own hown (by omega))
      have HG := Lib.hid hg
      obtain ⟨ga, gb⟩ := kn_good hi64 hm4
      obtain ⟨g1, g2, g3, g4⟩ := kn_rise
      obtain ⟨k1, k2, k3⟩ := ready g1 g2 kn_build
      have hmS : mostS (m : Int) = m := by unfold mostS; omega
      have HMS := Lib.hid hmS
      have GA := Lib.hid ga
      have GB := Lib.hid gb
      have K1 := Lib.hid k1
      have HC := Lib.hid (canon_of_rise g1 (fun _ => Iff.rfl))
      have HSL := Lib.hid hsl
      clear hown hg ga gb g1 g2 g4 k1 hmS hsl
      go_wp2_with fail
      refine (build_walk (knWs 64) A 64 c wr HW.out).mono ?_
      rintro e w1 hb
      obtain ⟨hg1, B, M, lv, rfl, hB, hbd⟩ := build_ok hb HC.out g3 kn_build
      have H := Lib.hid hbd
      have HG1 := Lib.hid (grownBy_trans HG.out hg1 nofun)
      have HG1r := Lib.hid hg1
      clear hbd hb hg1
      go_wp2_with fail
      refine (place_any a1 64 w1 (by omega) (by omega)).mono ?_
      rintro e w2 ⟨rfl, rfl⟩
      rw [HI.out]
      have hx64 : (ix : Int) < 64 := by omega
      obtain ⟨qq, oo, eA, hcells⟩ := (HSL.out.kept HG1r.out nofun).2.2 (by omega)
      cases eA
      obtain ⟨x0, hx0⟩ : ∃ x0 : UInt8, UInt8.ofNat (97 + ix / 16) = x0 := ⟨_, rfl⟩
      obtain ⟨x1, hx1⟩ : ∃ x1 : UInt8, UInt8.ofNat (97 + ix / 4 % 4) = x1 := ⟨_, rfl⟩
      obtain ⟨x2, hx2⟩ : ∃ x2 : UInt8, UInt8.ofNat (97 + ix % 4) = x2 := ⟨_, rfl⟩
      have e0 : x0.toNat = 97 + ix / 16 := by rw [← hx0, UInt8.toNat_ofNat']; omega
      have e1 : x1.toNat = 97 + ix / 4 % 4 := by rw [← hx1, UInt8.toNat_ofNat']; omega
      have e2 : x2.toNat = 97 + ix % 4 := by rw [← hx2, UInt8.toNat_ofNat']; omega
      have hkw : knW ix = [x0, x1, x2] := by unfold knW; rw [hx0, hx1, hx2]
      have hcw := hcells ix (.string ⟨#[x0, x1, x2]⟩) (by
        unfold strCells knWs
        rw [List.getElem?_map, List.getElem?_map, List.getElem?_range hi64]
        simp [hkw])
      have hkc : intCells (knC ix) = [.int .i64 (x0.toNat : Int), .int .i64 (x1.toNat : Int), .int .i64 (x2.toNat : Int)] := by
        rw [e0, e1, e2]; rfl
      have HKW := Lib.hid hkw
      have HKC := Lib.hid hkc
      have E0 := Lib.hid e0
      have E1 := Lib.hid e1
      have E2 := Lib.hid e2
      have n0 : ∀ h : 0 < (⟨#[x0, x1, x2]⟩ : ByteArray).size, (⟨#[x0, x1, x2]⟩ : ByteArray)[0] = x0 := fun _ => rfl
      have n1 : ∀ h : 1 < (⟨#[x0, x1, x2]⟩ : ByteArray).size, (⟨#[x0, x1, x2]⟩ : ByteArray)[1] = x1 := fun _ => rfl
      have n2 : ∀ h : 2 < (⟨#[x0, x1, x2]⟩ : ByteArray).size, (⟨#[x0, x1, x2]⟩ : ByteArray)[2] = x2 := fun _ => rfl
      have v0 : wrap64 (x0.toNat : Int) = (x0.toNat : Int) := IntWalk.wrap64_in _ (by omega)
      have v1 : wrap64 (x1.toNat : Int) = (x1.toNat : Int) := IntWalk.wrap64_in _ (by omega)
      have v2 : wrap64 (x2.toNat : Int) = (x2.toNat : Int) := IntWalk.wrap64_in _ (by omega)
      clear hx0 hx1 hx2 e0 e1 e2 hkw hkc
      clear hcells
      go_wp2_with fail
      refine region_tail 10 (fun _ => True) (by kernel_rfl) trivial (fun hHeld => ?_)
      refine tail_take 0 (v := ?_) rfl (by kernel_rfl) (by kernel_rfl) (by kernel_rfl) (by kernel_rfl) (fun _ _ _ h => h) (by rfl) (fun u hu => ?_) (by assumption) ?_
      rotate_left
      focus ((try dsimp only at hu); go_simp; (try with_reducible rfl); done)
      try simp only [Act.put]
      refine tail_take 1 (v := ?_) rfl (by kernel_rfl) (by kernel_rfl) (by kernel_rfl) (by kernel_rfl) (fun _ _ _ h => h) (by rfl) (fun u hu => ?_) (by assumption) ?_
      rotate_left
      focus ((try dsimp only at hu); go_simp; (try with_reducible rfl); done)
      try simp only [Act.put]
      refine tail_take 2 (v := ?_) rfl (by kernel_rfl) (by kernel_rfl) (by kernel_rfl) (by kernel_rfl) (fun _ _ _ h => h) (by rfl) (fun u hu => ?_) (by assumption) ?_
      rotate_left
      focus ((try dsimp only at hu); go_simp; (try with_reducible rfl); done)
      try simp only [Act.put]
      refine tail_take 3 (v := ?_) rfl (by kernel_rfl) (by kernel_rfl) (by kernel_rfl) (by kernel_rfl) (fun _ _ _ h => h) (by rfl) (fun u hu => ?_) (by assumption) ?_
      rotate_left
      focus ((try dsimp only at hu); go_simp; (try with_reducible rfl); done)
      try simp only [Act.put]
      refine tail_take 4 (v := ?_) rfl (by kernel_rfl) (by kernel_rfl) (by kernel_rfl) (by kernel_rfl) (fun _ _ _ h => h) (by rfl) (fun u hu => ?_) (by assumption) ?_
      rotate_left
      focus ((try dsimp only at hu); go_simp; (try with_reducible rfl); done)
      try simp only [Act.put]
      refine tail_take 5 (v := ?_) rfl (by kernel_rfl) (by kernel_rfl) (by kernel_rfl) (by kernel_rfl) (fun _ _ _ h => h) (by rfl) (fun u hu => ?_) (by assumption) ?_
      rotate_left
      focus ((try dsimp only at hu); go_simp; (try with_reducible rfl); done)
      try simp only [Act.put]
      refine tail_take 6 (v := ?_) rfl (by kernel_rfl) (by kernel_rfl) (by kernel_rfl) (by kernel_rfl) (fun _ _ _ h => h) (by rfl) (fun u hu => ?_) (by assumption) ?_
      rotate_left
      focus ((try dsimp only at hu); go_simp; (try with_reducible rfl); done)
      try simp only [Act.put]
      refine tail_take 7 (v := ?_) rfl (by kernel_rfl) (by kernel_rfl) (by kernel_rfl) (by kernel_rfl) (fun _ _ _ h => h) (by rfl) (fun u hu => ?_) (by assumption) ?_
      rotate_left
      focus ((try dsimp only at hu); go_simp; (try with_reducible rfl); done)
      try simp only [Act.put]
      refine tail_take 8 (v := ?_) rfl (by kernel_rfl) (by kernel_rfl) (by kernel_rfl) (by kernel_rfl) (fun _ _ _ h => h) (by rfl) (fun u hu => ?_) (by assumption) ?_
      rotate_left
      focus ((try dsimp only at hu); go_simp; (try with_reducible rfl); done)
      try simp only [Act.put]
      refine tail_step 9 (by kernel_rfl) rfl (fun K hK => ?_)
      go_simp
      refine hK.out _ _ (by exact trivial) (fun hHeld9 => ?_)
      clear hK K
      try simp only [Act.put]
      refine tail_last (by kernel_rfl) rfl (fun K hK => ?_)
      go_simp
      refine hK.out _ _ ?_
      clear hK K
      refine tail_done (by kernel_rfl) ?_
      go_wp2_with fail
      have hgal := World.grownBy_alloc w1 (.cells #[.int .i64 (x0.toNat : Int), .int .i64 (x1.toNat : Int), .int .i64 (x2.toNat : Int)] 3) none
      have hslc := Sl.of_own (World.ownsRow_lit (base := 0) (size := 1) (e := 3) w1 #[.int .i64 (x0.toNat : Int), .int .i64 (x1.toNat : Int), .int .i64 (x2.toNat : Int)] 3 (Nat.zero_le _) (by decide) rfl) (by intro x hx; simp at hx; rcases hx with rfl | rfl | rfl <;> rfl)
      have HGA := Lib.hid hgal
      have HSC := Lib.hid hslc
      clear hgal hslc
      refine (place_any a0 4 _ (by omega) (by omega)).mono ?_
      rintro e w2 ⟨rfl, rfl⟩
      rw [HM.out]
      go_wp2_with fail
      have HGB := Lib.hid (show w1.grownBy (w1.alloc (.cells #[.int .i64 (x0.toNat : Int), .int .i64 (x1.toNat : Int), .int .i64 (x2.toNat : Int)] 3 (0, 0))).drew none from grownBy_drew HGA.out)
      have HSD := Lib.hid (show Sl (w1.alloc (.cells #[.int .i64 (x0.toNat : Int), .int .i64 (x1.toNat : Int), .int .i64 (x2.toNat : Int)] 3 (0, 0))).drew 1 (some ⟨w1.heap.size, 0, none⟩) 3 (intCells (knC ix)) from by rw [HKC.out]; exact HSC.out.kept (grownBy_drew (grownBy_refl _ none)) nofun)
      have hst : (walkS knSts 3 (knC ix) (mostS (m : Int))).steps ≤ 1000000 := by rw [HMS.out]; have := GB.out; omega
      have hle : (walkS knSts 3 (knC ix) (mostS (m : Int))).l.length ≤ 1000000 := by rw [HMS.out]; have := GA.out.few; change (knL ix m).length ≤ _; omega
      refine (Walk_walk B M _ lv 3 knSts _ 3 3 (knC ix) (m : Int) _ (H.out.kept HGB.out) K1.out rfl (by decide) HSD.out (tabs_kept (tabs_kept HT.out HG1.out) HGB.out) (by decide) (by decide) hst hle).mono ?_
      rintro e w2 ⟨v2, rfl, hown2, hg2⟩
      rw [HMS.out] at hown2
      change World.ownsRow _ _ _ _ _ (knL ix m).length (offCells (knL ix m)) at hown2
      obtain ⟨L, hL⟩ : ∃ L, knL ix m = L := ⟨_, rfl⟩
      rw [hL] at hown2
      rw [hL] at GA
      obtain ⟨A2, c2, rfl⟩ := own_slice hown2
      have HO := Lib.hid hown2
      have HG2 := Lib.hid (grownBy_trans HG1.out (grownBy_trans HGB.out hg2 nofun) nofun)
      clear hown2 hg2 hst hle hL HSD HSC HGA HGB H K1 HC HW HSL HG HG1r hcw
      go_upto_region 14 with (fail)
      go_quiet (fail)
      go_upto_if 81 with (fail)
      obtain ⟨on, hon⟩ : ∃ on : Nat, 10 + (if ix / 16 = ix / 4 % 4 then 0 else 1) = on := ⟨_, rfl⟩
      have hon2 : on ≤ 11 := by rw [← hon]; split <;> omega
      have HON := Lib.hid hon
      have d01 := E0.out
      have d11 := E1.out
      clear hon
      go_cut [13] (fun v wx => v = .int .i64 (on : Int) ∧ wx = w2.drewN nq)
      case first =>
        have hon := HON.out
        by_cases h01 : ix / 16 = ix / 4 % 4
        · rw [if_pos h01] at hon
          obtain rfl : x0 = x1 := UInt8.toNat_inj.1 (by omega)
          go_wp2_with fail
          go_meet
          exact ⟨by rw [← hon]; rfl, rfl⟩
        · rw [if_neg h01] at hon
          have hne : ¬ x0 = x1 := fun e => by rw [e] at d01; omega
          have hnn : ¬ x0.toNat = x1.toNat := by omega
          go_wp2_with fail
          go_meet
          exact ⟨by rw [← hon]; rfl, rfl⟩
      case rest =>
        obtain ⟨rfl, rfl⟩ := hcut
        go_upto_region 16 with (fail)
        go_quiet (fail)
        go_upto_if 88 with (fail)
        have how : oneK ix = on + (if ix / 4 % 4 = ix % 4 then 0 else 1) := by rw [← HON.out]; rfl
        obtain ⟨ow, how2⟩ : ∃ ow, oneK ix = ow := ⟨_, rfl⟩
        have HOW := Lib.hid how2
        rw [how2] at how
        have how12 : ow ≤ 12 := by rw [how]; split <;> omega
        have HOW3 := Lib.hid how
        have d21 := E2.out
        clear how how2
        go_cut [13] (fun v wx => v = .int .i64 (ow : Int) ∧ w2.grownBy wx none)
        case first =>
          have hon := HOW3.out
          by_cases h01 : ix / 4 % 4 = ix % 4
          · rw [if_pos h01] at hon
            obtain rfl : x1 = x2 := UInt8.toNat_inj.1 (by omega)
            go_wp2_with fail
            go_meet
            exact ⟨by rw [hon]; rfl, by first | exact grownBy_drewN (grownBy_refl _ none) _ | exact grownBy_drewN (grownBy_drewN (grownBy_refl _ none) _) _⟩
          · rw [if_neg h01] at hon
            have hne : ¬ x1 = x2 := fun e => by rw [e] at d11; omega
            have hnn : ¬ x1.toNat = x2.toNat := by omega
            go_wp2_with fail
            go_meet
            exact ⟨by rw [hon]; rfl, by first | exact grownBy_drewN (grownBy_refl _ none) _ | exact grownBy_drewN (grownBy_drewN (grownBy_refl _ none) _) _⟩
        case rest =>
          obtain ⟨rfl, hgc⟩ := hcut
          have HGC := Lib.hid hgc
          clear hgc v0 v1 v2 n0 n1 n2 d01 d11 d21
          go_wp2_with fail
          go_loopw [14, 15] (fun nv iv wr => ∃ j : Nat, j ≤ L.length ∧ iv = .int .i64 (j : Int) ∧ nv = .int .i64 (((L.take j).filter fun o => decide (o.2 ≤ 1)).length : Nat) ∧ w2.grownBy wr none) (fun _ iv _ => L.length - (intOf iv).toNat)
          case atStart => exact ⟨0, Nat.zero_le _, rfl, rfl, HGC.out⟩
          case round =>
            obtain ⟨j, hj, rfl, rfl, hgr⟩ := hrel
            have HGR := Lib.hid hgr
            have hfew := GA.out.few
            rcases Nat.lt_or_ge j L.length with hlt | hge
            · rename (∀ (a : Act) (w : World), Code.wp _ _ _ a w → _) => kl
              clear kl
              clear g3 k2 k3 hx64 hon2 how12 hi hz0 hz1 hz2 hB hk hge
              obtain ⟨o, ho⟩ : ∃ o, L[j]? = some o := ⟨_, List.getElem?_eq_getElem hlt⟩
              have hown := ownsRow_kept HO.out hgr (own_none _)
              obtain ⟨q2, c3, e2, _⟩ := own_form hown (by omega)
              cases e2
              obtain ⟨s0, s1⟩ := offer_cell hown ho
              rw [Nat.mul_comm 2 j] at s0 s1
              obtain ⟨hom, hoz⟩ := GA.out.near o (List.mem_of_getElem? ho)
              obtain ⟨nr, hnr⟩ : ∃ nr : Nat, ((L.take j).filter fun o => decide (o.2 ≤ 1)).length = nr := ⟨_, rfl⟩
              obtain ⟨nr2, hnr2⟩ : ∃ nr2 : Nat, ((L.take (j + 1)).filter fun o => decide (o.2 ≤ 1)).length = nr2 := ⟨_, rfl⟩
              have hsum : nr2 = nr + (if o.2 ≤ 1 then 1 else 0) := by
                rw [← hnr, ← hnr2, List.take_add_one, ho, Option.toList_some, List.filter_append, List.length_append]
                split
                · rename_i h; simp [h]
                · rename_i h; simp [h]
              have hnrj : nr ≤ j := by rw [← hnr]; exact Nat.le_trans (List.length_filter_le _ _) (by rw [List.length_take]; omega)
              rw [hnr]
              have HNR2 := Lib.hid hnr2
              have HO3 := Lib.hid ho
              have HSUM := Lib.hid hsum
              have HOZ := Lib.hid hoz
              have HOWN := Lib.hid hown
              clear hnr hnr2 hown hgr hsum hoz ho
              have hjl : (j : Int) < (L.length : Int) := by omega
              go_upto_if 102 with (fail)
              go_cut [14] (fun v wx => v = .int .i64 (nr2 : Int) ∧ wx = wr)
              case first =>
                have hs := HSUM.out
                by_cases h1 : o.2 ≤ 1
                · rw [if_pos h1] at hs
                  have h1i : (o.2 : Int) ≤ 1 := by omega
                  go_wp2_with fail
                  go_meet
                  exact ⟨by rw [hs]; rfl, rfl⟩
                · rw [if_neg h1] at hs
                  have h1i : (1 : Int) < (o.2 : Int) := by omega
                  go_wp2_with fail
                  go_meet
                  exact ⟨by rw [hs]; rfl, rfl⟩
              case rest =>
                obtain ⟨rfl, rfl⟩ := hcut
                have homi : decide ((m : Int) < (o.2 : Int)) = false := decide_eq_false (by omega)
                have homi2 : decide (m < o.2) = false := decide_eq_false (by omega)
                rcases Nat.eq_zero_or_pos j with hj0 | hjp
                · have hjd : decide ((0 : Int) < (j : Int)) = false := decide_eq_false (by omega)
                  have hjd2 : decide (0 < j) = false := decide_eq_false (by omega)
                  clear hj0
                  go_upto_region 24 with (fail)
                  by_cases hz : o.2 = 0
                  · have hw0 := HOZ.out.1 hz
                    rw [HKW.out] at hw0
                    rw [hw0] at s0
                    rw [hz] at s1 hom homi
                    have hz1 : decide ((0 : Int) = 0) = true := rfl
                    have hm0 : decide ((m : Int) < (0 : Int)) = false := decide_eq_false (by omega)
                    clear hw0
                    go_quiet (fail)
                    go_wp2_with fail
                    go_roundw
                    case rel => exact ⟨j + 1, by omega, by go_num, by rw [HNR2.out], grownBy_drewN HGR.out _⟩
                    case measure => simp [intOf]; omega
                  · have hw0 : ¬ o.1 = [x0, x1, x2] := fun e => hz (HOZ.out.2 (by rw [HKW.out]; exact e))
                    have hse : ¬ (⟨o.1.toArray⟩ : ByteArray) = ⟨#[x0, x1, x2]⟩ := fun e => hw0 (by have := congrArg ByteArray.data e; simpa using this)
                    have hxa : ¬ o.1.toArray = #[x0, x1, x2] := fun e => hw0 (by simpa using e)
                    have hbe : (o.1 == [x0, x1, x2]) = false := by simpa using hw0
                    have hz0i : ((o.2 : Int) == 0) = false := by rw [beq_eq_false_iff_ne]; omega
                    have hz0d : decide ((o.2 : Int) = 0) = false := decide_eq_false (by omega)
                    have hz0e : decide (o.2 = 0) = false := decide_eq_false hz
                    have hz0n : ¬ o.2 = 0 := hz
                    clear hw0
                    go_quiet (fail)
                    go_wp2_with fail
                    go_roundw
                    case rel => exact ⟨j + 1, by omega, by go_num, by rw [HNR2.out], grownBy_drewN HGR.out _⟩
                    case measure => simp [intOf]; omega
                · have hjd : decide ((0 : Int) < (j : Int)) = true := decide_eq_true (by omega)
                  have hjd2 : decide (0 < j) = true := decide_eq_true (by omega)
                  obtain ⟨j', hj'⟩ : ∃ j', j - 1 = j' := ⟨_, rfl⟩
                  obtain ⟨o', ho'⟩ : ∃ o', L[j']? = some o' := ⟨_, List.getElem?_eq_getElem (by omega)⟩
                  obtain ⟨t0, _⟩ := offer_cell HOWN.out ho'
                  rw [Nat.mul_comm 2 j'] at t0
                  have hrise := GA.out.rise ho' (by have := HO3.out; rwa [show j = j' + 1 by omega] at this)
                  have hb1 : Op.bytesLess o.1 o'.1 = false := by rw [bytesLess_eq]; exact decide_eq_false (fun e => List.lt_irrefl _ (List.lt_trans hrise e))
                  have hb2 : (o.1 == o'.1) = false := by rw [beq_eq_false_iff_ne]; intro e; rw [e] at hrise; exact List.lt_irrefl _ hrise
                  have hjl2 : (j' : Int) < (L.length : Int) := by omega
                  have hjm : (j : Int) - 1 = (j' : Int) := by omega
                  have hjw : IntKind.i64.wrap (j' : Int) = (j' : Int) := by rw [IntKind.wrap_i64]; omega
                  have HJ := Lib.hid hj'
                  clear hrise ho' hjp hj'
                  go_upto_region 24 with (fail)
                  by_cases hz : o.2 = 0
                  · have hw0 := HOZ.out.1 hz
                    rw [HKW.out] at hw0
                    rw [hw0] at s0 hb1 hb2
                    rw [hz] at s1 hom homi
                    have hz1 : decide ((0 : Int) = 0) = true := rfl
                    have hm0 : decide ((m : Int) < (0 : Int)) = false := decide_eq_false (by omega)
                    clear hw0
                    go_quiet (fail)
                    go_wp2_with fail
                    go_roundw
                    case rel => exact ⟨j + 1, by omega, by go_num, by rw [HNR2.out], grownBy_drewN HGR.out _⟩
                    case measure => simp [intOf]; omega
                  · have hw0 : ¬ o.1 = [x0, x1, x2] := fun e => hz (HOZ.out.2 (by rw [HKW.out]; exact e))
                    have hse : ¬ (⟨o.1.toArray⟩ : ByteArray) = ⟨#[x0, x1, x2]⟩ := fun e => hw0 (by have := congrArg ByteArray.data e; simpa using this)
                    have hxa : ¬ o.1.toArray = #[x0, x1, x2] := fun e => hw0 (by simpa using e)
                    have hbe : (o.1 == [x0, x1, x2]) = false := by simpa using hw0
                    have hz0i : ((o.2 : Int) == 0) = false := by rw [beq_eq_false_iff_ne]; omega
                    have hz0d : decide ((o.2 : Int) = 0) = false := decide_eq_false (by omega)
                    have hz0e : decide (o.2 = 0) = false := decide_eq_false hz
                    have hz0n : ¬ o.2 = 0 := hz
                    clear hw0
                    go_quiet (fail)
                    go_wp2_with fail
                    go_roundw
                    case rel => exact ⟨j + 1, by omega, by go_num, by rw [HNR2.out], grownBy_drewN HGR.out _⟩
                    case measure => simp [intOf]; omega
            · obtain rfl : j = L.length := by omega
              rw [List.take_length]
              obtain ⟨nt, hnt⟩ : ∃ nt : Nat, (L.filter fun o => decide (o.2 ≤ 1)).length = nt := ⟨_, rfl⟩
              rw [hnt]
              have hntj : nt ≤ L.length := by rw [← hnt]; exact List.length_filter_le _ _
              have HNT := Lib.hid hnt
              have g0 := GA.out.m0
              have g1 := GA.out.m1
              have g2 := GA.out.m2
              have g3' := GA.out.m3
              rw [hnt] at g2 g3'
              rw [HOW.out] at g1 g2 g3'
              obtain ⟨N, hN⟩ : ∃ N, L.length = N := ⟨_, rfl⟩
              rw [hN] at g0 g1 g2 g3' hfew hntj ⊢
              have HT9 := tabs_kept (tabs_kept HT.out HG2.out) hgr
              clear hnt hgr
              rcases (show m = 0 ∨ m = 1 ∨ m = 2 ∨ m = 3 by omega) with rfl | rfl | rfl | rfl
              · have hN1 := g0 rfl
                subst hN1
                clear g0 g1 g2 g3'
                go_wp2_with fail
                refine (awake18_walk wr HT9).mono ?_
                rintro e w9 ⟨rfl, hg9⟩
                have HG9 := Lib.hid hg9
                clear hg9
                go_wp2_with fail
                go_ret
                exact ⟨rfl, grownBy_trans HG2.out (grownBy_trans HGR.out HG9.out nofun) nofun⟩
              · have hN1 := g1 rfl
                subst hN1
                clear g0 g1 g2 g3'
                go_wp2_with fail
                refine (awake18_walk wr HT9).mono ?_
                rintro e w9 ⟨rfl, hg9⟩
                have HG9 := Lib.hid hg9
                clear hg9
                go_wp2_with fail
                go_ret
                exact ⟨rfl, grownBy_trans HG2.out (grownBy_trans HGR.out HG9.out nofun) nofun⟩
              · obtain ⟨hN1, hN2⟩ := g2 rfl
                subst hN1
                have hN3 : (nt : Int) < (N : Int) := by omega
                clear g0 g1 g2 g3'
                go_wp2_with fail
                refine (awake18_walk wr HT9).mono ?_
                rintro e w9 ⟨rfl, hg9⟩
                have HG9 := Lib.hid hg9
                clear hg9
                go_wp2_with fail
                go_ret
                exact ⟨rfl, grownBy_trans HG2.out (grownBy_trans HGR.out HG9.out nofun) nofun⟩
              · obtain ⟨hN1, hN2⟩ := g3' rfl
                subst hN1 hN2
                clear g0 g1 g2 g3'
                go_wp2_with fail
                refine (awake18_walk wr HT9).mono ?_
                rintro e w9 ⟨rfl, hg9⟩
                have HG9 := Lib.hid hg9
                clear hg9
                go_wp2_with fail
                go_ret
                exact ⟨rfl, grownBy_trans HG2.out (grownBy_trans HGR.out HG9.out nofun) nofun⟩
end Go.Proofs.YtgcaenckjelijaaDoor
