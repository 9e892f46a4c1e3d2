/-
  Layer 13's law ClosureCounts: the walk. Every number; unicode/utf8's two tables as they are laid.
-/
import Derived.Test.YtlbbjcggjmaehaaDoorCountsP
import Derived.Test.YtlbbjcggjmaehaaDoorPlace
namespace Go.Proofs.YtlbbjcggjmaehaaDoor
open Go Go.RowKit Go.Maps

set_option maxRecDepth 100000 in
set_option maxHeartbeats 4000000 in
theorem counts_walk (x y : Int) (cross : Bool) (w : World) (hT : Lib.Utf8Tabs 0 1 w) : Calls Tryd.prog 5 #[.int .i64 x, .int .i64 y, .bool cross] w (TrueRes w) := by
  obtain ⟨i0, hi, hz0, hz1, hz2⟩ := info_parts rule_info
  obtain ⟨a, ha⟩ : ∃ a : Nat, x % 8 = a := ⟨(x % 8).toNat, by omega⟩
  obtain ⟨b, hb⟩ : ∃ b : Nat, y % 8 = b := ⟨(y % 8).toNat, by omega⟩
  have ha8 : a < 8 := by omega
  have hb8 : b < 8 := by omega
  have HA := Lib.hid ha
  have HB := Lib.hid hb
  have HT := Lib.hid hT
  clear hT ha hb
  go_enter Tryd.func5, Tryd.ntmps5
  go_wp2_with fail
  refine (place_any x 8 w (by omega) (by omega)).mono ?_
  rintro e w' ⟨rfl, rfl⟩
  rw [HA.out]
  go_wp2_with fail
  refine (place_any y 8 w (by omega) (by omega)).mono ?_
  rintro e w' ⟨rfl, rfl⟩
  rw [HB.out]
  obtain ⟨CB, hCB⟩ : ∃ CB, w.heap.size = CB := ⟨_, rfl⟩
  have hal := World.grownBy_alloc w (.cells #[.bool true, .bool false, .slice none 0 0] 48) none
  have hit := Sl.of_own (World.ownsRow_lit (base := 0) (size := 3) (e := 48) w #[.bool true, .bool false, .slice none 0 0] 1 (Nat.zero_le _) (by decide) rfl) (by intro x hx; simp at hx; rcases hx with rfl | rfl | rfl <;> rfl)
  have hcond : CondAt (w.alloc (.cells #[.bool true, .bool false, .slice none 0 0] 48)) (some ⟨w.heap.size, 0, none⟩) [anyIt] := ⟨hit, fun z hz => by rw [List.mem_singleton] at hz; subst hz; exact Sl.nil _ _ _⟩
  have hszw : (w.alloc (.cells #[.bool true, .bool false, .slice none 0 0] 48)).heap.size = CB + 1 := by rw [World.size_alloc, hCB]
  rw [hCB] at hcond
  go_wp2_with fail
  obtain ⟨w1, hw1⟩ : ∃ w1, w.alloc (.cells #[.bool true, .bool false, .slice none 0 0] 48) = w1 := ⟨_, rfl⟩
  rw [hw1] at hcond hal hszw ⊢
  have HC := Lib.hid hcond
  have HAL := Lib.hid hal
  have HSZ := Lib.hid hszw
  clear hw1 hal hit hcond hszw
  go_loopw [9, 11] (fun lv iv wr => ∃ (i c : Nat) (A : Option Addr), i ≤ a ∧ iv = .int .i64 (i : Int) ∧ lv = .slice A i c ∧ wr.ownsRow w1.heap.size 51 6 (.slice A i c) i (ruCells (sufsC cross (some ⟨CB, 0, none⟩) 1 i)) ∧ w1.grownBy wr none) (fun _ iv _ => a - (RowKit.intOf iv).toNat)
  case atStart => exact ⟨0, 0, none, Nat.zero_le _, rfl, rfl, World.ownsRow_nil _ _ _ _, grownBy_refl _ none⟩
  case round =>
    obtain ⟨i, c, A, hia, rfl, rfl, hown, hg⟩ := hrel
    rcases Nat.lt_or_ge i a with hlt | hge
    · skip
      have hlti : (i : Int) < (a : Int) := by omega
      have hl8 : (i : Int) + 1 ≤ 10 := by omega
      have hii : (i : Int) ≤ (i : Int) + 1 := by omega
      have wi : IntKind.i64.wrap (i : Int) = (i : Int) := by rw [IntKind.wrap_i64]; omega
      have wi1 : IntKind.i64.wrap ((i : Int) + 1) = (i : Int) + 1 := by rw [IntKind.wrap_i64]; omega
      have zi : (0 : Int) ≤ (i : Int) + 1 := by omega
      have hex := slice_wd digsC i (i + 1)
      obtain ⟨X, hX⟩ : ∃ X, (digsC.take (i + 1)).drop i = X := ⟨_, rfl⟩
      rw [hX] at hex
      unfold digsC at hex
      have HX := Lib.hid hX
      have hga := World.grownBy_alloc wr (.cells #[.bool false, .int .i64 83, .bool cross, .string ⟨#[]⟩, .string ⟨X.toArray⟩, .slice (some ⟨CB, 0, none⟩) 1 1] 51) none
      have hsl := Sl.of_own (World.ownsRow_lit (base := 0) (size := 6) (e := 51) wr #[.bool false, .int .i64 83, .bool cross, .string ⟨#[]⟩, .string ⟨X.toArray⟩, .slice (some ⟨CB, 0, none⟩) 1 1] 1 (Nat.zero_le _) (by decide) rfl) (by intro x hx; simp at hx; rcases hx with rfl | rfl | rfl | rfl | rfl | rfl <;> rfl)
      have hown2 := ownsRow_kept hown hga (own_none _)
      have hwr := hg.size
      have HSL := Lib.hid hsl
      have HO2 := Lib.hid hown2
      have HGA := Lib.hid hga
      have HG := Lib.hid hg
      clear hX hga hsl hown2 hg hown
      go_wp2_with (at_builtin; refine wpList_append_sl _ rfl (.tmp 28) (.tmp 36) 22 rfl w1.heap.size 51 i0 _ 6 80 Tryd.underlying22 hi hz0 hz1 hz2 rfl (by decide) (.slice A (i) c) (i) _ rfl HO2.out (some ⟨wr.heap.size, 0, none⟩) 1 1 [.bool false, .int .i64 83, .bool cross, .string ⟨#[]⟩, .string ⟨X.toArray⟩, .slice (some ⟨CB, 0, none⟩) 1 1] rfl HSL.out (by unfold maxLen; omega) (by omega) (by simp; omega) ?_)
      rintro v' w' ⟨hown', hg', hat⟩
      obtain ⟨q', c', rfl, _⟩ := own_form hown' (by omega)
      have hgw : w1.grownBy w' none := grownBy_trans (grownBy_trans HG.out HGA.out nofun) hg' (fun l hl => .inr (HO2.out.lt l hl).1)
      go_wp2_with fail
      go_roundw
      case rel =>
        refine ⟨i + 1, c', some ⟨q', 0, none⟩, by omega, by go_num, by rfl, ?_, hgw⟩
        rw [sufs_snoc, ruCells_snoc]
        rw [← HX.out] at hown'
        exact hown'
      case measure => simp [RowKit.intOf]; omega
    · obtain rfl : a = i := by omega
      have HO := Lib.hid hown
      have HG := Lib.hid hg
      clear hown hg
      go_wp2_with fail
      go_loopw [9, 12] (fun lv iv wr => ∃ (j c : Nat) (A : Option Addr), j ≤ b ∧ iv = .int .i64 (j : Int) ∧ lv = .slice A (a + j) c ∧ wr.ownsRow w1.heap.size 51 6 (.slice A (a + j) c) (a + j) (ruCells (sufsC cross (some ⟨CB, 0, none⟩) 1 a ++ presC (some ⟨CB, 0, none⟩) 1 j)) ∧ w1.grownBy wr none) (fun _ iv _ => b - (RowKit.intOf iv).toNat)
      case atStart => exact ⟨0, c, A, Nat.zero_le _, rfl, rfl, by simpa [presC] using HO.out, HG.out⟩
      case round =>
        clear HO HG
        obtain ⟨i, c, A, hib, rfl, rfl, hown, hg⟩ := hrel
        rcases Nat.lt_or_ge i b with hlt | hge
        · skip
          have hlti : (i : Int) < (b : Int) := by omega
          have hl8 : (i : Int) + 1 ≤ 10 := by omega
          have hii : (i : Int) ≤ (i : Int) + 1 := by omega
          have wi : IntKind.i64.wrap (i : Int) = (i : Int) := by rw [IntKind.wrap_i64]; omega
          have wi1 : IntKind.i64.wrap ((i : Int) + 1) = (i : Int) + 1 := by rw [IntKind.wrap_i64]; omega
          have zi : (0 : Int) ≤ (i : Int) + 1 := by omega
          have hex := slice_wd digsC i (i + 1)
          obtain ⟨X, hX⟩ : ∃ X, (digsC.take (i + 1)).drop i = X := ⟨_, rfl⟩
          rw [hX] at hex
          unfold digsC at hex
          have HX := Lib.hid hX
          have hga := World.grownBy_alloc wr (.cells #[.bool true, .int .i64 80, .bool true, .string ⟨#[]⟩, .string ⟨X.toArray⟩, .slice (some ⟨CB, 0, none⟩) 1 1] 51) none
          have hsl := Sl.of_own (World.ownsRow_lit (base := 0) (size := 6) (e := 51) wr #[.bool true, .int .i64 80, .bool true, .string ⟨#[]⟩, .string ⟨X.toArray⟩, .slice (some ⟨CB, 0, none⟩) 1 1] 1 (Nat.zero_le _) (by decide) rfl) (by intro x hx; simp at hx; rcases hx with rfl | rfl | rfl | rfl | rfl | rfl <;> rfl)
          have hown2 := ownsRow_kept hown hga (own_none _)
          have hwr := hg.size
          have HSL := Lib.hid hsl
          have HO2 := Lib.hid hown2
          have HGA := Lib.hid hga
          have HG := Lib.hid hg
          clear hX hga hsl hown2 hg hown
          go_wp2_with (at_builtin; refine wpList_append_sl _ rfl (.tmp 43) (.tmp 50) 22 rfl w1.heap.size 51 i0 _ 6 80 Tryd.underlying22 hi hz0 hz1 hz2 rfl (by decide) (.slice A (a + i) c) (a + i) _ rfl HO2.out (some ⟨wr.heap.size, 0, none⟩) 1 1 [.bool true, .int .i64 80, .bool true, .string ⟨#[]⟩, .string ⟨X.toArray⟩, .slice (some ⟨CB, 0, none⟩) 1 1] rfl HSL.out (by unfold maxLen; omega) (by omega) (by simp; omega) ?_)
          rintro v' w' ⟨hown', hg', hat⟩
          obtain ⟨q', c', rfl, _⟩ := own_form hown' (by omega)
          have hgw : w1.grownBy w' none := grownBy_trans (grownBy_trans HG.out HGA.out nofun) hg' (fun l hl => .inr (HO2.out.lt l hl).1)
          go_wp2_with fail
          go_roundw
          case rel =>
            refine ⟨i + 1, c', some ⟨q', 0, none⟩, by omega, by go_num, by rfl, ?_, hgw⟩
            rw [pres_snoc, ← List.append_assoc, ruCells_snoc]
            rw [← HX.out] at hown'
            exact hown'
          case measure => simp [RowKit.intOf]; omega
        · obtain rfl : b = i := by omega
          have HO := Lib.hid hown
          have HG := Lib.hid hg
          clear hown hg
          obtain ⟨rules, hrules⟩ : ∃ rules, sufsC cross (some ⟨CB, 0, none⟩) 1 a ++ presC (some ⟨CB, 0, none⟩) 1 b = rules := ⟨_, rfl⟩
          have hrl : rules.length = a + b := by rw [← hrules, List.length_append, sufs_len, pres_len]
          have hown := HO.out
          rw [hrules] at hown
          have hrs : RusAt wr A rules := by
            refine ⟨?_, fun r hr => ?_⟩
            · have := Sl.of_own hown (ruCells_one rules)
              rw [hrl]; exact this
            · have hcd := HC.out.kept HG.out
              rw [← hrules] at hr
              have hdl : ∀ i, ((digsC.take (i + 1)).drop i).length ≤ 100000 := fun i => by
                rw [List.length_drop, List.length_take]
                have : digsC.length = 10 := rfl
                omega
              rcases List.mem_append.1 hr with hr | hr
              · obtain ⟨i, _, rfl⟩ := List.mem_map.1 hr
                exact ⟨hcd, by show 1 ≤ 100000; omega, fun z hz => by simp only [sufC, List.mem_singleton] at hz; subst hz; show 0 ≤ 100000; omega, by show 0 ≤ 100000; omega, hdl i⟩
              · obtain ⟨i, _, rfl⟩ := List.mem_map.1 hr
                exact ⟨hcd, by show 1 ≤ 100000; omega, fun z hz => by simp only [preC, List.mem_singleton] at hz; subst hz; show 0 ≤ 100000; omega, by show 0 ≤ 100000; omega, hdl i⟩
          have hcnt := fun (F : Option Addr) (fc : Nat) => counts_one ha8 hb8 cross (some ⟨CB, 0, none⟩) 1 F fc
          simp only [hrules] at hcnt
          have HCNT := Lib.hid hcnt
          have HRS := Lib.hid hrs
          have HRL := Lib.hid hrl
          clear hrs hcnt hrl hown hrules
          have ga1 := World.grownBy_alloc wr (.cells #[.int .i64 80, .int .i64 83] 3) none
          have hs1 := Sl.of_own (World.ownsRow_lit (base := 0) (size := 1) (e := 3) wr #[.int .i64 80, .int .i64 83] 2 (Nat.zero_le _) (by decide) rfl) (by intro x hx; simp at hx; rcases hx with rfl | rfl <;> rfl)
          have hT1 := tabs_kept HT.out (grownBy_trans HAL.out HG.out nofun)
          have hf := forms_walk rules A (a + b) c ⟨[119, 111, 114, 100], some ⟨wr.heap.size, 0, none⟩, 2, [80, 83]⟩ (wr.alloc (.cells #[.int .i64 80, .int .i64 83] 3)) HRL.out (by omega) (HRS.out.kept ga1) ⟨hs1, by show 4 ≤ 100000; omega, by show 2 ≤ 100000; omega⟩ (tabs_kept hT1 ga1)
          have hl1 := (HCNT.out (some ⟨wr.heap.size, 0, none⟩) 2).1
          have hris := canon_rise (formsQ rules ⟨[119, 111, 114, 100], some ⟨wr.heap.size, 0, none⟩, 2, [80, 83]⟩)
          obtain ⟨L1, hL1⟩ : ∃ L1, canon (formsQ rules ⟨[119, 111, 114, 100], some ⟨wr.heap.size, 0, none⟩, 2, [80, 83]⟩) = L1 := ⟨_, rfl⟩
          rw [hL1] at hf hl1 hris
          have HF := Lib.hid hf
          have HL1 := Lib.hid hl1
          have HRIS := Lib.hid hris
          have HT1 := Lib.hid hT1
          have HGA := Lib.hid ga1
          clear ga1 hs1 hf hl1 hL1 hT1 hris
          go_wp2_with fail
          refine HF.out.mono ?_
          rintro e w2 ⟨v, rfl, ⟨A2, k2, rfl, hown2⟩, hg2⟩
          obtain ⟨nf, hnf⟩ : ∃ nf, L1.length = nf := ⟨_, rfl⟩
          rw [hnf] at hown2 HL1 ⊢
          have HSL2 := Lib.hid (Sl.of_own hown2 (strCells_one' _))
          have HG2 := Lib.hid (grownBy_trans HGA.out hg2 nofun)
          have HNF := Lib.hid hnf
          clear hown2 hg2 hnf
          have ga1 := World.grownBy_alloc w2 (.cells #[.int .i64 80] 3) none
          have hs1 := Sl.of_own (World.ownsRow_lit (base := 0) (size := 1) (e := 3) w2 #[.int .i64 80] 1 (Nat.zero_le _) (by decide) rfl) (by intro x hx; simp at hx; subst hx; rfl)
          have hf := forms_walk rules A (a + b) c ⟨[119, 111, 114, 100], some ⟨w2.heap.size, 0, none⟩, 1, [80]⟩ (w2.alloc (.cells #[.int .i64 80] 3)) HRL.out (by omega) (HRS.out.kept (grownBy_trans HG2.out ga1 nofun)) ⟨hs1, by show 4 ≤ 100000; omega, by show 1 ≤ 100000; omega⟩ (tabs_kept HT1.out (grownBy_trans HG2.out ga1 nofun))
          have hl2 := (HCNT.out (some ⟨w2.heap.size, 0, none⟩) 1).2
          obtain ⟨L2, hL2⟩ : ∃ L2, canon (formsQ rules ⟨[119, 111, 114, 100], some ⟨w2.heap.size, 0, none⟩, 1, [80]⟩) = L2 := ⟨_, rfl⟩
          rw [hL2] at hf hl2
          have HF2 := Lib.hid hf
          have HGA2 := Lib.hid ga1
          obtain ⟨n2, hn2⟩ : ∃ n2, L2.length = n2 := ⟨_, rfl⟩
          rw [hn2] at hl2
          have HN2 := Lib.hid hn2
          clear ga1 hs1 hf hL2 hn2
          go_wp2_with fail
          refine HF2.out.mono ?_
          rintro e w3 ⟨v, rfl, ⟨A3, k3, rfl, hown3⟩, hg3⟩
          rw [HN2.out]
          have HG3 := Lib.hid (grownBy_trans HG2.out (grownBy_trans HGA2.out hg3 nofun) nofun)
          have HSL3 := Lib.hid (HSL2.out.kept (grownBy_trans HGA2.out hg3 nofun) nofun)
          clear hown3 hg3 HF HF2 HSL2
          have h2i : ((n2 : Int) == 1 + (b : Int)) = true := by rw [beq_iff_eq]; omega
          have h2d : decide ((n2 : Int) = 1 + (b : Int)) = true := decide_eq_true (by omega)
          go_upto_if 64 with (fail)
          go_cut [15] (fun v wx => v = .int .i64 (nf : Int) ∧ w3.grownBy wx none)
          case first =>
            have hw := HL1.out
            cases cross with
            | false =>
              unfold wantC at hw
              rw [if_neg Bool.false_ne_true] at hw
              have hnfi : 1 + (a : Int) + (b : Int) = (nf : Int) := by omega
              go_wp2_with fail
              go_meet
              exact ⟨by first | rw [← hnfi] | rw [hnfi] | rfl, grownBy_refl _ none⟩
            | true =>
              unfold wantC at hw
              rw [if_pos rfl] at hw
              obtain ⟨p, hp⟩ : ∃ p, a * b = p := ⟨_, rfl⟩
              rw [hp] at hw
              have hpi : (a : Int) * (b : Int) = (p : Int) := by rw [← hp, Int.natCast_mul]
              have hp49 : p ≤ 64 := by rw [← hp]; exact Nat.mul_le_mul (show a ≤ 8 by omega) (show b ≤ 8 by omega)
              have hwp : IntKind.i64.wrap (p : Int) = (p : Int) := by rw [IntKind.wrap_i64]; omega
              have hnfi : 1 + (a : Int) + (b : Int) + (p : Int) = (nf : Int) := by omega
              have hws : IntKind.i64.wrap (1 + (a : Int) + (b : Int) + (p : Int)) = (nf : Int) := by rw [IntKind.wrap_i64]; omega
              have HNFI := Lib.hid hnfi
              clear hp hnfi
              go_wp2_with fail
              go_meet
              exact ⟨by first | rw [HNFI.out] | rfl, grownBy_refl _ none⟩
          case rest =>
            obtain ⟨rfl, hgc⟩ := hcut
            rename World => wq
            have HSL4 := Lib.hid (HSL3.out.kept hgc nofun)
            have HG5 := Lib.hid (grownBy_trans HG3.out hgc nofun)
            clear hgc
            have hnfp : 1 ≤ nf := by
              have := HL1.out
              unfold wantC at this
              split at this <;> omega
            have hnfb : nf ≤ 1000 := by
              have h1 := HL1.out
              have h2 : a * b ≤ 8 * 8 := Nat.mul_le_mul (show a ≤ 8 by omega) (show b ≤ 8 by omega)
              unfold wantC at h1
              split at h1 <;> omega
            go_wp2_with fail
            go_loopw [16] (fun iv wr => ∃ i : Nat, 1 ≤ i ∧ i ≤ nf ∧ iv = .int .i64 (i : Int) ∧ wq.grownBy wr none) (fun iv _ => nf - (RowKit.intOf iv).toNat)
            case atStart => exact ⟨1, Nat.le_refl _, hnfp, rfl, grownBy_refl _ none⟩
            case round =>
              obtain ⟨i, hi1, hin, rfl, hg⟩ := hrel
              have HGL := Lib.hid hg
              rcases Nat.lt_or_ge i nf with hlt | hge
              · have hlti : (i : Int) < (nf : Int) := by omega
                obtain ⟨j, hj⟩ : ∃ j, i - 1 = j := ⟨_, rfl⟩
                have hji : (i : Int) - 1 = (j : Int) := by omega
                have hjw : IntKind.i64.wrap (j : Int) = (j : Int) := by rw [IntKind.wrap_i64]; omega
                have hjn : (j : Int) < (nf : Int) := by omega
                obtain ⟨u, hu⟩ : ∃ u, L1[i]? = some u := ⟨_, List.getElem?_eq_getElem (by rw [HNF.out]; exact hlt)⟩
                obtain ⟨v, hv⟩ : ∃ v, L1[j]? = some v := ⟨_, List.getElem?_eq_getElem (by rw [HNF.out]; omega)⟩
                have hri := rise_next HRIS.out hv (by rw [show j + 1 = i by omega]; exact hu)
                have hb1 : Op.bytesLess u v = false := by rw [Go.Proofs.bytesLess_eq]; exact decide_eq_false (fun e => List.lt_irrefl _ (List.lt_trans hri e))
                have hb2 : (u == v) = false := by rw [beq_eq_false_iff_ne]; intro e; rw [e] at hri; exact List.lt_irrefl _ hri
                obtain ⟨q, o, rfl, hcc⟩ := (HSL4.out.kept hg nofun).2.2 (by omega)
                have x0 := hcc i _ (by rw [strCells, List.getElem?_map, hu]; rfl)
                have x1 := hcc j _ (by rw [strCells, List.getElem?_map, hv]; rfl)
                clear hcc hri hj hg
                have HUV := Lib.hid (And.intro hu hv)
                clear hu hv
                go_upto_region 20 with (fail)
                go_quiet (fail)
                go_wp2_with fail
                go_roundw
                case rel => exact ⟨i + 1, by omega, by omega, by go_num, grownBy_drewN HGL.out _⟩
                case measure => simp [RowKit.intOf]; omega
              · obtain rfl : i = nf := by omega
                clear hg
                go_wp2_with fail
                refine (awake13_walk wr (tabs_kept HT1.out (grownBy_trans HG5.out HGL.out nofun))).mono ?_
                rintro e w4 ⟨rfl, hg4⟩
                have HG4 := Lib.hid hg4
                clear hg4
                go_wp2_with fail
                go_ret
                exact ⟨rfl, grownBy_trans HAL.out (grownBy_trans HG.out (grownBy_trans HG5.out (grownBy_trans HGL.out HG4.out nofun) nofun) nofun) nofun⟩
end Go.Proofs.YtlbbjcggjmaehaaDoor
