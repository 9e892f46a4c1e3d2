/-
  Layer 18's law WalkEmpty: of no words nothing; of the empty word, for codes that are few enough: the walk. Every number; unicode/utf8's two tables as they are laid.
-/
import Derived.Test.YtgcaenckjelijaaDoorWalkY
import Derived.Test.YtgcaenckjelijaaDoorPlace
namespace Go.Proofs.YtgcaenckjelijaaDoor
open Go Go.RowKit Go.Maps

theorem emp_canon : canon [[]] = [[]] := canon_of_rise (by simp [Rise]) (fun _ => Iff.rfl)
theorem emp_build : buildS 201 [[]] [] = (0, [(true, [])]) := by decide +kernel
theorem non_canon : canon [] = [] := canon_of_rise (by simp [Rise]) (fun _ => Iff.rfl)
theorem non_build : buildS 201 [] [] = (0, [(false, [])]) := by decide +kernel

theorem emp_walk (codes : List Int) (most : Nat) : walkS [(true, [])] 0 codes most = ⟨if codes.length ≤ most then [([], codes.length)] else [], 0⟩ := by
  have h1 : (stAt [(true, ([] : List DEdge))] 0) = (true, []) := rfl
  have h2 : (List.range (codes.length + 1)).getD codes.length 0 = codes.length := by
    rw [List.getD_eq_getElem?_getD, List.getElem?_range (by omega)]; rfl
  show onS _ _ _ (1 + 1) _ _ _ _ _ _ _ = _
  unfold onS
  rw [show ((0 : Nat) : Int) = 0 from rfl, h1, h2]
  simp only [List.foldl_nil]
  by_cases h : codes.length ≤ most
  · simp [h]
  · simp [h]

theorem non_walk (codes : List Int) (most : Nat) : walkS [(false, [])] 0 codes most = ⟨[], 0⟩ := by
  have h1 : (stAt [(false, ([] : List DEdge))] 0) = (false, []) := rfl
  show onS _ _ _ (1 + 1) _ _ _ _ _ _ _ = _
  unfold onS
  rw [show ((0 : Nat) : Int) = 0 from rfl, h1]
  simp

/-- The row of codes, under way. -/
def XsRel (w : World) (m : Nat) (cv kv : Value) (wr : World) : Prop :=
  ∃ (k c : Nat) (A : Option Addr), k ≤ m ∧ kv = .int .i64 (k : Int) ∧ cv = .slice A k c ∧ wr.ownsRow w.heap.size 3 1 (.slice A k c) k (intCells (List.replicate k 120)) ∧ w.grownBy wr none

theorem xs_succ (k : Nat) : intCells (List.replicate (k + 1) 120) = intCells (List.replicate k 120) ++ [.int .i64 120] := by
  rw [List.replicate_succ', intCells, intCells, List.map_append]; rfl

theorem xs_one {k : Nat} : ∀ x ∈ intCells (List.replicate k 120), x.oneCell' = true := fun x hx => by obtain ⟨d, _, rfl⟩ := List.mem_map.1 hx; rfl

set_option maxRecDepth 100000 in
set_option maxHeartbeats 2000000 in
theorem empty_walk (a0 a1 : Int) (w : World) (hT : Lib.Utf8Tabs 0 1 w) : Calls Tryd.prog 7 #[.int .i64 a0, .int .i64 a1] w (TrueRes w) := by
  obtain ⟨i0, hi, hz0, hz1, hz2⟩ := info_parts int_info
  obtain ⟨m, hm⟩ : ∃ m : Nat, a0 % 6 = m := ⟨(a0 % 6).toNat, by omega⟩
  have hm6 : m < 6 := by omega
  have hmax : ∀ (ts : Array TypeId) (t : TypeId) (w : World), (Builtin.max_ ts t #[.int .i64 a1, .int .i64 0]).run Tryd.prog w = .ok (.int .i64 (max a1 0)) w := by
    intro ts t w
    rw [run_max_int2]; congr 2; split <;> omega
  have hmin : ∀ (ts : Array TypeId) (t : TypeId) (w : World), (Builtin.min_ ts t #[.int .i64 (max a1 0), .int .i64 3]).run Tryd.prog w = .ok (.int .i64 (mostS a1 : Int)) w := by
    intro ts t w
    rw [run_min_int2]; congr 2; unfold mostS; split <;> omega
  have hown := words_own (ss := [[]]) (World.ownsRow_lit (base := 0) (size := 1) (e := 9) w #[.string ⟨#[]⟩] 1 (Nat.zero_le _) (by decide) rfl) (by decide)
  have HO := Lib.hid hown
  have HT := Lib.hid hT
  have HM := Lib.hid hm
  clear hown hT hm
  go_enter Tryd.func7, Tryd.ntmps7
  go_wp2_with fail
  refine (build_walk [[]] _ 1 1 _ HO.out).mono ?_
  rintro e w1 hb
  obtain ⟨hg1, B, M, lv, rfl, hB, hbd⟩ := build_ok hb emp_canon (by decide) emp_build
  have hg01 := grownBy_trans (World.grownBy_alloc w (.cells #[.string ⟨#[]⟩] 9) none) hg1 nofun
  have H1 := Lib.hid hbd
  have HG1 := Lib.hid hg01
  clear hbd hb hg1 hg01 HO
  go_wp2_with fail
  refine (build_walk [] none 0 0 w1 ⟨rfl, Nat.le_refl _, by decide, Sl.nil _ _ _, fun _ h => h.elim⟩).mono ?_
  rintro e w2 hb2
  obtain ⟨hg2, B2, M2, lv2, rfl, hB2, hbd2⟩ := build_ok hb2 non_canon (by decide) non_build
  have H2 := Lib.hid hbd2
  have HG2 := Lib.hid hg2
  clear hbd2 hb2 hg2
  go_wp2_with fail
  go_loopw [9, 10] (fun cv kv wr => XsRel w2 m cv kv wr) (fun _ kv _ => m - (intOf kv).toNat)
  case atStart => exact ⟨0, 0, none, Nat.zero_le _, rfl, rfl, World.ownsRow_nil _ _ _ _, grownBy_refl _ _⟩
  case round =>
    obtain ⟨k, c, A, hk, rfl, rfl, hown, hg⟩ := hrel
    rcases Nat.lt_or_ge k m with hlt | hge
    · have hX := World.grownBy_alloc wr (.cells #[.int .i64 120] 3) none
      have hwr := hg.size
      have hown2 := ownsRow_kept hown hX (own_none _)
      have hsl := Sl.of_own (World.ownsRow_lit (base := 0) (size := 1) (e := 3) wr #[.int .i64 120] 1 (Nat.zero_le _) (by decide) rfl) (by intro x hx; simp at hx; subst hx; rfl)
      have HO2 := Lib.hid hown2
      have HSL := Lib.hid hsl
      have HX := Lib.hid hX
      clear hown hown2 hsl hX
      go_wp2_with fail
      refine (place_any a0 6 wr (by omega) (by omega)).mono ?_
      rintro e w3 ⟨rfl, rfl⟩
      rw [HM.out]
      go_wp2_with (at_builtin; refine wpList_append_sl _ rfl (.tmp 42) (.tmp 43) 28 rfl w2.heap.size 3 i0 _ 1 8 Tryd.underlying28 hi hz0 hz1 hz2 rfl (by decide) (.slice A k c) k _ rfl HO2.out (some ⟨wr.heap.size, 0, none⟩) 1 1 [.int .i64 120] rfl HSL.out (by unfold maxLen; omega) (by omega) (by simp; omega) ?_)
      rintro v' w' ⟨hown', hg', hat⟩
      obtain ⟨q', c', rfl, _⟩ := own_form hown' (by omega)
      have hgw : w2.grownBy w' none := grownBy_trans (grownBy_trans hg HX.out nofun) hg' (fun l hl => .inr (HO2.out.lt l hl).1)
      go_wp2_with fail
      go_roundw
      case rel =>
        refine ⟨k + 1, c', some ⟨q', 0, none⟩, by omega, by go_num, rfl, ?_, hgw⟩
        rw [xs_succ]; exact hown'
      case measure => simp [intOf]; omega
    · obtain rfl : k = m := by omega
      have hC := Lib.hid (Sl.of_own hown xs_one)
      have HG := Lib.hid hg
      clear hown hg
      go_wp2_with fail
      refine (place_any a0 6 wr (by omega) (by omega)).mono ?_
      rintro e w3 ⟨rfl, rfl⟩
      rw [HM.out]
      have hg2r := grownBy_trans HG2.out HG.out nofun
      have r1 := ready (V := [[]]) (by simp [Rise]) (by decide) emp_build
      have r2 := ready (V := []) (by simp [Rise]) (by decide) non_build
      have ew := emp_walk (List.replicate k 120) (mostS a1)
      have nw := non_walk (List.replicate k 120) (mostS a1)
      rw [List.length_replicate] at ew
      have hlen : (List.replicate k (120 : Int)).length = k := by simp
      have HGR := Lib.hid hg2r
      have R1 := Lib.hid r1
      have R2 := Lib.hid r2
      have EW := Lib.hid ew
      have NW := Lib.hid nw
      clear hg2r r1 r2 ew nw
      go_wp2_with fail
      refine (Walk_walk B M _ lv 0 [(true, [])] A k c (List.replicate k 120) a1 wr (H1.out.kept HGR.out) R1.out.1 hlen (by omega) hC.out (tabs_kept (tabs_kept HT.out HG1.out) HGR.out) (by decide) (by decide) (by rw [EW.out]; simp) (by rw [EW.out]; simp only; split <;> simp)).mono ?_
      rintro e w4 ⟨v4, rfl, hown4, hg4⟩
      rw [EW.out] at hown4
      simp only at hown4
      have HG4r := Lib.hid hg4
      have HG4 := Lib.hid (grownBy_trans HG.out hg4 nofun)
      clear hg4
      rcases Nat.lt_or_ge (mostS a1) k with hfar | hnear
      · have hfar1 : ¬ (k : Int) ≤ (mostS a1 : Int) := by omega
        have hdf : decide ((k : Int) ≤ (mostS a1 : Int)) = false := decide_eq_false (by omega)
        rw [if_neg (by omega)] at hown4
        obtain ⟨A4, c4, rfl⟩ := own_slice hown4
        clear hown4
        go_wp2_with fail
        refine (Walk_walk B2 M2 _ lv2 0 [(false, [])] A k c (List.replicate k 120) a1 w4 (H2.out.kept HG4.out) R2.out.1 hlen (by omega) (hC.out.kept HG4r.out nofun) (tabs_kept (tabs_kept (tabs_kept HT.out HG1.out) HG2.out) HG4.out) (by decide) (by decide) (by rw [NW.out]; simp) (by rw [NW.out]; simp)).mono ?_
        rintro e w5 ⟨v5, rfl, hown5, hg5⟩
        rw [NW.out] at hown5
        obtain ⟨A5, c5, rfl⟩ := own_slice hown5
        have HG5r := Lib.hid (grownBy_trans HG4r.out hg5 nofun)
        have HG5 := Lib.hid (grownBy_trans HG4.out hg5 nofun)
        clear hown5 hg5
        go_wp2_with fail
        refine (Steps_walk B2 M2 _ lv2 0 [(false, [])] A k c (List.replicate k 120) a1 w5 (H2.out.kept HG5.out) R2.out.1 hlen (by omega) (hC.out.kept HG5r.out nofun) (tabs_kept (tabs_kept (tabs_kept HT.out HG1.out) HG2.out) HG5.out) (by decide) (by decide) (by rw [NW.out]; simp) (by rw [NW.out]; simp)).mono ?_
        rintro e w6 ⟨rfl, hg6⟩
        rw [NW.out]
        have HG6r := Lib.hid (grownBy_trans HG5r.out hg6 nofun)
        have HG6 := Lib.hid (grownBy_trans HG5.out hg6 nofun)
        clear hg6
        go_wp2_with fail
        refine (Steps_walk B M _ lv 0 [(true, [])] A k c (List.replicate k 120) a1 w6 (H1.out.kept (grownBy_trans HG2.out HG6.out nofun)) R1.out.1 hlen (by omega) (hC.out.kept HG6r.out nofun) (tabs_kept (tabs_kept (tabs_kept HT.out HG1.out) HG2.out) HG6.out) (by decide) (by decide) (by rw [EW.out]; simp) (by rw [EW.out]; simp only; split <;> simp)).mono ?_
        rintro e w7 ⟨rfl, hg7⟩
        rw [EW.out]
        have HG7 := Lib.hid (grownBy_trans HG6.out hg7 nofun)
        clear hg7
        go_wp2_with fail
        refine (awake18_walk w7 (tabs_kept (tabs_kept (tabs_kept HT.out HG1.out) HG2.out) HG7.out)).mono ?_
        rintro e w8 ⟨rfl, hg8⟩
        have HG8 := Lib.hid (grownBy_trans HG1.out (grownBy_trans HG2.out (grownBy_trans HG7.out hg8 nofun) nofun) nofun)
        clear hg8
        go_wp2_with fail
        go_ret
        exact ⟨rfl, HG8.out⟩
      · have hnear1 : (k : Int) ≤ (mostS a1 : Int) := by omega
        have hdf : decide ((k : Int) ≤ (mostS a1 : Int)) = true := decide_eq_true (by omega)
        rw [if_pos (by omega)] at hown4
        obtain ⟨q4, c4, rfl, _⟩ := own_form hown4 (by simp)
        obtain ⟨c0, c1⟩ := offer_cell hown4 (i := 0) rfl
        simp only at c0 c1
        clear hown4
        go_wp2_with fail
        refine (Walk_walk B2 M2 _ lv2 0 [(false, [])] A k c (List.replicate k 120) a1 w4 (H2.out.kept HG4.out) R2.out.1 hlen (by omega) (hC.out.kept HG4r.out nofun) (tabs_kept (tabs_kept (tabs_kept HT.out HG1.out) HG2.out) HG4.out) (by decide) (by decide) (by rw [NW.out]; simp) (by rw [NW.out]; simp)).mono ?_
        rintro e w5 ⟨v5, rfl, hown5, hg5⟩
        rw [NW.out] at hown5
        obtain ⟨A5, c5, rfl⟩ := own_slice hown5
        have HG5r := Lib.hid (grownBy_trans HG4r.out hg5 nofun)
        have HG5 := Lib.hid (grownBy_trans HG4.out hg5 nofun)
        clear hown5 hg5
        go_wp2_with fail
        refine (Steps_walk B2 M2 _ lv2 0 [(false, [])] A k c (List.replicate k 120) a1 w5 (H2.out.kept HG5.out) R2.out.1 hlen (by omega) (hC.out.kept HG5r.out nofun) (tabs_kept (tabs_kept (tabs_kept HT.out HG1.out) HG2.out) HG5.out) (by decide) (by decide) (by rw [NW.out]; simp) (by rw [NW.out]; simp)).mono ?_
        rintro e w6 ⟨rfl, hg6⟩
        rw [NW.out]
        have HG6r := Lib.hid (grownBy_trans HG5r.out hg6 nofun)
        have HG6 := Lib.hid (grownBy_trans HG5.out hg6 nofun)
        clear hg6
        go_wp2_with fail
        refine (Steps_walk B M _ lv 0 [(true, [])] A k c (List.replicate k 120) a1 w6 (H1.out.kept (grownBy_trans HG2.out HG6.out nofun)) R1.out.1 hlen (by omega) (hC.out.kept HG6r.out nofun) (tabs_kept (tabs_kept (tabs_kept HT.out HG1.out) HG2.out) HG6.out) (by decide) (by decide) (by rw [EW.out]; simp) (by rw [EW.out]; simp only; split <;> simp)).mono ?_
        rintro e w7 ⟨rfl, hg7⟩
        rw [EW.out]
        have HG7 := Lib.hid (grownBy_trans HG6.out hg7 nofun)
        clear hg7
        go_wp2_with fail
        refine (awake18_walk w7 (tabs_kept (tabs_kept (tabs_kept HT.out HG1.out) HG2.out) HG7.out)).mono ?_
        rintro e w8 ⟨rfl, hg8⟩
        have HG8 := Lib.hid (grownBy_trans HG1.out (grownBy_trans HG2.out (grownBy_trans HG7.out hg8 nofun) nofun) nofun)
        clear hg8
        go_wp2_with fail
        go_ret
        exact ⟨rfl, HG8.out⟩
end Go.Proofs.YtgcaenckjelijaaDoor
