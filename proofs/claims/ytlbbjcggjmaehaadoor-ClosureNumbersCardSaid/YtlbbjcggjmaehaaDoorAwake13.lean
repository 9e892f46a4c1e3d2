/-
  Layer 13's awake: the document's example answers as it says: the walk. Conditions: unicode/utf8's two tables as they are laid.
-/
import Derived.Test.YtlbbjcggjmaehaaDoorAll
import Derived.Test.YtlbbjcggjmaehaaDoorParse10
namespace Go.Proofs.YtlbbjcggjmaehaaDoor
open Go Go.RowKit Go.Maps

theorem ex_forms (C : Option Addr) (k : Nat) (S : Option Addr) (cap : Nat) (F : Option Addr) (fc : Nat) : canon (formsQ [ruEx C k S cap] ⟨[99, 105, 116, 121], F, fc, [83]⟩) = [[99, 105, 116, 105, 101, 115], [99, 105, 116, 121]] := by
  rw [forms_canon]
  rfl

theorem ex_all (C : Option Addr) (k : Nat) (S : Option Addr) (cap : Nat) : canon (([⟨[98], none, 0, []⟩, ⟨[97], none, 0, []⟩] : List En).flatMap (formsQ [ruEx C k S cap])) = [[97], [98]] := by
  rw [canon_putAll]
  rfl

set_option maxRecDepth 100000 in
set_option maxHeartbeats 2000000 in
theorem awake13_walk (w : World) (hT : Lib.Utf8Tabs 0 1 w) : Calls Tryd.prog 9 #[] w (TrueRes w) := by
  have HT := Lib.hid hT
  clear hT
  go_enter Tryd.func9, Tryd.ntmps9
  go_wp2_with fail
  refine (parse10_ex w).mono ?_
  rintro e w1 ⟨C, k, S, cap, rfl, hru, hg1⟩
  unfold ruEx Ru.val
  simp only [List.length_singleton]
  have hal := World.grownBy_alloc w1 (.cells #[.bool false, .int .i64 83, .bool true, .string ⟨#[121]⟩, .string ⟨#[105, 101, 115]⟩, .slice C 1 k] 51) none
  have hbl := heap_alloc_new w1 (.cells #[.bool false, .int .i64 83, .bool true, .string ⟨#[121]⟩, .string ⟨#[105, 101, 115]⟩, .slice C 1 k] 51 (0, 0))
  have c0 := cell_of_heap hbl 0
  have c1 := cell_of_heap hbl 1
  have c2 := cell_of_heap hbl 2
  have c3 := cell_of_heap hbl 3
  have c4 := cell_of_heap hbl 4
  have c5 := cell_of_heap hbl 5
  have HRU := Lib.hid hru
  have HG1 := Lib.hid (grownBy_trans hg1 hal nofun)
  have HAL := Lib.hid hal
  have HBL := Lib.hid hbl
  clear hru hg1 hal hbl
  obtain ⟨wa, hwa⟩ : ∃ wa, w1.alloc (.cells #[.bool false, .int .i64 83, .bool true, .string ⟨#[121]⟩, .string ⟨#[105, 101, 115]⟩, .slice C 1 k] 51) = wa := ⟨_, rfl⟩
  have hsz : wa.heap.size = w1.heap.size + 1 := by rw [← hwa, World.size_alloc]
  rw [hwa] at HG1 HAL HBL c0 c1 c2 c3 c4 c5
  have ga1 := World.grownBy_alloc wa (.cells #[.bool false, .int .i64 83, .bool true, .string ⟨#[121]⟩, .string ⟨#[105, 101, 115]⟩, .slice C 1 k] 51) none
  have ga2 := World.grownBy_alloc (wa.alloc (.cells #[.bool false, .int .i64 83, .bool true, .string ⟨#[121]⟩, .string ⟨#[105, 101, 115]⟩, .slice C 1 k] 51)) (.cells #[.int .i64 83] 3) none
  have hs1 := Sl.of_own (World.ownsRow_lit (base := 0) (size := 6) (e := 51) wa #[.bool false, .int .i64 83, .bool true, .string ⟨#[121]⟩, .string ⟨#[105, 101, 115]⟩, .slice C 1 k] 1 (Nat.zero_le _) (by decide) rfl) (by intro x hx; simp at hx; rcases hx with rfl | rfl | rfl | rfl | rfl | rfl <;> rfl)
  have hs2 := Sl.of_own (World.ownsRow_lit (base := 0) (size := 1) (e := 3) (wa.alloc (.cells #[.bool false, .int .i64 83, .bool true, .string ⟨#[121]⟩, .string ⟨#[105, 101, 115]⟩, .slice C 1 k] 51)) #[.int .i64 83] 1 (Nat.zero_le _) (by decide) rfl) (by intro x hx; simp at hx; subst hx; rfl)
  rw [World.size_alloc] at hs2
  have hgA := grownBy_trans HAL.out (grownBy_trans ga1 ga2 nofun) nofun
  have hf := forms_walk [ruEx C k S cap] (some ⟨wa.heap.size, 0, none⟩) 1 1 ⟨[99, 105, 116, 121], some ⟨wa.heap.size + 1, 0, none⟩, 1, [83]⟩ _ rfl (by decide)
    (show RusAt ((wa.alloc (.cells #[.bool false, .int .i64 83, .bool true, .string ⟨#[121]⟩, .string ⟨#[105, 101, 115]⟩, .slice C 1 k] 51)).alloc (.cells #[.int .i64 83] 3)) (some ⟨wa.heap.size, 0, none⟩) [ruEx C k S cap] from ⟨hs1.kept ga2 nofun, fun r hr => by rw [List.mem_singleton] at hr; subst hr; exact HRU.out.kept hgA⟩)
    ⟨hs2, by show 4 ≤ 100000; omega, by show 1 ≤ 100000; omega⟩ (tabs_kept HT.out (grownBy_trans HG1.out (grownBy_trans ga1 ga2 nofun) nofun))
  rw [ex_forms, hsz] at hf
  have HF := Lib.hid hf
  have HGA := Lib.hid (grownBy_trans ga1 ga2 nofun)
  have HWA := Lib.hid hwa
  clear ga1 ga2 hs1 hs2 hgA hf
  go_wp2_with fail
  refine HF.out.mono ?_
  rintro e w2 ⟨v, rfl, ⟨A2, k2, rfl, hown2⟩, hg2⟩
  simp only [List.length_cons, List.length_nil, Nat.zero_add, Nat.reduceAdd] at hown2 ⊢
  have hsl2 := Sl.of_own hown2 (strCells_one' _)
  have hgw2 := grownBy_trans HGA.out hg2 nofun
  have hbl2 := grownBy_heap hgw2 HBL.out nofun
  have HB2 := Lib.hid hbl2
  have HG2 := Lib.hid hgw2
  have HSL2 := Lib.hid hsl2
  clear c0 c1 c2 c3 c4 c5 hwa hown2 hg2 hsl2 hgw2
  have d0 := cell_of_heap hbl2 0
  have d1 := cell_of_heap hbl2 1
  have d2 := cell_of_heap hbl2 2
  have d3 := cell_of_heap hbl2 3
  have d4 := cell_of_heap hbl2 4
  have d5 := cell_of_heap hbl2 5
  clear hbl2
  have gb1 := World.grownBy_alloc w2 (.cells #[.bool false, .int .i64 83, .bool true, .string ⟨#[121]⟩, .string ⟨#[105, 101, 115]⟩, .slice C 1 k] 51) none
  have gb2 := World.grownBy_alloc (w2.alloc (.cells #[.bool false, .int .i64 83, .bool true, .string ⟨#[121]⟩, .string ⟨#[105, 101, 115]⟩, .slice C 1 k] 51)) (.cells #[.string ⟨#[98]⟩, .slice none 0 0, .string ⟨#[97]⟩, .slice none 0 0] 25) none
  have ht1 := Sl.of_own (World.ownsRow_lit (base := 0) (size := 6) (e := 51) w2 #[.bool false, .int .i64 83, .bool true, .string ⟨#[121]⟩, .string ⟨#[105, 101, 115]⟩, .slice C 1 k] 1 (Nat.zero_le _) (by decide) rfl) (by intro x hx; simp at hx; rcases hx with rfl | rfl | rfl | rfl | rfl | rfl <;> rfl)
  have ht2 := Sl.of_own (World.ownsRow_lit (base := 0) (size := 2) (e := 25) (w2.alloc (.cells #[.bool false, .int .i64 83, .bool true, .string ⟨#[121]⟩, .string ⟨#[105, 101, 115]⟩, .slice C 1 k] 51)) #[.string ⟨#[98]⟩, .slice none 0 0, .string ⟨#[97]⟩, .slice none 0 0] 2 (Nat.zero_le _) (by decide) rfl) (by intro x hx; simp at hx; rcases hx with rfl | rfl | rfl | rfl <;> rfl)
  rw [World.size_alloc] at ht2
  have hgB := grownBy_trans (grownBy_trans HAL.out HG2.out nofun) (grownBy_trans gb1 gb2 nofun) nofun
  have hf := all13_walk [ruEx C k S cap] (some ⟨w2.heap.size, 0, none⟩) 1 1 [⟨[98], none, 0, []⟩, ⟨[97], none, 0, []⟩] (some ⟨w2.heap.size + 1, 0, none⟩) 2 2 _ rfl (by decide)
    (show RusAt ((w2.alloc (.cells #[.bool false, .int .i64 83, .bool true, .string ⟨#[121]⟩, .string ⟨#[105, 101, 115]⟩, .slice C 1 k] 51)).alloc (.cells #[.string ⟨#[98]⟩, .slice none 0 0, .string ⟨#[97]⟩, .slice none 0 0] 25)) (some ⟨w2.heap.size, 0, none⟩) [ruEx C k S cap] from ⟨ht1.kept gb2 nofun, fun r hr => by rw [List.mem_singleton] at hr; subst hr; exact HRU.out.kept hgB⟩)
    rfl ⟨ht2, fun e he => by
      rcases List.mem_cons.1 he with rfl | he
      · exact ⟨Sl.nil _ _ _, by show 1 ≤ 100000; omega, by show 0 ≤ 100000; omega⟩
      · rw [List.mem_singleton] at he; subst he
        exact ⟨Sl.nil _ _ _, by show 1 ≤ 100000; omega, by show 0 ≤ 100000; omega⟩⟩ (by decide) (tabs_kept HT.out (grownBy_trans HG1.out (grownBy_trans HG2.out (grownBy_trans gb1 gb2 nofun) nofun) nofun))
  rw [ex_all] at hf
  have HF2 := Lib.hid hf
  have HGB := Lib.hid (grownBy_trans gb1 gb2 nofun)
  clear gb1 gb2 ht1 ht2 hgB hf
  go_wp2_with fail
  refine HF2.out.mono ?_
  rintro e w3 ⟨v, rfl, ⟨A3, k3, rfl, hown3⟩, hg3⟩
  simp only [List.length_cons, List.length_nil, Nat.zero_add, Nat.reduceAdd] at hown3 ⊢
  have hsl3 := Sl.of_own hown3 (strCells_one' _)
  obtain ⟨q2, o2, rfl, h2⟩ := (HSL2.out.kept (grownBy_trans HGB.out hg3 nofun) nofun).2.2 (by decide)
  obtain ⟨q3, o3, rfl, h3⟩ := hsl3.2.2 (by decide)
  have x0 := h2 0 _ rfl
  have x1 := h2 1 _ rfl
  have y0 := h3 0 _ rfl
  simp only [Nat.add_zero] at x0 y0
  have HG3 := Lib.hid (grownBy_trans HG1.out (grownBy_trans HG2.out (grownBy_trans HGB.out hg3 nofun) nofun) nofun)
  clear hown3 hsl3 h2 h3 hg3 d0 d1 d2 d3 d4 d5
  go_wp2_with fail
  go_ret
  exact ⟨rfl, HG3.out⟩
end Go.Proofs.YtlbbjcggjmaehaaDoor

namespace Go.Proofs.YtlbbjcggjmaehaaDoor
open Go Go.RowKit Go.Maps

set_option maxRecDepth 100000 in
set_option maxHeartbeats 1000000 in
theorem same_walk (L : List Wd) (A B : Option Addr) (n ca cb : Nat) (w : World) (hn : L.length = n) (hb : n ≤ 1000000) (hA : Sl w 1 A n (strCells L)) (hB : Sl w 1 B n (strCells L)) :
    Calls Tryd.prog 10 #[.slice A n ca, .slice B n cb] w fun e w' => e = .returned (.bool true) ∧ w.grownBy w' none := by
  have HN := Lib.hid hn
  have HA := Lib.hid hA
  have HB := Lib.hid hB
  clear hn hA hB
  go_enter Tryd.func10, Tryd.ntmps10
  go_wp2_with fail
  go_loopw [5] (fun iv wr => ∃ i : Nat, i ≤ n ∧ iv = .int .i64 (i : Int) ∧ w.grownBy wr none) (fun iv _ => n - (RowKit.intOf iv).toNat)
  case atStart => exact ⟨0, Nat.zero_le _, rfl, grownBy_refl _ none⟩
  case round =>
    obtain ⟨i, hi, rfl, hg⟩ := hrel
    have HG := Lib.hid hg
    rcases Nat.lt_or_ge i n with hlt | hge
    · have hlti : (i : Int) < (n : Int) := by omega
      obtain ⟨x, hx⟩ : ∃ x, L[i]? = some x := ⟨_, List.getElem?_eq_getElem (by rw [HN.out]; exact hlt)⟩
      obtain ⟨q1, o1, rfl, h1⟩ := (HA.out.kept hg nofun).2.2 (by omega)
      obtain ⟨q2, o2, rfl, h2⟩ := (HB.out.kept hg nofun).2.2 (by omega)
      have x1 := h1 i _ (by rw [strCells, List.getElem?_map, hx]; rfl)
      have x2 := h2 i _ (by rw [strCells, List.getElem?_map, hx]; rfl)
      clear h1 h2 hx hg
      go_upto_region 6 with (fail)
      go_quiet (fail)
      go_wp2_with fail
      go_roundw
      case rel => exact ⟨i + 1, by omega, by go_num, grownBy_drewN HG.out _⟩
      case measure => simp [RowKit.intOf]; omega
    · obtain rfl : i = n := by omega
      clear hg
      go_wp2_with fail
      go_ret
      exact ⟨rfl, HG.out⟩
end Go.Proofs.YtlbbjcggjmaehaaDoor
