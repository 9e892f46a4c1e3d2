/-
  law00.SameStrings at two rows that hold the same words: the walk. Conditions: at most a million words.
-/
import Derived.Test.YtlbbjcggjmaehaaDoorAwake13
namespace Go.Proofs.YtlbbjcggjmaehaaDoor
open Go Go.RowKit Go.Maps

set_option maxRecDepth 100000 in
set_option maxHeartbeats 1000000 in
theorem same_walk (L : List Wd) (A B : Option Addr) (n ca cb : Nat) (w : World) (hn : L.length = n) (hb : n ≤ 1000000) (hA : Sl w 1 A n (strCells L)) (hB : Sl w 1 B n (strCells L)) :
    Calls Tryd.prog 10 #[.slice A n ca, .slice B n cb] w fun e w' => e = .returned (.bool true) ∧ w.grownBy w' none := by
  have HN := Lib.hid hn
  have HA := Lib.hid hA
  have HB := Lib.hid hB
  clear hn hA hB
  go_enter Tryd.func10, Tryd.ntmps10
  go_wp2_with fail
  go_loopw [5] (fun iv wr => ∃ i : Nat, i ≤ n ∧ iv = .int .i64 (i : Int) ∧ w.grownBy wr none) (fun iv _ => n - (RowKit.intOf iv).toNat)
  case atStart => exact ⟨0, Nat.zero_le _, rfl, grownBy_refl _ none⟩
  case round =>
    obtain ⟨i, hi, rfl, hg⟩ := hrel
    have HG := Lib.hid hg
    rcases Nat.lt_or_ge i n with hlt | hge
    · have hlti : (i : Int) < (n : Int) := by omega
      obtain ⟨x, hx⟩ : ∃ x, L[i]? = some x := ⟨_, List.getElem?_eq_getElem (by rw [HN.out]; exact hlt)⟩
      obtain ⟨q1, o1, rfl, h1⟩ := (HA.out.kept hg nofun).2.2 (by omega)
      obtain ⟨q2, o2, rfl, h2⟩ := (HB.out.kept hg nofun).2.2 (by omega)
      have x1 := h1 i _ (by rw [strCells, List.getElem?_map, hx]; rfl)
      have x2 := h2 i _ (by rw [strCells, List.getElem?_map, hx]; rfl)
      clear h1 h2 hx hg
      go_upto_region 6 with (fail)
      go_quiet (fail)
      go_wp2_with fail
      go_roundw
      case rel => exact ⟨i + 1, by omega, by go_num, grownBy_drewN HG.out _⟩
      case measure => simp [RowKit.intOf]; omega
    · obtain rfl : i = n := by omega
      clear hg
      go_wp2_with fail
      go_ret
      exact ⟨rfl, HG.out⟩
end Go.Proofs.YtlbbjcggjmaehaaDoor
