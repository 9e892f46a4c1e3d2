/-
  ref09.Parse at a text of one code point that is no sign: one item: the walk. Conditions: the text has that one code.
-/
import Derived.Test.YtlbbjcggjmaehaaDoorPart
namespace Go.Proofs.YtlbbjcggjmaehaaDoor
open Go Go.RowKit Go.Maps

theorem item_info : (Tryd.prog.info? 48).map (fun i => (i.zero, i.size, i.bytes)) = some (some (.agg #[.bool false, .bool false, .slice none 0 0]), 3, 32) := by kernel_rfl

/-- One item of one code. -/
def oneIt (S : Option Addr) (cap : Nat) (c : Int) : It := ⟨false, false, S, cap, [c]⟩

def P9Rel (c : Int) (w : World) (lv iv : Value) (wr : World) : Prop :=
  (iv = .int .i64 0 ∧ lv = .slice none 0 0 ∧ w.grownBy wr none) ∨
  (∃ (A S : Option Addr) (k cap : Nat), iv = .int .i64 1 ∧ lv = .slice A 1 k ∧ wr.ownsRow w.heap.size 48 3 (.slice A 1 k) 1 (itCells [oneIt S cap c]) ∧ Sl wr 1 S 1 (intCells [c]) ∧ (∀ l, l < w.heap.size → Off S 1 l) ∧ w.grownBy wr none)

set_option maxRecDepth 100000 in
set_option maxHeartbeats 2000000 in
theorem parse9_one (s : Wd) (c : Int) (w : World) (hl : s.length ≤ 100000) (hc : codesB s = some [c]) (h1 : c ≠ 46) (h2 : c ≠ 93) (h3 : c ≠ 91) :
    Calls Tryd.prog 36 #[.string ⟨s.toArray⟩] w fun e w' => ∃ C k S cap, e = .returned (.tuple #[.slice C 1 k, .bool true]) ∧ CondAt w' C [oneIt S cap c] ∧ (∀ l, l < w.heap.size → Off C 1 l ∧ Off S 1 l) ∧ w.grownBy w' none := by
  obtain ⟨i0, hi, hz0, hz1, hz2⟩ := info_parts item_info
  have b1 : (c == 46) = false := by rw [beq_eq_false_iff_ne]; exact h1
  have b2 : (c == 93) = false := by rw [beq_eq_false_iff_ne]; exact h2
  have b3 : (c == 91) = false := by rw [beq_eq_false_iff_ne]; exact h3
  go_enter Tryd.func36, Tryd.ntmps36
  go_wp2_with fail
  refine (codes_walk s w (by omega)).mono ?_
  rintro e w1 ⟨hg1, hcr⟩
  rcases hcr with ⟨cs, A, k, hcs, rfl, hown⟩ | ⟨hcs, rfl⟩
  · rw [hc] at hcs
    cases hcs
    have hsl := Sl.of_own hown (by intro x hx; simp [intCells] at hx; subst hx; rfl)
    obtain ⟨q, o, rfl, hcell⟩ := int_at (l := [c]) hsl (i := 0) rfl
    have hc0 : ∀ u, w1.grownBy u none → u.cell? ⟨q, o, none⟩ = some (.int .i64 c) := fun u hu => hu.cell hcell nofun
    have HC0 := Lib.hid hc0
    have HG1 := Lib.hid hg1
    clear hown hsl hcell hc0 hg1
    simp only [List.length_singleton]
    go_wp2_with fail
    go_loopw [6, 7] (fun lv iv wr => P9Rel c w1 lv iv wr) (fun _ iv _ => 1 - (RowKit.intOf iv).toNat)
    case atStart => exact .inl ⟨rfl, rfl, grownBy_refl _ none⟩
    case round =>
      rcases hrel with ⟨rfl, rfl, hg⟩ | ⟨A, S, k2, cap, rfl, rfl, hown, hset, hoff, hg⟩
      · have hcell := HC0.out wr hg
        have hga := World.grownBy_alloc wr (.cells #[.int .i64 c] 3) none
        have hgb := World.grownBy_alloc (wr.alloc (.cells #[.int .i64 c] 3)) (.cells #[.bool false, .bool false, .slice (some ⟨wr.heap.size, 0, none⟩) 1 1] 48) none
        have hset := Sl.of_own (World.ownsRow_lit (base := 0) (size := 1) (e := 3) wr #[.int .i64 c] 1 (Nat.zero_le _) (by decide) rfl) (by intro x hx; simp at hx; subst hx; rfl)
        have hset2 := hset.kept hgb nofun
        have hsl := Sl.of_own (World.ownsRow_lit (base := 0) (size := 3) (e := 48) (wr.alloc (.cells #[.int .i64 c] 3)) #[.bool false, .bool false, .slice (some ⟨wr.heap.size, 0, none⟩) 1 1] 1 (Nat.zero_le _) (by decide) rfl) (by intro x hx; simp at hx; rcases hx with rfl | rfl | rfl <;> rfl)
        rw [World.size_alloc] at hsl
        have hwr := hg.size
        have HSET := Lib.hid hset2
        have HSL := Lib.hid hsl
        have HGAB := Lib.hid (grownBy_trans hga hgb nofun)
        have HG := Lib.hid hg
        clear hga hgb hset hset2 hsl hg
        go_wp2_with (at_builtin; refine wpList_append_sl _ rfl (.tmp 26) (.tmp 33) 49 rfl w1.heap.size 48 i0 _ 3 32 Tryd.underlying49 hi hz0 hz1 hz2 rfl (by decide) (.slice none 0 0) 0 [] rfl (World.ownsRow_nil _ _ _ _) (some ⟨wr.heap.size + 1, 0, none⟩) 1 1 [.bool false, .bool false, .slice (some ⟨wr.heap.size, 0, none⟩) 1 1] rfl HSL.out (by unfold maxLen; omega) (by omega) (by simp; omega) ?_)
        rintro v' w' ⟨hown', hg', hat⟩
        obtain ⟨q', c', rfl, _⟩ := own_form hown' (by omega)
        have hgw : w1.grownBy w' none := grownBy_trans (grownBy_trans HG.out HGAB.out nofun) hg' nofun
        have hset' := HSET.out.kept hg' nofun
        go_wp2_with fail
        go_roundw
        case rel => exact .inr ⟨some ⟨q', 0, none⟩, some ⟨wr.heap.size, 0, none⟩, c', 1, by go_num, rfl, hown', hset', fun l hl _ a ha => by cases ha; simp only; omega, hgw⟩
        case measure => simp [RowKit.intOf]
      · have hsl := Sl.of_own hown (by intro x hx; simp [itCells, It.row, oneIt] at hx; rcases hx with rfl | rfl | rfl <;> rfl)
        have HC := Lib.hid (show CondAt wr A [oneIt S cap c] from ⟨hsl, fun x hx => by simp at hx; subst hx; exact hset⟩)
        have HG := Lib.hid hg
        have hq : ∀ l, l < w.heap.size → Off A 1 l ∧ Off S 1 l := fun l hl => ⟨fun _ a ha => by
          obtain ⟨q', c', e, _⟩ := own_form hown (by omega)
          cases e
          cases ha
          have h1 := (hown.lt _ rfl).1
          have h2 := HG1.out.size
          simp only; omega, hoff l (by have h2 := HG1.out.size; omega)⟩
        have HQ := Lib.hid hq
        clear hsl hown hset hg hq
        go_wp2_with fail
        go_ret2
        exact ⟨A, k2, S, cap, rfl, HC.out, HQ.out, grownBy_trans HG1.out HG.out nofun⟩
  · rw [hc] at hcs
    cases hcs
end Go.Proofs.YtlbbjcggjmaehaaDoor
