/-
  Law 08: awake, the document's example.
-/
import Derived.Test.YtiiaphgencoijaaHistA
import Derived.Test.YtiiaphgencoijaaPlace
namespace Go.Proofs.Ytiiaphgencoijaa
open Go Go.RowKit

theorem Hist.drewN {w : World} {b d : Nat} {L : List Nat} {U R : List (List Value)} (h : Hist w b d L U R) (n : Nat) : Hist (w.drewN n) b d L U R := h.kept (s := none) (grownBy_drewN (grownBy_refl w none) n) nofun

def TrueRes (w : World) (e : Ending) (w' : World) : Prop := e = .returned (.bool true) ∧ w.grownBy w' none

/-- A group's cells, all of one cell each. -/
theorem cells_edit1 (a : Int) (s t : ByteArray) : ∀ x ∈ [Value.int .i64 a, .string s, .string t], x.oneCell' = true := by
  intro x hx; simp at hx; rcases hx with rfl | rfl | rfl <;> rfl

set_option maxRecDepth 100000 in
set_option maxHeartbeats 1000000 in
theorem awake08_any (w : World) : Calls Try.prog 14 #[] w (TrueRes w) := by
  go_enter Try.func14, Try.ntmps14
  go_wp2_with fail
  refine (hist_new 0 [] w nofun).mono ?_
  rintro e w1 ⟨rfl, hg1, hs1, D, _, hD, hh⟩
  obtain rfl : D = 0 := by omega
  clear hD
  go_wp2_with fail
  refine (hist_new 3 [w.heap.size] w1 (by simpa using hs1)).mono ?_
  rintro e w2 ⟨rfl, hg2, hs2, D, _, hD, hk⟩
  obtain rfl : D = 3 := by omega
  clear hD
  have hh2 := hh.more hg2 (Nat.le_refl _) hs2
  have hgo := World.ownsRow_lit (base := 0) (size := 3) (e := 31) w2 #[.int .i64 0, .string ⟨#[]⟩, .string ⟨#[120]⟩] 1 (Nat.zero_le _) (by decide) rfl
  have hal := World.grownBy_alloc w2 (.cells #[.int .i64 0, .string ⟨#[]⟩, .string ⟨#[120]⟩] 31) none
  have hh3 := hh2.kept hal nofun
  have hk3 := hk.kept hal nofun
  have hb1 : w.heap.size ≠ w2.heap.size := by have := hg2.size; omega
  clear hh hh2 hk
  go_wp2_with fail
  refine (hist_push w.heap.size 0 _ [] [] ⟨w2.heap.size, 0, none⟩ 1 1 _ _ hh3 (by omega) (by omega) hgo.1 (hgo.cells rfl) (cells_edit1 _ _ _)).mono ?_
  rintro e w4 ⟨rfl, hg4, hh4⟩
  have hk4 := hk3.kept hg4 (by intro l e; cases e; exact ⟨by omega, by simp⟩)
  have hgo4 := ownsRow_kept hgo hg4 (.inr (by simpa [Value.ownBlock] using hb1.symm))
  clear hh3 hk3
  go_wp2_with fail
  refine (hist_push w1.heap.size 3 _ [] [] ⟨w2.heap.size, 0, none⟩ 1 1 _ _ hk4 (by omega) (by omega) hgo4.1 (hgo4.cells rfl) (cells_edit1 _ _ _)).mono ?_
  rintro e w5 ⟨rfl, hg5, hk5⟩
  have hh5 := hh4.kept hg5 (by intro l e; cases e; exact ⟨by omega, by simp⟩)
  clear hh4 hk4
  go_wp2_with fail
  have hk5 : Hist w5 w1.heap.size 3 [w1.heap.size, w.heap.size] [[.int .i64 0, .string ⟨#[]⟩, .string ⟨#[120]⟩]] [] := hk5
  have hh5 : Hist w5 w.heap.size 0 [w1.heap.size, w.heap.size] [] [] := hh5
  refine (hist_len _ _ _ _ _ 0 0 _ hh5 rfl rfl).mono ?_
  rintro e w6 ⟨rfl, hg6⟩
  have hk6 := hk5.kept hg6 nofun
  have hh6 := hh5.kept hg6 nofun
  clear hk5 hh5
  go_wp2_with fail
  refine (hist_len _ _ _ _ _ 1 0 _ hk6 rfl rfl).mono ?_
  rintro e w7 ⟨rfl, hg7⟩
  have hk7 := hk6.kept hg7 nofun
  have hh7 := hh6.kept hg7 nofun
  clear hk6 hh6
  go_wp2_with fail
  refine (hist_undo w1.heap.size 3 _ [] [] _ _ hk7).mono ?_
  rintro e w8 ⟨q, n, cap, rfl, hg8, ho8, hk8⟩
  have hh8 := hh7.kept hg8 (by intro l e; cases e; exact ⟨by omega, by simp⟩)
  clear hk7 hh7
  go_wp2_with fail
  refine (hist_undo_none w.heap.size 0 _ _ _ hh8).mono ?_
  rintro e w9 ⟨rfl, rfl⟩
  obtain rfl : n = 1 := by have := ho8.1; simp at this; omega
  have hc := ho8.cellAt 2 (by omega)
  simp only [List.getElem?_cons_succ, List.getElem?_cons_zero] at hc
  go_wp2_with fail
  go_ret
  have hs := hg1.size
  exact ⟨rfl, grownBy_trans (grownBy_trans (grownBy_trans (grownBy_trans (grownBy_trans (grownBy_trans (grownBy_trans hg1 hg2 nofun) hal nofun) hg4 (by intro i e; cases e; exact .inr (Nat.le_refl _))) hg5 (by intro i e; cases e; exact .inr hs)) hg6 nofun) hg7 nofun) hg8 (by intro i e; cases e; exact .inr hs)⟩
end Go.Proofs.Ytiiaphgencoijaa
