/-
  Package dawg: Build's answer where it builds, where it does not; words that a call has laid. No conditions beyond those that each lemma names.
-/
import Derived.Test.YtgcaenckjelijaaDoorDawgH
namespace Go.Proofs.YtgcaenckjelijaaDoor
open Go Go.RowKit Go.Maps

/-- Build's answer where it builds. -/
theorem build_ok {ss : List Wd} {w w' : World} {e : Ending} (h : BuildRes ss w e w') {V : List Wd} (hV : canon ss = V) (hb : tooBig V = false) {r : Nat × List DSt} (hr : buildS 201 V [] = r) :
    w.grownBy w' none ∧ ∃ B M lv, e = .returned (.tuple #[.pointer (some ⟨B, 0, none⟩), .int .i64 0]) ∧ w.heap.size ≤ B ∧ Bd w' (fun _ => False) B M w.heap.size lv r.1 r.2 := by
  obtain ⟨h1, h2⟩ := h
  rw [hV, hb, hr] at h2
  obtain ⟨B, he, hB, M, lv, hbd⟩ := h2
  exact ⟨⟨h1.os, h1.tape, h1.output, h1.size, fun i hi _ => h1.block i hi⟩, B, M, lv, he, hB, hbd⟩

theorem build_big {ss : List Wd} {w w' : World} {e : Ending} (h : BuildRes ss w e w') {V : List Wd} (hV : canon ss = V) (hb : tooBig V = true) :
    w.grownBy w' none ∧ e = .returned (.tuple #[.pointer none, .int .i64 3]) := by
  obtain ⟨h1, h2⟩ := h
  rw [hV, hb] at h2
  exact ⟨⟨h1.os, h1.tape, h1.output, h1.size, fun i hi _ => h1.block i hi⟩, h2⟩

/-- Words that a call has laid in a row of its own. -/
theorem words_own {w : World} {base : Nat} {A : Option Addr} {n c : Nat} {ss : List Wd} (h : w.ownsRow base 9 1 (.slice A n c) n (strCells ss)) (hn : n ≤ 2147483648) : WordsAt w (fun _ => False) A n c ss := by
  have hl : ss.length = n := by have := h.1; simp [strCells] at this; omega
  refine ⟨hl, ?_, hn, Sl.of_own h (by intro x hx; simp only [strCells, List.mem_map] at hx; obtain ⟨_, _, rfl⟩ := hx; rfl), fun _ h => h.elim⟩
  rcases h.2 with ⟨e, h0⟩ | ⟨g, cap, _, hv, _, _, h1, _⟩
  · omega
  · cases hv; exact h1
end Go.Proofs.YtgcaenckjelijaaDoor
