/-
  Layer 15's laws: the document's example: it holds. No conditions.
-/
import Derived.Test.YtiiaphgencoijaaDawgH
namespace Go.Proofs.Ytiiaphgencoijaa
open Go Go.RowKit Go.Maps

/-- Build's answer where it builds. -/
theorem build_ok {ss : List Wd} {w w' : World} {e : Ending} (h : BuildRes ss w e w') {V : List Wd} (hV : canon ss = V) (hb : tooBig V = false) {r : Nat × List DSt} (hr : buildS 201 V [] = r) :
    w.grownBy w' none ∧ ∃ B M lv, e = .returned (.tuple #[.pointer (some ⟨B, 0, none⟩), .int .i64 0]) ∧ w.heap.size ≤ B ∧ Bd w' (fun _ => False) B M w.heap.size lv r.1 r.2 := by
  obtain ⟨h1, h2⟩ := h
  rw [hV, hb, hr] at h2
  obtain ⟨B, he, hB, M, lv, hbd⟩ := h2
  exact ⟨⟨h1.os, h1.tape, h1.output, h1.size, fun i hi _ => h1.block i hi⟩, B, M, lv, he, hB, hbd⟩

theorem build_big {ss : List Wd} {w w' : World} {e : Ending} (h : BuildRes ss w e w') {V : List Wd} (hV : canon ss = V) (hb : tooBig V = true) :
    w.grownBy w' none ∧ e = .returned (.tuple #[.pointer none, .int .i64 3]) := by
  obtain ⟨h1, h2⟩ := h
  rw [hV, hb] at h2
  exact ⟨⟨h1.os, h1.tape, h1.output, h1.size, fun i hi _ => h1.block i hi⟩, h2⟩

/-- Words that a call has laid in a row of its own. -/
theorem words_own {w : World} {base : Nat} {A : Option Addr} {n c : Nat} {ss : List Wd} (h : w.ownsRow base 9 1 (.slice A n c) n (strCells ss)) (hn : n ≤ 2147483648) : WordsAt w (fun _ => False) A n c ss := by
  have hl : ss.length = n := by have := h.1; simp [strCells] at this; omega
  refine ⟨hl, ?_, hn, Sl.of_own h (by intro x hx; simp only [strCells, List.mem_map] at hx; obtain ⟨_, _, rfl⟩ := hx; rfl), fun _ h => h.elim⟩
  rcases h.2 with ⟨e, h0⟩ | ⟨g, cap, _, hv, _, _, h1, _⟩
  · omega
  · cases hv; exact h1

def tapW : List Wd := [[116, 97, 112], [116, 97, 112, 115], [116, 111, 112], [116, 111, 112, 115]]

theorem tap_canon : canon tapW = tapW := canon_of_rise (by unfold Rise; decide) (fun _ => Iff.rfl)
theorem tap_build : buildS 201 tapW [] = (4, (buildS 201 tapW []).2) ∧ (buildS 201 tapW []).2.length = 5 ∧ runS (buildS 201 tapW []).2 4 [116, 111, 112, 115] = true ∧ runS (buildS 201 tapW []).2 4 [116, 111] = false := by decide +kernel

set_option maxRecDepth 100000 in
set_option maxHeartbeats 1000000 in
theorem awake_walk (w : World) : Calls Try.prog 27 #[] w fun e w' => e = .returned (.bool true) ∧ w.grownBy w' none := by
  obtain ⟨t1, t2, t3, t4⟩ := tap_build
  generalize (buildS 201 tapW []).2 = sts at t1 t2 t3 t4
  have hown := words_own (ss := tapW) (World.ownsRow_lit (base := 0) (size := 1) (e := 9) w #[.string ⟨#[116, 97, 112]⟩, .string ⟨#[116, 97, 112, 115]⟩, .string ⟨#[116, 111, 112]⟩, .string ⟨#[116, 111, 112, 115]⟩] 4 (Nat.zero_le _) (by decide) rfl) (by decide)
  have HO := Lib.hid hown
  clear hown
  go_enter Try.func27, Try.ntmps27
  go_wp2_with fail
  refine (build_walk tapW _ 4 4 _ HO.out).mono ?_
  rintro e w1 hb
  obtain ⟨hg, B, M, lv, rfl, hB, hbd⟩ := build_ok hb tap_canon (by decide) t1
  have hg0 := grownBy_trans (World.grownBy_alloc w (.cells #[.string ⟨#[116, 97, 112]⟩, .string ⟨#[116, 97, 112, 115]⟩, .string ⟨#[116, 111, 112]⟩, .string ⟨#[116, 111, 112, 115]⟩] 9) none) hg nofun
  have H := Lib.hid hbd
  clear hbd hb hg HO
  go_wp2_with fail
  refine (states_walk _ B M _ lv _ _ w1 H.out).mono ?_
  rintro e w2 ⟨rfl, rfl⟩
  go_wp2_with fail
  refine (has_walk _ B M _ lv _ _ [116, 111, 112, 115] w2 H.out (by decide)).mono ?_
  rintro e w3 ⟨rfl, hg3⟩
  go_wp2_with fail
  refine (has_walk _ B M _ lv _ _ [116, 111] w3 (H.out.kept hg3) (by decide)).mono ?_
  rintro e w4 ⟨rfl, hg4⟩
  go_wp2_with fail
  go_ret
  exact ⟨rfl, grownBy_trans (grownBy_trans hg0 hg3 nofun) hg4 nofun⟩
end Go.Proofs.Ytiiaphgencoijaa
