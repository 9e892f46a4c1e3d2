/-
  Package walk behind dawg.Build; layer 18's example: it holds. No conditions beyond those that each lemma names.
-/
import Derived.Test.YtgcaenckjelijaaDoorWalkW
import Derived.Test.YtgcaenckjelijaaDoorDawgInv
namespace Go.Proofs.YtgcaenckjelijaaDoor
open Go Go.RowKit Go.Maps

/-- What Build has built is fit to be walked. -/
theorem ready {V : List Wd} (hr : Rise V) (hb : ∀ w ∈ V, w.length < 201) {r : Nat × List DSt} (h : buildS 201 V [] = r) :
    (∀ (i : Nat) (s : DSt), r.2[i]? = some s → s.2.Pairwise (fun a b => a.1 < b.1) ∧ ∀ e ∈ s.2, e.2 < i) ∧ r.1 < r.2.length + 1 ∧ r.2.length ≤ 1 + tot V := by
  have h1 := buildS_inv 201 V [] r.2 hb hr (by decide) (by rw [h]; exact List.prefix_refl _) ⟨List.Pairwise.nil, by simp⟩
  have h2 := (buildS_ok 201 V [] hb hr (by decide)).2
  have h3 := buildS_len 201 V [] hb hr
  rw [h] at h1 h2 h3
  refine ⟨fun i s hi => ⟨(h1.2 i s hi).1, fun e he => ((h1.2 i s hi).2 e he).1⟩, by omega, by simpa using h3⟩

/-- An offer's two cells. -/
theorem offer_cell {w : World} {base q n c : Nat} {l : List (Wd × Nat)} (h : w.ownsRow base 32 2 (.slice (some ⟨q, 0, none⟩) n c) n (offCells l)) {i : Nat} {o : Wd × Nat} (ho : l[i]? = some o) :
    w.cell? ⟨q, 2 * i, none⟩ = some (.string ⟨o.1.toArray⟩) ∧ w.cell? ⟨q, 2 * i + 1, none⟩ = some (.int .i64 (o.2 : Int)) := by
  have key : ∀ (l : List (Wd × Nat)) (i : Nat), l[i]? = some o → (offCells l)[2 * i]? = some (.string ⟨o.1.toArray⟩) ∧ (offCells l)[2 * i + 1]? = some (.int .i64 (o.2 : Int)) := by
    intro l
    induction l with
    | nil => intro i h; simp at h
    | cons a t ih =>
      intro i h
      rcases i with _ | i
      · simp at h; subst h
        simp [offCells]
      · have := ih i (by simpa using h)
        rw [show 2 * (i + 1) = 2 * i + 1 + 1 by omega]
        simpa [offCells] using this
  obtain ⟨k1, k2⟩ := key l i ho
  have g1 := h.cells (g := q) rfl _ _ k1
  have g2 := h.cells (g := q) rfl _ _ k2
  rw [Addr.add_lit, Nat.zero_add] at g1 g2
  exact ⟨g1, g2⟩

def catW : List Wd := [[99, 97, 116], [99, 117, 116], [100, 111, 103]]

theorem cat_rise : Rise catW := by unfold Rise; decide
theorem cat_canon : canon catW = catW := canon_of_rise cat_rise (fun _ => Iff.rfl)
theorem cat_walk : (walkS (buildS 201 catW []).2 (buildS 201 catW []).1 [99, 101, 116] (mostS 1)).l = [([99, 97, 116], 1), ([99, 117, 116], 1)] ∧ (walkS (buildS 201 catW []).2 (buildS 201 catW []).1 [99, 101, 116] (mostS 1)).steps ≤ 1000000 := by decide +kernel

set_option maxRecDepth 100000 in
set_option maxHeartbeats 1000000 in
theorem awake18_walk (w : World) (hT : Lib.Utf8Tabs 0 1 w) : Calls Tryd.prog 11 #[] w (TrueRes w) := by
  obtain ⟨t1, t2⟩ := cat_walk
  obtain ⟨r, hr⟩ : ∃ r, buildS 201 catW [] = r := ⟨_, rfl⟩
  obtain ⟨k1, k2, k3⟩ := ready cat_rise (by decide) hr
  rw [hr] at t1 t2
  have hown := words_own (ss := catW) (World.ownsRow_lit (base := 0) (size := 1) (e := 9) w #[.string ⟨#[99, 97, 116]⟩, .string ⟨#[99, 117, 116]⟩, .string ⟨#[100, 111, 103]⟩] 3 (Nat.zero_le _) (by decide) rfl) (by decide)
  have HO := Lib.hid hown
  have HR := Lib.hid hr
  have K1 := Lib.hid k1
  have HT := Lib.hid hT
  have T1 := Lib.hid t1
  have T2 := Lib.hid t2
  have htot : tot catW = 9 := by decide
  have K3 := Lib.hid (show r.2.length ≤ 900000 by omega)
  clear hown hr k1 k3 t1 t2 hT htot
  go_enter Tryd.func11, Tryd.ntmps11
  go_wp2_with fail
  refine (build_walk catW _ 3 3 _ HO.out).mono ?_
  rintro e w1 hb
  obtain ⟨hg, B, M, lv, rfl, hB, hbd⟩ := build_ok hb cat_canon (by decide) HR.out
  have hg0 := grownBy_trans (World.grownBy_alloc w (.cells #[.string ⟨#[99, 97, 116]⟩, .string ⟨#[99, 117, 116]⟩, .string ⟨#[100, 111, 103]⟩] 9) none) hg nofun
  have H := Lib.hid hbd
  have HG0 := Lib.hid hg0
  have hgal := World.grownBy_alloc w1 (.cells #[.int .i64 99, .int .i64 101, .int .i64 116] 3) none
  have hC := Sl.of_own (World.ownsRow_lit (base := 0) (size := 1) (e := 3) w1 #[.int .i64 99, .int .i64 101, .int .i64 116] 3 (Nat.zero_le _) (by decide) rfl) (by intro x hx; simp at hx; rcases hx with rfl | rfl | rfl <;> rfl)
  have HC := Lib.hid hC
  have HGA := Lib.hid hgal
  clear hbd hb hg HO hg0 hgal hC
  go_wp2_with fail
  refine (Walk_walk B M _ lv r.1 r.2 _ 3 3 [99, 101, 116] 1 _ (H.out.kept HGA.out) K1.out rfl (by decide) HC.out (tabs_kept (tabs_kept HT.out HG0.out) HGA.out) k2 K3.out T2.out (by rw [T1.out]; decide)).mono ?_
  rintro e w2 ⟨v, rfl, hown2, hg2⟩
  rw [T1.out] at hown2
  obtain ⟨q, cp, rfl, _⟩ := own_form hown2 (by decide)
  obtain ⟨c0, c1⟩ := offer_cell hown2 (i := 0) rfl
  obtain ⟨c2, c3⟩ := offer_cell hown2 (i := 1) rfl
  have HG2 := Lib.hid (grownBy_trans (grownBy_trans HG0.out HGA.out nofun) hg2 nofun)
  clear hown2 hg2 HGA HG0
  go_wp2_with fail
  go_ret
  exact ⟨rfl, HG2.out⟩
end Go.Proofs.YtgcaenckjelijaaDoor
