/-
  The automaton as plain lists: its states are the lots of endings. No conditions beyond those that each lemma names.
-/
import Derived.Test.YtiiaphgencoijaaDawgUn
namespace Go.Proofs.Ytiiaphgencoijaa

def VH (W : List Wd) (h : Wd) : Prop := h = [] ∨ ∃ s, h ++ s ∈ W

def BReach (f : Nat) : Prop := ∀ (W : List Wd) (sts sts' : List DSt), (∀ w ∈ W, w.length < f) → Rise W → 0 < f → (buildS f W sts).2 <+: sts' →
  (∀ i, sts.length ≤ i → i < (buildS f W sts).2.length → ∃ h, VH W h ∧ ∀ s, runS sts' i s = decide (h ++ s ∈ W)) ∧
  ∀ h, VH W h → ∃ i, i < (buildS f W sts).2.length ∧ ∀ s, runS sts' i s = decide (h ++ s ∈ W)

theorem edgesS_reach {f : Nat} (ok : BOk f) (ih : BReach f) : ∀ (n : Nat) (W : List Wd) (sts sts' : List DSt), W.length ≤ n → (∀ w ∈ W, w.length < f + 1 ∧ w ≠ []) → Rise W → (edgesS (buildS f) n W sts).2 <+: sts' →
    (∀ i, sts.length ≤ i → i < (edgesS (buildS f) n W sts).2.length → ∃ c h, (∃ s, c :: (h ++ s) ∈ W) ∧ ∀ s, runS sts' i s = decide (c :: (h ++ s) ∈ W)) ∧
    ∀ c h, (∃ s, c :: (h ++ s) ∈ W) → ∃ i, i < (edgesS (buildS f) n W sts).2.length ∧ ∀ s, runS sts' i s = decide (c :: (h ++ s) ∈ W) := by
  intro n
  induction n with
  | zero =>
    intro W sts sts' hn _ _ _
    have : W = [] := List.length_eq_zero_iff.1 (by omega)
    subst this
    exact ⟨fun i h1 h2 => by simp [edgesS] at h2; omega, fun c h hs => by simp at hs⟩
  | succ n ihn =>
    intro W sts sts' hn hw hr hp
    match W with
    | [] => exact ⟨fun i h1 h2 => by simp [edgesS] at h2; omega, fun c h hs => by simp at hs⟩
    | w :: W =>
      generalize hk : (W.takeWhile (headIs (w.headD 0))).length = k
      obtain ⟨g1, g2, g3, _⟩ := group_ok hw hr hk
      have hq : edgesS (buildS f) (n + 1) (w :: W) sts = ((w.headD 0, (buildS f ((w :: W.take k).map List.tail) sts).1) :: (edgesS (buildS f) n (W.drop k) (buildS f ((w :: W.take k).map List.tail) sts).2).1, (edgesS (buildS f) n (W.drop k) (buildS f ((w :: W.take k).map List.tail) sts).2).2) := by
        simp only [edgesS, hk]
      rw [hq] at hp ⊢
      have hw2 : ∀ x ∈ W.drop k, x.length < f + 1 ∧ x ≠ [] := fun x hx => hw x (by simp [List.mem_of_mem_drop hx])
      have hr2 : Rise (W.drop k) := hr.sub ((List.drop_sublist _ _).trans (List.sublist_cons_self _ _))
      have hn2 : (W.drop k).length ≤ n := by simp at hn ⊢; omega
      have e1 := (edgesS_ok ok n (W.drop k) (buildS f ((w :: W.take k).map List.tail) sts).2 hn2 hw2 hr2).1
      obtain ⟨a1, b1⟩ := ih _ sts sts' g1 g2 g3 (e1.trans hp)
      obtain ⟨a2, b2⟩ := ihn (W.drop k) (buildS f ((w :: W.take k).map List.tail) sts).2 sts' hn2 hw2 hr2 hp
      have hgm := fun s => group_mem (fun x hx => (hw x hx).2) hr hk s
      have hne : ∀ c s, c :: s ∈ W.drop k → c ≠ w.headD 0 := by
        intro c s hs e
        rw [← hk, drop_takeWhile] at hs
        have := rest_gt hr (hw w (by simp)).2 _ hs
        rw [← e] at this
        exact UInt8.lt_irrefl _ this
      have hw0 : w.headD 0 :: w.tail ∈ w :: W := by
        have := (hw w (by simp)).2
        match w, this with
        | c :: v, _ => simp
      have hel : (buildS f ((w :: W.take k).map List.tail) sts).2.length ≤ (edgesS (buildS f) n (W.drop k) (buildS f ((w :: W.take k).map List.tail) sts).2).2.length := e1.length_le
      generalize (w :: W.take k).map List.tail = V at *
      refine ⟨fun i h1 h2 => ?_, fun c h hs => ?_⟩
      · rcases Nat.lt_or_ge i (buildS f V sts).2.length with h3 | h3
        · obtain ⟨h, hv, hrun⟩ := a1 i h1 h3
          refine ⟨w.headD 0, h, ?_, fun s => ?_⟩
          · rcases hv with rfl | ⟨s, hs⟩
            · exact ⟨w.tail, hw0⟩
            · exact ⟨s, (hgm _).1.2 hs⟩
          · rw [hrun s]
            simp only [decide_eq_decide]
            exact (hgm _).1.symm
        · obtain ⟨c, h, ⟨s, hs⟩, hrun⟩ := a2 i h3 h2
          have hc := hne c _ hs
          refine ⟨c, h, ⟨s, ((hgm _).2 c hc).2 hs⟩, fun s => ?_⟩
          rw [hrun s]
          simp only [decide_eq_decide]
          exact ((hgm _).2 c hc).symm
      · obtain ⟨s, hs⟩ := hs
        by_cases hc : c = w.headD 0
        · subst hc
          obtain ⟨i, hi, hrun⟩ := b1 h (.inr ⟨s, (hgm _).1.1 hs⟩)
          refine ⟨i, Nat.lt_of_lt_of_le hi hel, fun s => ?_⟩
          rw [hrun s]
          simp only [decide_eq_decide]
          exact (hgm _).1.symm
        · obtain ⟨i, hi, hrun⟩ := b2 c h ⟨s, ((hgm _).2 c hc).1 hs⟩
          refine ⟨i, hi, fun s => ?_⟩
          rw [hrun s]
          simp only [decide_eq_decide]
          exact ((hgm _).2 c hc).symm

theorem buildS_reach : ∀ f, BReach f
  | 0 => fun _ _ _ _ _ h => absurd h (by omega)
  | f + 1 => by
    intro W sts sts' hw hr hf hp
    have hrun0 := buildS_run (f + 1) W sts sts' hw hr hf hp
    obtain ⟨g1, g2, _⟩ := goOn_ok hw hr
    rw [buildS_succ] at hp hrun0 ⊢
    obtain ⟨k1, k2, k3⟩ := knowS_ok (edgesS (buildS f) (goOn W).length (goOn W) sts).2 (W.head? == some [], (edgesS (buildS f) (goOn W).length (goOn W) sts).1)
    obtain ⟨a1, b1⟩ := edgesS_reach (buildS_ok f) (buildS_reach f) (goOn W).length (goOn W) sts sts' (Nat.le_refl _) g1 g2 (k1.trans hp)
    have hkl := knowS_len (edgesS (buildS f) (goOn W).length (goOn W) sts).2 (W.head? == some [], (edgesS (buildS f) (goOn W).length (goOn W) sts).1)
    refine ⟨fun i h1 h2 => ?_, fun h hv => ?_⟩
    · rcases Nat.lt_or_ge i (edgesS (buildS f) (goOn W).length (goOn W) sts).2.length with h3 | h3
      · obtain ⟨c, h, ⟨s, hs⟩, hrun⟩ := a1 i h1 h3
        refine ⟨c :: h, .inr ⟨s, (goOn_mem c _).1 hs⟩, fun s => ?_⟩
        rw [hrun s]
        simp only [decide_eq_decide]
        exact goOn_mem c _
      · refine ⟨[], .inl rfl, fun s => ?_⟩
        have hi : i = (knowS (edgesS (buildS f) (goOn W).length (goOn W) sts).2 (W.head? == some [], (edgesS (buildS f) (goOn W).length (goOn W) sts).1)).1 := by
          unfold knowS at h2 ⊢
          split at h2
          · simp only at h2; omega
          · simp only [List.length_append, List.length_singleton] at h2 ⊢; omega
        rw [hi]
        exact hrun0 s
    · rcases hv with rfl | ⟨s, hs⟩
      · exact ⟨_, k2, hrun0⟩
      · match h with
        | [] => exact ⟨_, k2, hrun0⟩
        | c :: h =>
          obtain ⟨i, hi, hrun⟩ := b1 c h ⟨s, (goOn_mem c _).2 hs⟩
          refine ⟨i, by omega, fun s => ?_⟩
          rw [hrun s]
          simp only [decide_eq_decide]
          exact goOn_mem c _
end Go.Proofs.Ytiiaphgencoijaa
