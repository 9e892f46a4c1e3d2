/-
  The automaton as plain lists: as many states as there are unlike lots of endings. No byte is 0.
-/
import Derived.Test.YtiiaphgencoijaaDawgReach
import Derived.Test.YtiiaphgencoijaaDawgEnd
namespace Go.Proofs.Ytiiaphgencoijaa

theorem seenS_ok (m : List Wd) (hs : List Wd) : Rise (seenS m hs) ∧ ∀ y, y ∈ seenS m hs ↔ ∃ h ∈ hs, y = endS m h := by
  have key : ∀ (hs L : List Wd), Rise L → Rise (hs.foldl (fun L h => insU (endS m h) L) L) ∧ ∀ y, y ∈ hs.foldl (fun L h => insU (endS m h) L) L ↔ y ∈ L ∨ ∃ h ∈ hs, y = endS m h := by
    intro hs
    induction hs with
    | nil => intro L h; exact ⟨h, by simp⟩
    | cons x hs ih =>
      intro L h
      obtain ⟨h1, h2⟩ := ih (insU (endS m x) L) (insU_rise h)
      refine ⟨h1, fun y => ?_⟩
      rw [List.foldl_cons, h2, mem_insU]
      constructor
      · rintro ((e | e) | ⟨z, hz, e⟩)
        · exact .inr ⟨x, by simp, e⟩
        · exact .inl e
        · exact .inr ⟨z, by simp [hz], e⟩
      · rintro (e | ⟨z, hz, e⟩)
        · exact .inl (.inr e)
        · rcases List.mem_cons.1 hz with rfl | hz
          · exact .inl (.inl e)
          · exact .inr ⟨z, hz, e⟩
  obtain ⟨h1, h2⟩ := key hs [] (by simp [Rise])
  exact ⟨h1, fun y => by rw [seenS, h2]; simp⟩

theorem VH_heads {V : List Wd} {h : Wd} : VH V h ↔ h ∈ headsS V := by
  rw [mem_headsS]
  constructor
  · rintro (e | ⟨s, hs⟩)
    · exact .inl e
    · cases h with
      | nil => exact .inl rfl
      | cons c h => exact .inr ⟨_, hs, h.length, by simp; omega, by simp⟩
  · rintro (e | ⟨x, hx, j, _, rfl⟩)
    · exact .inl e
    · exact .inr ⟨x.drop (j + 1), by rw [List.take_append_drop]; exact hx⟩

theorem count_states {f : Nat} {V : List Wd} (hw : ∀ w ∈ V, w.length < f) (hr : Rise V) (hf : 0 < f) (hz : ∀ w ∈ V, ∀ b ∈ w, b ≠ 0) : (buildS f V []).2.length = (seenS V (headsS V)).length := by
  obtain ⟨a, b⟩ := buildS_reach f V [] _ hw hr hf (List.prefix_refl _)
  have hinv := buildS_inv f V [] _ hw hr hf (List.prefix_refl _) ⟨by simp, by simp⟩
  have hun := states_unlike hinv
  generalize (buildS f V []).2 = sts at *
  obtain ⟨s1, s2⟩ := seenS_ok V (headsS V)
  have hz2 : ∀ h, ∀ s ∈ suff V h, ∀ b ∈ s, b ≠ 0 := fun h s hs b hb => hz _ (mem_suff.1 hs) b (by simp [hb])
  have hc : ∀ i, ∃ h, i < sts.length → VH V h ∧ ∀ s, runS sts i s = decide (h ++ s ∈ V) := by
    intro i
    by_cases hi : i < sts.length
    · obtain ⟨h, h1⟩ := a i (Nat.zero_le _) hi
      exact ⟨h, fun _ => h1⟩
    · exact ⟨[], fun h => absurd h hi⟩
  let hd : Nat → Wd := fun i => Classical.choose (hc i)
  have hhd : ∀ i, i < sts.length → VH V (hd i) ∧ ∀ s, runS sts i s = decide (hd i ++ s ∈ V) := fun i => Classical.choose_spec (hc i)
  have hsame : ∀ h h', endS V h = endS V h' → ∀ s, (h ++ s ∈ V ↔ h' ++ s ∈ V) := by
    intro h h' e s
    rw [endS_joined, endS_joined] at e
    have := joined_inj (hz2 h) (hz2 h') e
    rw [← mem_suff, ← mem_suff, this]
  have n1 : ((List.range sts.length).map fun i => endS V (hd i)).Nodup := by
    unfold List.Nodup
    rw [List.pairwise_map]
    refine List.Pairwise.imp_of_mem ?_ (List.nodup_range (n := sts.length))
    intro i j hi hj hne e
    have hi' := List.mem_range.1 hi
    have hj' := List.mem_range.1 hj
    refine hne (hun i j hi' hj' (fun s => ?_))
    rw [(hhd i hi').2 s, (hhd j hj').2 s]
    simp only [decide_eq_decide]
    exact hsame _ _ e s
  have n2 : (seenS V (headsS V)).Nodup := s1.imp (fun {x y} h e => by subst e; exact List.lt_irrefl _ h)
  have hp := (List.perm_ext_iff_of_nodup n1 n2).2 (fun y => by
    rw [s2, List.mem_map]
    constructor
    · rintro ⟨i, hi, rfl⟩
      exact ⟨hd i, VH_heads.1 (hhd i (List.mem_range.1 hi)).1, rfl⟩
    · rintro ⟨h, hh, rfl⟩
      obtain ⟨i, hi, hrun⟩ := b h (VH_heads.2 hh)
      refine ⟨i, List.mem_range.2 hi, ?_⟩
      rw [endS_joined, endS_joined]
      congr 1
      refine rise_unique (suff_rise hr _) (suff_rise hr _) (fun s => ?_)
      rw [mem_suff, mem_suff]
      have e1 := (hhd i hi).2 s
      rw [hrun s] at e1
      simpa only [decide_eq_decide] using e1.symm)
  have := hp.length_eq
  simpa using this
end Go.Proofs.Ytiiaphgencoijaa
