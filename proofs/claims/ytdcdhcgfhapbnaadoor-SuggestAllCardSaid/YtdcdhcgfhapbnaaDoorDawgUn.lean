/-
  The automaton as plain lists: states that have the same words are the same. No conditions beyond those that each lemma names.
-/
import Derived.Test.YtdcdhcgfhapbnaaDoorDawgWp
namespace Go.Proofs.YtdcdhcgfhapbnaaDoor

theorem next_of {sts : List DSt} {i : Nat} {s : DSt} (hi : sts[i]? = some s) (hr : s.2.Pairwise (fun a b => a.1 < b.1)) {e : DEdge} (he : e ∈ s.2) : nextS sts i e.1 = some e.2 := by
  unfold nextS; rw [stAt_in hi, find_rising hr e he]; rfl

theorem of_next {sts : List DSt} {i : Nat} {s : DSt} (hi : sts[i]? = some s) {c : UInt8} {b : Nat} (h : nextS sts i c = some b) : (c, b) ∈ s.2 := by
  unfold nextS at h
  rw [stAt_in hi] at h
  rcases hf : s.2.find? (fun e => e.1 == c) with _ | e
  · rw [hf] at h; simp at h
  · rw [hf] at h
    simp at h
    have h1 := List.mem_of_find?_eq_some hf
    have h2 := List.find?_some hf
    simp at h2
    rw [← h2, ← h]; exact h1

theorem edges_unique : ∀ {a b : List DEdge}, a.Pairwise (fun x y => x.1 < y.1) → b.Pairwise (fun x y => x.1 < y.1) → (∀ e, e ∈ a ↔ e ∈ b) → a = b
  | [], [], _, _, _ => rfl
  | [], y :: b, _, _, h => by have := (h y).2 (by simp); simp at this
  | x :: a, [], _, _, h => by have := (h x).1 (by simp); simp at this
  | x :: a, y :: b, ha, hb, h => by
    have h1 := List.pairwise_cons.1 ha
    have h2 := List.pairwise_cons.1 hb
    have hxy : x = y := by
      rcases List.mem_cons.1 ((h x).1 (by simp)) with e | e
      · exact e
      · rcases List.mem_cons.1 ((h y).2 (by simp)) with e' | e'
        · exact e'.symm
        · exact absurd (UInt8.lt_trans (h2.1 x e) (h1.1 y e')) (UInt8.lt_irrefl _)
    subst hxy
    congr 1
    refine edges_unique h1.2 h2.2 (fun e => ?_)
    constructor
    · intro he
      rcases List.mem_cons.1 ((h e).1 (List.mem_cons_of_mem _ he)) with e2 | e2
      · subst e2; exact absurd (h1.1 e he) (UInt8.lt_irrefl _)
      · exact e2
    · intro he
      rcases List.mem_cons.1 ((h e).2 (List.mem_cons_of_mem _ he)) with e2 | e2
      · subst e2; exact absurd (h2.1 e he) (UInt8.lt_irrefl _)
      · exact e2

theorem runS_cons {sts : List DSt} {i : Int} {c : UInt8} {s : Wd} {b : Nat} (h : nextS sts i c = some b) : runS sts i (c :: s) = runS sts b s := by
  show (match nextS sts i c with | some j => runS sts j s | none => false) = _
  rw [h]

theorem runS_none {sts : List DSt} {i : Int} {c : UInt8} {s : Wd} (h : nextS sts i c = none) : runS sts i (c :: s) = false := by
  show (match nextS sts i c with | some j => runS sts j s | none => false) = _
  rw [h]

theorem states_unlike {sts : List DSt} (h : AllG sts sts) : ∀ i j, i < sts.length → j < sts.length → (∀ s, runS sts i s = runS sts j s) → i = j := by
  intro i
  induction i using Nat.strongRecOn with
  | ind i ih =>
    intro j hi hj hs
    obtain ⟨si, hsi⟩ : ∃ s, sts[i]? = some s := ⟨_, List.getElem?_eq_getElem hi⟩
    obtain ⟨sj, hsj⟩ : ∃ s, sts[j]? = some s := ⟨_, List.getElem?_eq_getElem hj⟩
    obtain ⟨ri, gi⟩ := h.2 i si hsi
    obtain ⟨rj, gj⟩ := h.2 j sj hsj
    have hfin : si.1 = sj.1 := by
      have := hs []
      unfold runS at this
      rw [stAt_in hsi, stAt_in hsj] at this
      exact this
    have hedge : si.2 = sj.2 := by
      refine edges_unique ri rj (fun e => ⟨fun he => ?_, fun he => ?_⟩)
      · obtain ⟨hlt, t, ht⟩ := gi e he
        have hn := next_of hsi ri he
        rcases hb : nextS sts j e.1 with _ | b
        · have := hs (e.1 :: t)
          rw [runS_cons hn, runS_none hb, ht] at this; cases this
        · have hmem := of_next hsj hb
          have hbl := (gj _ hmem).1
          have : e.2 = b := ih e.2 hlt b (by omega) (by simp only at hbl; omega) (fun s => by
            have := hs (e.1 :: s)
            rw [runS_cons hn, runS_cons hb] at this; exact this)
          have e2 : e = (e.1, b) := by rw [← this]
          rw [e2]; exact hmem
      · obtain ⟨hlt, t, ht⟩ := gj e he
        have hn := next_of hsj rj he
        rcases hb : nextS sts i e.1 with _ | b
        · have := hs (e.1 :: t)
          rw [runS_cons hn, runS_none hb, ht] at this; cases this
        · have hmem := of_next hsi hb
          have hbl := (gi _ hmem).1
          have : b = e.2 := ih b (by simp only at hbl; omega) e.2 (by simp only at hbl; omega) (by omega) (fun s => by
            have := hs (e.1 :: s)
            rw [runS_cons hn, runS_cons hb] at this; exact this)
          have e2 : e = (e.1, b) := by rw [this]
          rw [e2]; exact hmem
    have heq : si = sj := Prod.ext hfin hedge
    subst heq
    obtain ⟨h1, e1⟩ := List.getElem?_eq_some_iff.1 hsi
    obtain ⟨h2, e2⟩ := List.getElem?_eq_some_iff.1 hsj
    exact (List.getElem_inj h.1).1 (e1.trans e2.symm)
end Go.Proofs.YtdcdhcgfhapbnaaDoor
