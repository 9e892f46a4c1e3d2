/-
  The automaton as plain lists: what it has is just the words. No Go in it, no conditions beyond those that each lemma names.
-/
import Derived.Test.YtdcdhcgfhapbnaaDoorDawgL
namespace Go.Proofs.YtdcdhcgfhapbnaaDoor

theorem prefix_get {α : Type} {a b : List α} (h : a <+: b) {i : Nat} {x : α} (hx : a[i]? = some x) : b[i]? = some x := by
  obtain ⟨t, rfl⟩ := h
  rw [List.getElem?_append_left (List.getElem?_eq_some_iff.1 hx).1]; exact hx

/-- What the edges say of the words. -/
def ERun (sts' : List DSt) (W : List Wd) (es : List DEdge) : Prop :=
  ∀ c : UInt8, (∀ e, es.find? (fun e => e.1 == c) = some e → ∀ s : Wd, runS sts' e.2 s = decide (c :: s ∈ W)) ∧ (es.find? (fun e => e.1 == c) = none → ∀ s : Wd, c :: s ∉ W)

def BRun (f : Nat) : Prop := ∀ (W : List Wd) (sts sts' : List DSt), (∀ w ∈ W, w.length < f) → Rise W → 0 < f → (buildS f W sts).2 <+: sts' → ∀ s : Wd, runS sts' (buildS f W sts).1 s = decide (s ∈ W)

theorem group_mem {w : Wd} {W : List Wd} (hw : ∀ x ∈ w :: W, x ≠ []) (hr : Rise (w :: W)) {k : Nat} (hk : (W.takeWhile (headIs (w.headD 0))).length = k) (s : Wd) :
    (w.headD 0 :: s ∈ w :: W ↔ s ∈ (w :: W.take k).map List.tail) ∧ ∀ c, c ≠ w.headD 0 → (c :: s ∈ w :: W ↔ c :: s ∈ W.drop k) := by
  have hsplit : w :: W = (w :: W.take k) ++ W.drop k := by rw [List.cons_append, List.take_append_drop]
  have hg : ∀ x ∈ w :: W.take k, headIs (w.headD 0) x = true := by
    intro x hx
    rcases List.mem_cons.1 hx with rfl | hx
    · have := hw x (by simp)
      match x, this with
      | c :: v, _ => simp [headIs]
    · rw [← hk, take_takeWhile] at hx
      exact List.all_eq_true.1 List.all_takeWhile x hx
  have hd : ∀ x ∈ W.drop k, w.headD 0 < x.headD 0 := by
    intro x hx
    rw [← hk, drop_takeWhile] at hx
    exact rest_gt hr (hw w (by simp)) x hx
  constructor
  · rw [hsplit, List.mem_append]
    constructor
    · rintro (h | h)
      · exact List.mem_map.2 ⟨_, h, rfl⟩
      · exact absurd (hd _ h) (UInt8.lt_irrefl _)
    · intro h
      obtain ⟨y, hy, he⟩ := List.mem_map.1 h
      left
      have h1 := hg y hy
      match y with
      | [] => simp [headIs] at h1
      | a :: v =>
        unfold headIs at h1
        simp only [List.head?_cons, beq_iff_eq, Option.some.injEq] at h1
        simp only [List.tail_cons] at he
        rw [← h1, ← he]; exact hy
  · intro c hc
    rw [hsplit, List.mem_append]
    constructor
    · rintro (h | h)
      · have := hg _ h
        unfold headIs at this
        simp only [List.head?_cons, beq_iff_eq, Option.some.injEq] at this
        exact absurd this hc
      · exact h
    · exact .inr

theorem edgesS_run {f : Nat} (ok : BOk f) (ih : BRun f) : ∀ (n : Nat) (W : List Wd) (sts sts' : List DSt), W.length ≤ n → (∀ w ∈ W, w.length < f + 1 ∧ w ≠ []) → Rise W → (edgesS (buildS f) n W sts).2 <+: sts' → ERun sts' W (edgesS (buildS f) n W sts).1 := by
  intro n
  induction n with
  | zero =>
    intro W sts sts' hn _ _ _ c
    have : W = [] := List.length_eq_zero_iff.1 (by omega)
    subst this
    exact ⟨by simp [edgesS], by simp⟩
  | succ n ihn =>
    intro W sts sts' hn hw hr hp
    match W with
    | [] => exact fun c => ⟨by simp [edgesS], by simp⟩
    | w :: W =>
      generalize hk : (W.takeWhile (headIs (w.headD 0))).length = k
      obtain ⟨g1, g2, g3, _⟩ := group_ok hw hr hk
      have hq : edgesS (buildS f) (n + 1) (w :: W) sts = ((w.headD 0, (buildS f ((w :: W.take k).map List.tail) sts).1) :: (edgesS (buildS f) n (W.drop k) (buildS f ((w :: W.take k).map List.tail) sts).2).1, (edgesS (buildS f) n (W.drop k) (buildS f ((w :: W.take k).map List.tail) sts).2).2) := by
        simp only [edgesS, hk]
      rw [hq] at hp ⊢
      have hw2 : ∀ x ∈ W.drop k, x.length < f + 1 ∧ x ≠ [] := fun x hx => hw x (by simp [List.mem_of_mem_drop hx])
      have hr2 : Rise (W.drop k) := hr.sub ((List.drop_sublist _ _).trans (List.sublist_cons_self _ _))
      have hn2 : (W.drop k).length ≤ n := by simp at hn ⊢; omega
      have e1 := (edgesS_ok ok n (W.drop k) (buildS f ((w :: W.take k).map List.tail) sts).2 hn2 hw2 hr2).1
      have h1 := ih _ sts sts' g1 g2 g3 (e1.trans hp)
      have h2 := ihn (W.drop k) (buildS f ((w :: W.take k).map List.tail) sts).2 sts' hn2 hw2 hr2 hp
      intro c
      by_cases hc : c = w.headD 0
      · subst hc
        refine ⟨fun e he s => ?_, fun he => ?_⟩
        · simp only [List.find?_cons, beq_self_eq_true, Option.some.injEq] at he
          subst he
          rw [h1 s]
          simp only [decide_eq_decide]
          exact ((group_mem (fun x hx => (hw x hx).2) hr hk s).1).symm
        · simp at he
      · have hcb : (w.headD 0 == c) = false := beq_eq_false_iff_ne.2 (fun e => hc e.symm)
        refine ⟨fun e he s => ?_, fun he s => ?_⟩
        · simp only [List.find?_cons, hcb] at he
          rw [(h2 c).1 e he s]
          simp only [decide_eq_decide]
          exact ((group_mem (fun x hx => (hw x hx).2) hr hk s).2 c hc).symm
        · simp only [List.find?_cons, hcb] at he
          rw [(group_mem (fun x hx => (hw x hx).2) hr hk s).2 c hc]
          exact (h2 c).2 he s

theorem goOn_mem {W : List Wd} (c : UInt8) (s : Wd) : c :: s ∈ goOn W ↔ c :: s ∈ W := by
  unfold goOn
  split
  · rename_i h
    cases W with
    | nil => simp
    | cons w W => simp at h; subst h; simp
  · rfl

theorem nil_mem {W : List Wd} (hr : Rise W) : (W.head? == some []) = decide ([] ∈ W) := by
  cases W with
  | nil => rfl
  | cons w W =>
    by_cases h : w = []
    · subst h; simp
    · have h1 : [] ∉ W := fun hx => lt_nil w ((List.pairwise_cons.1 hr).1 [] hx)
      have h2 : ¬ [] = w := fun e => h e.symm
      simp [h, h1, h2]

theorem buildS_run : ∀ f, BRun f
  | 0 => fun _ _ _ _ _ h => absurd h (by omega)
  | f + 1 => by
    intro W sts sts' hw hr _ hp s
    obtain ⟨g1, g2, _⟩ := goOn_ok hw hr
    rw [buildS_succ] at hp ⊢
    obtain ⟨k1, k2, k3⟩ := knowS_ok (edgesS (buildS f) (goOn W).length (goOn W) sts).2 (W.head? == some [], (edgesS (buildS f) (goOn W).length (goOn W) sts).1)
    have h1 := edgesS_run (buildS_ok f) (buildS_run f) (goOn W).length (goOn W) sts sts' (Nat.le_refl _) g1 g2 (k1.trans hp)
    have h2 := stAt_in (prefix_get hp k3)
    match s with
    | [] => unfold runS; rw [h2]; exact nil_mem hr
    | c :: s =>
      unfold runS nextS
      rw [h2]
      rcases he : (edgesS (buildS f) (goOn W).length (goOn W) sts).1.find? (fun e => e.1 == c) with _ | e
      · have := (h1 c).2 he s
        rw [goOn_mem] at this
        rw [decide_eq_false this, he]
        rfl
      · have := (h1 c).1 e he s
        rw [he]
        show runS sts' e.2 s = _
        rw [this]
        simp only [decide_eq_decide]
        exact goOn_mem c s
end Go.Proofs.YtdcdhcgfhapbnaaDoor
