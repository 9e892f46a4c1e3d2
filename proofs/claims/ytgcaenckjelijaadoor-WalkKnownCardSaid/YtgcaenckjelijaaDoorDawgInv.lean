/-
  The automaton as plain lists: no two states alike; edges lead to smaller numbers, to states that have words. No conditions beyond those that each lemma names.
-/
import Derived.Test.YtgcaenckjelijaaDoorDawgY
namespace Go.Proofs.YtgcaenckjelijaaDoor

/-- What holds of a state by its number. -/
def StG (sts' : List DSt) (i : Nat) (s : DSt) : Prop := s.2.Pairwise (fun a b => a.1 < b.1) ∧ ∀ e ∈ s.2, e.2 < i ∧ ∃ t, runS sts' e.2 t = true

def AllG (sts' sts : List DSt) : Prop := sts.Nodup ∧ ∀ i s, sts[i]? = some s → StG sts' i s

theorem knowS_inv {sts' sts : List DSt} {s : DSt} (h : AllG sts' sts) (hs : StG sts' sts.length s) : AllG sts' (knowS sts s).2 := by
  unfold knowS
  split
  · exact h
  · rename_i hno
    have hno' : s ∉ sts := by
      rw [List.findIdx?_eq_none_iff] at hno
      intro hm
      simpa using hno s hm
    refine ⟨?_, fun i t ht => ?_⟩
    · rw [List.nodup_append]
      refine ⟨h.1, by simp, ?_⟩
      intro a ha b hb e
      simp at hb
      subst hb
      exact hno' (e ▸ ha)
    · rcases Nat.lt_or_ge i sts.length with hi | hi
      · rw [List.getElem?_append_left hi] at ht
        exact h.2 i t ht
      · have hi' : i = sts.length := by
          have := (List.getElem?_eq_some_iff.1 ht).1
          simp at this; omega
        subst hi'
        simp at ht
        subst ht
        exact hs

def BInv (f : Nat) : Prop := ∀ (W : List Wd) (sts sts' : List DSt), (∀ w ∈ W, w.length < f) → Rise W → 0 < f → (buildS f W sts).2 <+: sts' → AllG sts' sts → AllG sts' (buildS f W sts).2

theorem edgesS_inv {f : Nat} (ok : BOk f) (ih : BInv f) : ∀ (n : Nat) (W : List Wd) (sts sts' : List DSt), W.length ≤ n → (∀ w ∈ W, w.length < f + 1 ∧ w ≠ []) → Rise W → (edgesS (buildS f) n W sts).2 <+: sts' → AllG sts' sts → AllG sts' (edgesS (buildS f) n W sts).2 := by
  intro n
  induction n with
  | zero => intro W sts sts' _ _ _ _ h; exact h
  | succ n ihn =>
    intro W sts sts' hn hw hr hp h
    match W with
    | [] => exact h
    | w :: W =>
      generalize hk : (W.takeWhile (headIs (w.headD 0))).length = k
      obtain ⟨g1, g2, g3, _⟩ := group_ok hw hr hk
      have hq : edgesS (buildS f) (n + 1) (w :: W) sts = ((w.headD 0, (buildS f ((w :: W.take k).map List.tail) sts).1) :: (edgesS (buildS f) n (W.drop k) (buildS f ((w :: W.take k).map List.tail) sts).2).1, (edgesS (buildS f) n (W.drop k) (buildS f ((w :: W.take k).map List.tail) sts).2).2) := by
        simp only [edgesS, hk]
      rw [hq] at hp ⊢
      have hw2 : ∀ x ∈ W.drop k, x.length < f + 1 ∧ x ≠ [] := fun x hx => hw x (by simp [List.mem_of_mem_drop hx])
      have hr2 : Rise (W.drop k) := hr.sub ((List.drop_sublist _ _).trans (List.sublist_cons_self _ _))
      have hn2 : (W.drop k).length ≤ n := by simp at hn ⊢; omega
      have e1 := (edgesS_ok ok n (W.drop k) (buildS f ((w :: W.take k).map List.tail) sts).2 hn2 hw2 hr2).1
      exact ihn (W.drop k) _ sts' hn2 hw2 hr2 hp (ih _ sts sts' g1 g2 g3 (e1.trans hp) h)

theorem buildS_inv : ∀ f, BInv f
  | 0 => fun _ _ _ _ _ h => absurd h (by omega)
  | f + 1 => by
    intro W sts sts' hw hr _ hp h
    obtain ⟨g1, g2, _⟩ := goOn_ok hw hr
    rw [buildS_succ] at hp ⊢
    obtain ⟨k1, k2, k3⟩ := knowS_ok (edgesS (buildS f) (goOn W).length (goOn W) sts).2 (W.head? == some [], (edgesS (buildS f) (goOn W).length (goOn W) sts).1)
    obtain ⟨o1, o2, o3, o4⟩ := edgesS_ok (buildS_ok f) (goOn W).length (goOn W) sts (Nat.le_refl _) g1 g2
    have h1 := edgesS_run (buildS_ok f) (buildS_run f) (goOn W).length (goOn W) sts sts' (Nat.le_refl _) g1 g2 (k1.trans hp)
    refine knowS_inv (edgesS_inv (buildS_ok f) (buildS_inv f) (goOn W).length (goOn W) sts sts' (Nat.le_refl _) g1 g2 (k1.trans hp) h) ⟨o3, fun e he => ⟨o2 e he, ?_⟩⟩
    obtain ⟨x, hx, hh⟩ := o4 e he
    match x, (g1 x hx).2 with
    | c :: s, _ =>
      simp only [List.headD_cons] at hh
      refine ⟨s, ?_⟩
      rw [(h1 e.1).1 e (find_rising o3 e he) s, ← hh]
      exact decide_eq_true hx
end Go.Proofs.YtgcaenckjelijaaDoor
