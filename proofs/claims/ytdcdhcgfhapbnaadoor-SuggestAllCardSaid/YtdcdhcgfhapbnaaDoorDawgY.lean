/-
  The automaton as plain lists: all that is listed is just the words, rising. No Go in it, no conditions beyond those that each lemma names.
-/
import Derived.Test.YtdcdhcgfhapbnaaDoorDawgZ
import Derived.Test.YtdcdhcgfhapbnaaDoorDawgL
namespace Go.Proofs.YtdcdhcgfhapbnaaDoor

def BAll (f : Nat) : Prop := ∀ (W : List Wd) (sts sts' : List DSt), (∀ w ∈ W, w.length < f) → Rise W → 0 < f → (buildS f W sts).2 <+: sts' → ∀ (k : Nat) (head : Wd) (out : List Wd), (∀ w ∈ W, w.length ≤ k) → out.length + W.length ≤ 100 →
  allS sts' k (buildS f W sts).1 head out = out ++ W.map (head ++ ·)

theorem group_back {w : Wd} {W : List Wd} (hw : ∀ x ∈ w :: W, x ≠ []) {k : Nat} (hk : (W.takeWhile (headIs (w.headD 0))).length = k) (head : Wd) :
    ((w :: W.take k).map List.tail).map ((head ++ [w.headD 0]) ++ ·) = (w :: W.take k).map (head ++ ·) := by
  rw [List.map_map]
  apply List.map_congr_left
  intro x hx
  have h1 : x.head? = some (w.headD 0) := by
    rcases List.mem_cons.1 hx with rfl | hx
    · have := hw x (by simp)
      match x, this with
      | c :: v, _ => rfl
    · rw [← hk, take_takeWhile] at hx
      have := List.all_eq_true.1 List.all_takeWhile x hx
      unfold headIs at this
      simpa only [beq_iff_eq] using this
  match x with
  | [] => simp at h1
  | a :: v =>
    simp only [List.head?_cons, Option.some.injEq] at h1
    rw [← h1]
    simp

theorem edges_all {f : Nat} (ok : BOk f) (ih : BAll f) (k : Nat) (head : Wd) (look : UInt8 → Option Nat) : ∀ (n : Nat) (W : List Wd) (sts sts' : List DSt), W.length ≤ n → (∀ w ∈ W, w.length < f + 1 ∧ w ≠ []) → Rise W → (edgesS (buildS f) n W sts).2 <+: sts' → (∀ w ∈ W, w.length ≤ k + 1) →
    (∀ e ∈ (edgesS (buildS f) n W sts).1, look e.1 = some e.2) → ∀ o : List Wd, o.length + W.length ≤ 100 →
    ((edgesS (buildS f) n W sts).1.map (·.1)).foldl (fun o c => match look c with | some j => allS sts' k j (head ++ [c]) o | none => o) o = o ++ W.map (head ++ ·) := by
  intro n
  induction n with
  | zero =>
    intro W sts sts' hn _ _ _ _ _ o _
    have : W = [] := List.length_eq_zero_iff.1 (by omega)
    subst this
    simp [edgesS]
  | succ n ihn =>
    intro W sts sts' hn hw hr hp hk1 hlook o ho
    match W with
    | [] => simp [edgesS]
    | w :: W =>
      generalize hk : (W.takeWhile (headIs (w.headD 0))).length = g
      obtain ⟨g1, g2, g3, _⟩ := group_ok hw hr hk
      have hq : edgesS (buildS f) (n + 1) (w :: W) sts = ((w.headD 0, (buildS f ((w :: W.take g).map List.tail) sts).1) :: (edgesS (buildS f) n (W.drop g) (buildS f ((w :: W.take g).map List.tail) sts).2).1, (edgesS (buildS f) n (W.drop g) (buildS f ((w :: W.take g).map List.tail) sts).2).2) := by
        simp only [edgesS, hk]
      rw [hq] at hp hlook ⊢
      have hw2 : ∀ x ∈ W.drop g, x.length < f + 1 ∧ x ≠ [] := fun x hx => hw x (by simp [List.mem_of_mem_drop hx])
      have hr2 : Rise (W.drop g) := hr.sub ((List.drop_sublist _ _).trans (List.sublist_cons_self _ _))
      have hn2 : (W.drop g).length ≤ n := by simp at hn ⊢; omega
      have e1 := (edgesS_ok ok n (W.drop g) (buildS f ((w :: W.take g).map List.tail) sts).2 hn2 hw2 hr2).1
      have hsub : (w :: W.take g).Sublist (w :: W) := List.Sublist.cons_cons _ (List.take_sublist _ _)
      have hlen : (w :: W.take g).length + (W.drop g).length = (w :: W).length := by simp; omega
      have h1 := ih ((w :: W.take g).map List.tail) sts sts' g1 g2 g3 (e1.trans hp) k (head ++ [w.headD 0]) o (by
        intro x hx
        obtain ⟨y, hy, rfl⟩ := List.mem_map.1 hx
        have := hk1 y (hsub.mem hy)
        rw [List.length_tail]; omega) (by rw [List.length_map]; omega)
      rw [group_back (fun x hx => (hw x hx).2) hk] at h1
      have h2 := ihn (W.drop g) (buildS f ((w :: W.take g).map List.tail) sts).2 sts' hn2 hw2 hr2 hp (fun x hx => hk1 x (by simp [List.mem_of_mem_drop hx])) (fun e he => hlook e (List.mem_cons_of_mem _ he)) (o ++ (w :: W.take g).map (head ++ ·)) (by rw [List.length_append, List.length_map]; omega)
      have h3 := hlook _ (List.mem_cons_self)
      generalize (w :: W.take g).map List.tail = V at h1 h2 h3 ⊢
      simp only [List.map_cons, List.foldl_cons]
      rw [h3]
      show List.foldl _ (allS sts' k (buildS f V sts).1 (head ++ [w.headD 0]) o) _ = _
      rw [h1, h2, ← List.map_cons, List.append_assoc, ← List.map_append, List.cons_append, List.take_append_drop, List.map_cons]

theorem find_rising {es : List DEdge} (h : es.Pairwise (fun a b => a.1 < b.1)) : ∀ e ∈ es, es.find? (fun x => x.1 == e.1) = some e := by
  induction es with
  | nil => simp
  | cons x es ih =>
    intro e he
    have h1 := List.pairwise_cons.1 h
    rcases List.mem_cons.1 he with rfl | he
    · simp
    · have hne : (x.1 == e.1) = false := beq_eq_false_iff_ne.2 (fun hh => UInt8.lt_irrefl _ (hh ▸ h1.1 e he))
      rw [List.find?_cons, hne]
      exact ih h1.2 e he

theorem goOn_map {W : List Wd} (head : Wd) (out : List Wd) : (if (W.head? == some []) = true then out ++ [head] else out) ++ (goOn W).map (head ++ ·) = out ++ W.map (head ++ ·) := by
  unfold goOn
  split
  · rename_i h
    cases W with
    | nil => simp at h
    | cons w W => simp at h; subst h; simp
  · rfl

theorem buildS_all : ∀ f, BAll f
  | 0 => fun _ _ _ _ _ h => absurd h (by omega)
  | f + 1 => by
    intro W sts sts' hw hr _ hp k head out hk hout
    obtain ⟨g1, g2, _⟩ := goOn_ok hw hr
    rw [buildS_succ] at hp ⊢
    obtain ⟨k1, k2, k3⟩ := knowS_ok (edgesS (buildS f) (goOn W).length (goOn W) sts).2 (W.head? == some [], (edgesS (buildS f) (goOn W).length (goOn W) sts).1)
    have hrise := (edgesS_ok (buildS_ok f) (goOn W).length (goOn W) sts (Nat.le_refl _) g1 g2).2.2.1
    have h2 := stAt_in (prefix_get hp k3)
    have hgl : (if (W.head? == some []) = true then out ++ [head] else out).length + (goOn W).length = out.length + W.length := by
      have := congrArg List.length (goOn_map (W := W) head out)
      simpa using this
    have hmem : ∀ x ∈ goOn W, x ∈ W := by
      intro x hx
      match x with
      | [] => exact absurd rfl (g1 _ hx).2
      | c :: s => exact (goOn_mem c s).1 hx
    cases k with
    | zero =>
      have h0 : goOn W = [] := by
        cases hg : goOn W with
        | nil => rfl
        | cons x L =>
          have hx : x ∈ goOn W := by rw [hg]; simp
          have h3 := hk x (hmem x hx)
          exact absurd (List.length_eq_zero_iff.1 (by omega)) (g1 x hx).2
      have h4 := goOn_map (W := W) head out
      rw [h0, List.map_nil, List.append_nil] at h4
      unfold allS
      rw [h2]
      exact h4
    | succ k =>
      unfold allS
      rw [h2]
      simp only
      rw [if_neg (by omega), ← goOn_map (W := W) head out]
      refine edges_all (buildS_ok f) (buildS_all f) k head _ (goOn W).length (goOn W) sts sts' (Nat.le_refl _) g1 g2 (k1.trans hp) (fun x hx => hk x (hmem x hx)) (fun e he => ?_) _ (by omega)
      unfold nextS
      rw [h2, find_rising hrise e he]; rfl
end Go.Proofs.YtdcdhcgfhapbnaaDoor
