/-
  The automaton as plain lists: numbers in range, edges rising. No Go in it, no conditions beyond those that each lemma names.
-/
import Derived.Test.YtdcdhcgfhapbnaaDoorConv
namespace Go.Proofs.YtdcdhcgfhapbnaaDoor

theorem drop_takeWhile {α : Type} (p : α → Bool) : ∀ W : List α, W.drop (W.takeWhile p).length = W.dropWhile p
  | [] => rfl
  | w :: W => by
    by_cases h : p w = true
    · simp [List.takeWhile_cons, List.dropWhile_cons, h, drop_takeWhile p W]
    · simp [List.takeWhile_cons, List.dropWhile_cons, h]

theorem head_le {v w : Wd} (h : v < w) (hv : v ≠ []) : v.headD 0 ≤ w.headD 0 ∧ w ≠ [] := by
  match v, w with
  | [], _ => exact absurd rfl hv
  | _ :: _, [] => exact absurd h (lt_nil _)
  | c :: v, d :: w =>
    refine ⟨?_, by simp⟩
    rcases lt_cons_iff.1 h with h | ⟨h, _⟩
    · exact UInt8.le_of_lt h
    · exact h ▸ UInt8.le_refl _

theorem rest_gt {w : Wd} {W : List Wd} (hr : Rise (w :: W)) (hw : w ≠ []) : ∀ x ∈ W.dropWhile (headIs (w.headD 0)), w.headD 0 < x.headD 0 := by
  have hsub : (W.dropWhile (headIs (w.headD 0))).Sublist W := List.dropWhile_sublist _
  have hr2 := (List.pairwise_cons.1 hr).2
  have hlt := (List.pairwise_cons.1 hr).1
  generalize hD : W.dropWhile (headIs (w.headD 0)) = D at hsub
  match D with
  | [] => simp
  | d :: D =>
    have hd : headIs (w.headD 0) d = false := by
      have := List.head?_dropWhile_not (headIs (w.headD 0)) W
      rw [hD] at this; simpa using this
    have hwd := hlt d (hsub.mem (by simp))
    have h1 : w.headD 0 < d.headD 0 := by
      match w, d, hw with
      | c :: v, [], _ => exact absurd hwd (lt_nil _)
      | c :: v, e :: u, _ =>
        rcases lt_cons_iff.1 hwd with h | ⟨h, _⟩
        · exact h
        · subst h; simp [headIs] at hd
    intro x hx
    rcases List.mem_cons.1 hx with rfl | hx
    · exact h1
    · have h2 := (List.pairwise_cons.1 (hr2.sublist hsub)).1 x hx
      have hd0 : d ≠ [] := (head_le hwd hw).2
      exact UInt8.lt_of_lt_of_le h1 (head_le h2 hd0).1

/-- A group: what its words are. -/
theorem group_ok {f : Nat} {w : Wd} {W : List Wd} (hw : ∀ x ∈ w :: W, x.length < f + 1 ∧ x ≠ []) (hr : Rise (w :: W)) {k : Nat} (hk : (W.takeWhile (headIs (w.headD 0))).length = k) :
    (∀ x ∈ (w :: W.take k).map List.tail, x.length < f) ∧ Rise ((w :: W.take k).map List.tail) ∧ 0 < f ∧ tot ((w :: W.take k).map List.tail) + 1 + tot (W.drop k) ≤ tot (w :: W) := by
  have hsub : (w :: W.take k).Sublist (w :: W) := List.Sublist.cons_cons _ (List.take_sublist _ _)
  have hg : ∀ x ∈ w :: W.take k, headIs (w.headD 0) x = true := by
    intro x hx
    rcases List.mem_cons.1 hx with rfl | hx
    · have := (hw x (by simp)).2
      match x, this with
      | c :: v, _ => simp [headIs]
    · rw [← hk, take_takeWhile] at hx
      exact List.all_eq_true.1 List.all_takeWhile x hx
  have hne : ∀ x ∈ w :: W.take k, x ≠ [] := fun x hx => (hw x (hsub.mem hx)).2
  have h3 := tot_tails hne
  have h4 : tot (w :: W) = tot (w :: W.take k) + tot (W.drop k) := by
    rw [← tot_append, List.cons_append, List.take_append_drop]
  refine ⟨?_, (hr.sub hsub).tails hg, ?_, ?_⟩
  · intro x hx
    obtain ⟨y, hy, rfl⟩ := List.mem_map.1 hx
    have h1 := (hw y (hsub.mem hy)).1
    have h2 := hne y hy
    match y, h2 with
    | c :: v, _ => simp at h1 ⊢; omega
  · have h1 := hw w (by simp)
    match w, h1 with
    | c :: v, h1 => have := h1.1; simp at this; omega
  · simp only [List.length_cons] at h3; omega

theorem knowS_ok (sts : List DSt) (s : DSt) : sts <+: (knowS sts s).2 ∧ (knowS sts s).1 < (knowS sts s).2.length ∧ (knowS sts s).2[(knowS sts s).1]? = some s := by
  unfold knowS
  split
  · rename_i i h
    rw [List.findIdx?_eq_some_iff_getElem] at h
    obtain ⟨hi, h1, _⟩ := h
    refine ⟨List.prefix_refl _, hi, ?_⟩
    rw [List.getElem?_eq_getElem hi]; simpa using h1
  · exact ⟨List.prefix_append _ _, by simp, by simp⟩

/-- What holds of the edges that are built. -/
def EOk (W : List Wd) (sts : List DSt) (r : List DEdge × List DSt) : Prop :=
  sts <+: r.2 ∧ (∀ e ∈ r.1, e.2 < r.2.length) ∧ r.1.Pairwise (fun a b => a.1 < b.1) ∧ ∀ e ∈ r.1, ∃ w ∈ W, w.headD 0 = e.1

def BOk (f : Nat) : Prop := ∀ (W : List Wd) (sts : List DSt), (∀ w ∈ W, w.length < f) → Rise W → 0 < f → sts <+: (buildS f W sts).2 ∧ (buildS f W sts).1 < (buildS f W sts).2.length

theorem edgesS_ok {f : Nat} (ih : BOk f) : ∀ (n : Nat) (W : List Wd) (sts : List DSt), W.length ≤ n → (∀ w ∈ W, w.length < f + 1 ∧ w ≠ []) → Rise W → EOk W sts (edgesS (buildS f) n W sts) := by
  intro n
  induction n with
  | zero =>
    intro W sts _ _ _
    exact ⟨List.prefix_refl _, by simp [edgesS], by simp [edgesS], by simp [edgesS]⟩
  | succ n ihn =>
    intro W sts hn hw hr
    match W with
    | [] => exact ⟨List.prefix_refl _, by simp [edgesS], by simp [edgesS], by simp [edgesS]⟩
    | w :: W =>
      generalize hk : (W.takeWhile (headIs (w.headD 0))).length = k
      obtain ⟨g1, g2, g3, _⟩ := group_ok hw hr hk
      obtain ⟨b1, b2⟩ := ih _ sts g1 g2 g3
      have hdr : W.drop k = W.dropWhile (headIs (w.headD 0)) := by rw [← hk, drop_takeWhile]
      obtain ⟨e1, e2, e3, e4⟩ := ihn (W.drop k) (buildS f ((w :: W.take k).map List.tail) sts).2 (by simp at hn ⊢; omega) (fun x hx => hw x (by simp [List.mem_of_mem_drop hx])) (hr.sub ((List.drop_sublist _ _).trans (List.sublist_cons_self _ _)))
      have hq : edgesS (buildS f) (n + 1) (w :: W) sts = ((w.headD 0, (buildS f ((w :: W.take k).map List.tail) sts).1) :: (edgesS (buildS f) n (W.drop k) (buildS f ((w :: W.take k).map List.tail) sts).2).1, (edgesS (buildS f) n (W.drop k) (buildS f ((w :: W.take k).map List.tail) sts).2).2) := by
        simp only [edgesS, hk]
      rw [hq]
      refine ⟨b1.trans e1, ?_, ?_, ?_⟩
      · intro e he
        rcases List.mem_cons.1 he with rfl | he
        · exact Nat.lt_of_lt_of_le b2 e1.length_le
        · exact e2 e he
      · refine List.pairwise_cons.2 ⟨fun e he => ?_, e3⟩
        obtain ⟨x, hx, hh⟩ := e4 e he
        rw [hdr] at hx
        rw [← hh]
        exact rest_gt hr (hw w (by simp)).2 x hx
      · intro e he
        rcases List.mem_cons.1 he with rfl | he
        · exact ⟨w, by simp, rfl⟩
        · obtain ⟨x, hx, hh⟩ := e4 e he
          exact ⟨x, by simp [List.mem_of_mem_drop hx], hh⟩

/-- The words behind the one that ends here. -/
def goOn (W : List Wd) : List Wd := if W.head? == some [] then W.tail else W

theorem goOn_ok {f : Nat} {W : List Wd} (hw : ∀ w ∈ W, w.length < f + 1) (hr : Rise W) : (∀ w ∈ goOn W, w.length < f + 1 ∧ w ≠ []) ∧ Rise (goOn W) ∧ tot (goOn W) ≤ tot W := by
  unfold goOn
  cases W with
  | nil => exact ⟨by simp, by simp [Rise], by simp [tot]⟩
  | cons w W =>
    by_cases h : w = []
    · subst h
      simp only [List.head?_cons, beq_self_eq_true, if_true, List.tail_cons]
      exact ⟨fun x hx => ⟨hw x (by simp [hx]), hr.tail_ne x hx⟩, hr.sub (List.sublist_cons_self _ _), by rw [tot_cons]; omega⟩
    · have : ((w :: W).head? == some []) = false := by simpa using h
      rw [this]
      refine ⟨fun x hx => ⟨hw x hx, ?_⟩, hr, Nat.le_refl _⟩
      rcases List.mem_cons.1 hx with rfl | hx
      · exact h
      · exact hr.tail_ne x hx

theorem buildS_succ (f : Nat) (W : List Wd) (sts : List DSt) : buildS (f + 1) W sts = knowS (edgesS (buildS f) (goOn W).length (goOn W) sts).2 (W.head? == some [], (edgesS (buildS f) (goOn W).length (goOn W) sts).1) := rfl

theorem buildS_ok : ∀ f, BOk f
  | 0 => fun _ _ _ _ h => absurd h (by omega)
  | f + 1 => by
    intro W sts hw hr _
    obtain ⟨g1, g2, _⟩ := goOn_ok hw hr
    obtain ⟨e1, _⟩ := edgesS_ok (buildS_ok f) (goOn W).length (goOn W) sts (Nat.le_refl _) g1 g2
    rw [buildS_succ]
    obtain ⟨k1, k2, _⟩ := knowS_ok (edgesS (buildS f) (goOn W).length (goOn W) sts).2 (W.head? == some [], (edgesS (buildS f) (goOn W).length (goOn W) sts).1)
    exact ⟨e1.trans k1, k2⟩

/-- Rising bytes: no more than 256 of them. -/
theorem rising_few {es : List DEdge} (h : es.Pairwise (fun a b => a.1 < b.1)) : es.length ≤ 256 := by
  have key : ∀ (l : List DEdge) (m : Nat), l.Pairwise (fun a b => a.1 < b.1) → (∀ e ∈ l, m ≤ e.1.toNat) → l.length + m ≤ 256 ∨ l = [] := by
    intro l
    induction l with
    | nil => intros; exact .inr rfl
    | cons e l ih =>
      intro m hp hm
      left
      have h1 := List.pairwise_cons.1 hp
      have he := e.1.toNat_lt
      have hm0 := hm e (by simp)
      rcases ih (e.1.toNat + 1) h1.2 (fun x hx => by have := h1.1 x hx; rw [UInt8.lt_iff_toNat_lt] at this; omega) with h | h
      · simp; omega
      · subst h; simp; omega
  rcases key es 0 h (fun _ _ => Nat.zero_le _) with h | h
  · omega
  · subst h; simp
end Go.Proofs.YtdcdhcgfhapbnaaDoor
