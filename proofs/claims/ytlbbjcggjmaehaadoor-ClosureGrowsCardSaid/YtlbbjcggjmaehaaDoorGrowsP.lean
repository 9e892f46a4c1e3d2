/-
  Layer 13's law ClosureGrows: the plain part: a rule more, never fewer forms. No conditions beyond those that each lemma names.
-/
import Derived.Test.YtlbbjcggjmaehaaDoorDigits
namespace Go.Proofs.YtlbbjcggjmaehaaDoor
open Go Go.RowKit Go.Maps

theorem nodup_sub : ∀ {k l : List Wd}, k.Nodup → (∀ x ∈ k, x ∈ l) → k.length ≤ l.length
  | [], _, _, _ => by simp
  | a :: k, l, hn, hs => by
    have h1 := List.nodup_cons.1 hn
    have ha : a ∈ l := hs a (by simp)
    have h2 := nodup_sub (k := k) (l := l.erase a) h1.2 (fun x hx => by
      have hxl := hs x (by simp [hx])
      refine (List.mem_erase_of_ne (fun e => h1.1 (by rw [← e]; exact hx))).2 hxl)
    rw [List.length_erase_of_mem ha] at h2
    have h3 : 0 < l.length := List.length_pos_of_mem ha
    rw [List.length_cons]; omega

theorem rise_nodup {L : List Wd} (h : Rise L) : L.Nodup := by
  unfold Rise at h
  exact h.imp fun {a b} hab e => by rw [e] at hab; exact List.lt_irrefl _ hab

theorem canon_sub {k l : List Wd} (h : ∀ x ∈ k, x ∈ l) : (canon k).length ≤ (canon l).length :=
  nodup_sub (rise_nodup (canon_rise k)) fun x hx => mem_canon.2 (h x (mem_canon.1 hx))

theorem forms_mono (rs : List Ru) (r : Ru) (e : En) : ∀ x ∈ formsQ rs e, x ∈ formsQ (rs ++ [r]) e := fun x hx => by
  rw [mem_formsQ] at hx ⊢
  rcases hx with h | ⟨r', hr, hf, h⟩ | ⟨p, hp, y, hy, hf, hg, h⟩
  · exact .inl h
  · exact .inr (.inl ⟨r', List.mem_append.2 (.inl hr), hf, h⟩)
  · exact .inr (.inr ⟨p, List.mem_append.2 (.inl hp), y, List.mem_append.2 (.inl hy), hf, hg, h⟩)

theorem all_mono (rs : List Ru) (r : Ru) (es : List En) : (canon (es.flatMap (formsQ rs))).length ≤ (canon (es.flatMap (formsQ (rs ++ [r])))).length :=
  canon_sub fun x hx => by
    obtain ⟨e, he, hx⟩ := List.mem_flatMap.1 hx
    exact List.mem_flatMap.2 ⟨e, he, forms_mono rs r e x hx⟩

theorem word_in {rs : List Ru} {es : List En} {e : En} (he : e ∈ es) : e.word ∈ canon (es.flatMap (formsQ rs)) :=
  mem_canon.2 (List.mem_flatMap.2 ⟨e, he, mem_formsQ.2 (.inl rfl)⟩)

theorem some_in {rs : List Ru} {es : List En} (he : 0 < es.length) : 0 < (canon (es.flatMap (formsQ rs))).length := by
  obtain ⟨e, he⟩ := List.exists_mem_of_length_pos he
  exact List.length_pos_of_mem (word_in (rs := rs) he)

theorem entry_info : (Tryd.prog.info? 25).map (fun i => (i.zero, i.size, i.bytes)) = some (some (.agg #[.string ⟨#[]⟩, .slice none 0 0]), 2, 40) := by kernel_rfl

theorem enCells_snoc (l : List En) (e : En) : enCells (l ++ [e]) = enCells l ++ e.row := by simp [enCells]
theorem enCells_one (l : List En) : ∀ x ∈ enCells l, x.oneCell' = true := by
  intro x hx
  simp only [enCells, List.mem_flatMap] at hx
  obtain ⟨r, _, hx⟩ := hx
  simp only [En.row, List.mem_cons, List.not_mem_nil, or_false] at hx
  rcases hx with rfl | rfl <;> rfl
end Go.Proofs.YtlbbjcggjmaehaaDoor
