/-
  closure.put, the plain part: which rules are kept as prefixes, as suffixes; what is put. No conditions beyond those that each lemma names.
-/
import Derived.Test.YtlbbjcggjmaehaaDoorRForms
import Derived.Test.YtlbbjcggjmaehaaDoorSet
namespace Go.Proofs.YtlbbjcggjmaehaaDoor
open Go Go.RowKit Go.Maps

def isP (e : En) (r : Ru) : Bool := e.flags.contains r.flag && (applyS r e.word).isSome && r.pre && r.cross
def isS (e : En) (r : Ru) : Bool := e.flags.contains r.flag && (applyS r e.word).isSome && !r.pre && r.cross
def oneQ (e : En) (r : Ru) : List Wd := if e.flags.contains r.flag then (applyS r e.word).toList else []
def pairQ (e : En) (p x : Ru) : List Wd := (bothS p x e.word).toList
def formsQ (rules : List Ru) (e : En) : List Wd := [e.word] ++ rules.flatMap (oneQ e) ++ (rules.filter (isP e)).flatMap (fun p => (rules.filter (isS e)).flatMap (pairQ e p))

theorem bothS_some {p x : Ru} {word s : Wd} (h : bothS p x word = some s) : (applyS p word).isSome = true ∧ (applyS x word).isSome = true ∧ p.pre = true ∧ x.pre = false ∧ p.cross = true ∧ x.cross = true := by
  unfold bothS at h
  split at h
  · rename_i hh; exact ⟨hh.1, hh.2.1, hh.2.2.1, hh.2.2.2.1, hh.2.2.2.2.1, hh.2.2.2.2.2.1⟩
  · cases h

theorem mem_formsQ {rules : List Ru} {e : En} {s : Wd} : s ∈ formsQ rules e ↔ s = e.word ∨ (∃ r ∈ rules, e.flags.contains r.flag = true ∧ applyS r e.word = some s) ∨ (∃ p ∈ rules, ∃ x ∈ rules, e.flags.contains p.flag = true ∧ e.flags.contains x.flag = true ∧ bothS p x e.word = some s) := by
  unfold formsQ oneQ pairQ
  simp only [List.mem_append, List.mem_singleton, List.mem_flatMap, List.mem_filter, Option.mem_toList]
  constructor
  · rintro ((h | ⟨r, hr, h⟩) | ⟨p, ⟨hp, hp2⟩, x, ⟨hx, hx2⟩, h⟩)
    · exact .inl h
    · split at h
      · rename_i hf; exact .inr (.inl ⟨r, hr, hf, by simpa using h⟩)
      · simp at h
    · unfold isP at hp2
      unfold isS at hx2
      simp only [Bool.and_eq_true] at hp2 hx2
      exact .inr (.inr ⟨p, hp, x, hx, hp2.1.1.1, hx2.1.1.1, h⟩)
  · rintro (h | ⟨r, hr, hf, h⟩ | ⟨p, hp, x, hx, hf, hg, h⟩)
    · exact .inl (.inl h)
    · refine .inl (.inr ⟨r, hr, ?_⟩)
      rw [if_pos hf, h]; simp
    · have hb := bothS_some h
      refine .inr ⟨p, ⟨hp, ?_⟩, x, ⟨hx, ?_⟩, h⟩
      · unfold isP; rw [hf, hb.1, hb.2.2.1, hb.2.2.2.2.1]; rfl
      · unfold isS; rw [hg, hb.2.1, hb.2.2.2.1, hb.2.2.2.2.2]; rfl

theorem mem_formsR {rules : List Ru} {e : En} {s : Wd} : s ∈ formsR rules e ↔ s = e.word ∨ (∃ r ∈ rules, e.flags.contains r.flag = true ∧ applyS r e.word = some s) ∨ (∃ p ∈ rules, ∃ x ∈ rules, e.flags.contains p.flag = true ∧ e.flags.contains x.flag = true ∧ bothS p x e.word = some s) := by
  unfold formsR oneR
  simp only [List.mem_append, List.mem_singleton, List.mem_flatMap]
  constructor
  · rintro (h | ⟨r, hr, h⟩)
    · exact .inl h
    · split at h
      · rename_i hf
        rcases List.mem_append.1 h with h | h
        · exact .inr (.inl ⟨r, hr, hf, by simpa using h⟩)
        · obtain ⟨x, hx, h⟩ := List.mem_flatMap.1 h
          unfold pairR at h
          split at h
          · rename_i hg
            exact .inr (.inr ⟨r, hr, x, hx, hf, hg, by simpa using h⟩)
          · simp at h
      · simp at h
  · rintro (h | ⟨r, hr, hf, h⟩ | ⟨p, hp, x, hx, hf, hg, h⟩)
    · exact .inl h
    · refine .inr ⟨r, hr, ?_⟩
      rw [if_pos hf, h]; simp
    · refine .inr ⟨p, hp, ?_⟩
      rw [if_pos hf]
      refine List.mem_append.2 (.inr (List.mem_flatMap.2 ⟨x, hx, ?_⟩))
      unfold pairR
      rw [if_pos hg, h]; simp

/-- The same words. -/
theorem forms_same (rules : List Ru) (e : En) (s : Wd) : s ∈ formsQ rules e ↔ s ∈ formsR rules e := by rw [mem_formsQ, mem_formsR]

theorem canon_congr {k l : List Wd} (h : ∀ s, s ∈ k ↔ s ∈ l) : canon k = canon l := rise_unique (canon_rise k) (canon_rise l) fun x => by rw [mem_canon, mem_canon, h]

theorem forms_canon (rules : List Ru) (e : En) : canon (formsQ rules e) = putAll (formsR rules e) := by rw [← canon_putAll]; exact canon_congr (forms_same rules e)

theorem applyS_len {r : Ru} {word s : Wd} (h : applyS r word = some s) : s.length ≤ word.length + r.add.length := by
  unfold applyS at h
  split at h
  · cases h
    unfold applyTo
    split
    · rw [List.length_append, List.length_drop]; omega
    · rw [List.length_append, List.length_take]; omega
  · cases h

theorem bothS_len {p x : Ru} {word s : Wd} (h : bothS p x word = some s) : s.length ≤ p.add.length + word.length + x.add.length := by
  unfold bothS at h
  split at h
  · cases h
    unfold bothTo
    rw [List.length_append, List.length_append, List.length_drop, List.length_take]; omega
  · cases h

theorem rule_info : (Tryd.prog.info? 51).map (fun i => (i.zero, i.size, i.bytes)) = some (some (.agg #[.bool false, .int .i64 0, .bool false, .string ⟨#[]⟩, .string ⟨#[]⟩, .slice none 0 0]), 6, 80) := by kernel_rfl

theorem ruCells_one (l : List Ru) : ∀ x ∈ ruCells l, x.oneCell' = true := by
  intro x hx
  simp only [ruCells, List.mem_flatMap] at hx
  obtain ⟨r, _, hx⟩ := hx
  simp only [Ru.row, List.mem_cons, List.not_mem_nil, or_false] at hx
  rcases hx with rfl | rfl | rfl | rfl | rfl | rfl <;> rfl

theorem ruCells_snoc (l : List Ru) (r : Ru) : ruCells (l ++ [r]) = ruCells l ++ r.row := by simp [ruCells]

theorem rus_own {w : World} {base c : Nat} {A : Option Addr} {P : List Ru} (h : w.ownsRow base 51 6 (.slice A P.length c) P.length (ruCells P)) (hr : ∀ r ∈ P, RuAt w r) : RusAt w A P := ⟨Sl.of_own h (ruCells_one P), hr⟩
end Go.Proofs.YtlbbjcggjmaehaaDoor
