/-
  What suggest.Top offers is what the document's answer offers. Conditions: rising words.
-/
import Derived.Test.YtdcdhcgfhapbnaaDoorSgR
namespace Go.Proofs.YtdcdhcgfhapbnaaDoor.Sg
open Go Go.RowKit

theorem offP_off (cs : List Int) (t : Wd) : offP cs t = refOff cs 2 t := by
  unfold offP refOff scoreS
  cases h : codesB t with
  | none => rfl
  | some ct =>
    simp only
    rw [farC_symm ct cs]
    show (if farC cs ct ≤ 2 then [(t, farC cs ct)] else []) = ((if farC cs ct ≤ 2 then some (farC cs ct) else none).map fun d => (t, d)).toList
    split <;> rfl

theorem allP_off (V more : List Wd) (cs : List Int) : allP V more cs = offA (scoreS cs 2 (start0 cs)) (V ++ more) := by
  unfold allP
  rw [offA_append, refOff_all, show more.flatMap (offP cs) = more.flatMap (refOff cs 2) from by rw [show offP cs = refOff cs 2 from funext (offP_off cs)], refOff_all]
  rfl

theorem score_le (cs : List Int) (t : Wd) (d : Nat) (h : scoreS cs 2 (start0 cs) t = some d) : d ≤ 2 := by
  unfold scoreS at h
  split at h
  · cases h
  · split at h
    · cases h; assumption
    · cases h

theorem wordsR_ok {V more : List Wd} (hV : Rise V) : Rise (wordsR V more) ∧ ∀ t, t ∈ wordsR V more ↔ t ∈ V ++ more ∧ t ≠ [] := by
  have key : ∀ (more : List Wd) (L : List Wd), Rise L → Rise (more.foldl (fun L t => if fullW t then insU t L else L) L) ∧ ∀ t, t ∈ more.foldl (fun L t => if fullW t then insU t L else L) L ↔ t ∈ L ∨ (t ∈ more ∧ fullW t = true) := by
    intro more
    induction more with
    | nil => exact fun L h => ⟨h, fun t => by simp⟩
    | cons x more ih =>
      intro L hL
      by_cases hx : fullW x = true
      · obtain ⟨h1, h2⟩ := ih (insU x L) (insU_rise hL)
        rw [List.foldl_cons, if_pos hx]
        refine ⟨h1, fun t => ?_⟩
        rw [h2, mem_insU, List.mem_cons]
        constructor
        · rintro ((h | h) | h)
          · exact .inr ⟨.inl h, by rw [h]; exact hx⟩
          · exact .inl h
          · exact .inr ⟨.inr h.1, h.2⟩
        · rintro (h | ⟨h | h, h'⟩)
          · exact .inl (.inr h)
          · exact .inl (.inl h)
          · exact .inr ⟨h, h'⟩
      · obtain ⟨h1, h2⟩ := ih L hL
        rw [List.foldl_cons, if_neg hx]
        refine ⟨h1, fun t => ?_⟩
        rw [h2, List.mem_cons]
        constructor
        · rintro (h | h)
          · exact .inl h
          · exact .inr ⟨.inr h.1, h.2⟩
        · rintro (h | ⟨h | h, h'⟩)
          · exact .inl h
          · rw [h] at h'; exact absurd h' hx
          · exact .inr ⟨h, h'⟩
  obtain ⟨h1, h2⟩ := key more (V.filter fullW) (hV.filter _)
  refine ⟨h1, fun t => ?_⟩
  have hf : fullW t = true ↔ t ≠ [] := by
    unfold fullW
    cases t <;> simp
  unfold wordsR
  rw [h2, List.mem_filter, List.mem_append, hf]
  constructor
  · rintro (⟨h, h'⟩ | ⟨h, h'⟩)
    · exact ⟨.inl h, h'⟩
    · exact ⟨.inr h, h'⟩
  · rintro ⟨h | h, h'⟩
    · exact .inl ⟨h, h'⟩
    · exact .inr ⟨h, h'⟩

theorem top_eq {V : List Wd} (hV : Rise V) (more : List Wd) (cs : List Int) (K : Int) : topL V more cs K = topR V more cs K := by
  obtain ⟨h1, h2⟩ := wordsR_ok (more := more) hV
  unfold topL topR
  rw [allP_off, refOff_all]
  show (onceO (sortO ((offA (scoreS cs 2 (start0 cs)) (V ++ more)).filter fun o => !o.1.isEmpty))).take _ = _
  rw [tops_eq (sc := scoreS cs 2 (start0 cs)) (score_le cs) (U := V ++ more) (W := wordsR V more) h1 h2 (sortO_le _) (fun x => mem_sortO)]
  rfl

/-- What is answered: the offers, and the error. -/
def ansT (V more : List Wd) (word : Wd) (K : Int) : List Of × Int :=
  match codesB word with
  | none => ([], 1)
  | some cs => if word = [] then ([], 1) else if 24 < cs.length then ([], 7) else (topR V more cs K, 0)

theorem ans_none {V more : List Wd} {word : Wd} {K : Int} (h : codesB word = none ∨ word = []) : ansT V more word K = ([], 1) := by
  unfold ansT
  rcases h with h | h
  · rw [h]
  · cases codesB word with
    | none => rfl
    | some cs => exact if_pos h

def AnsRes (l : List Of) (z : Int) (w : World) (e : Ending) (w' : World) : Prop :=
  ∃ A c, e = .returned (.tuple #[.slice A l.length c, .int .i64 z]) ∧ Sl w' 2 A l.length (rowO l) ∧ w.grownBy w' none

theorem TopRes.ans {V more : List Wd} {word : Wd} {K : Int} {w w' : World} {e : Ending} (hV : Rise V) (h : TopRes V more word K w e w') : AnsRes (ansT V more word K).1 (ansT V more word K).2 w e w' := by
  obtain ⟨hg, ⟨h1, rfl⟩ | ⟨cs, h1, h2, h3, rfl⟩ | ⟨cs, A, c, h1, h2, h3, rfl, h4⟩⟩ := h
  · rw [ans_none h1]
    exact ⟨none, 0, rfl, Sl.nil _ _ _, hg⟩
  · have : ansT V more word K = ([], 7) := by
      unfold ansT
      rw [h1]
      simp only
      rw [if_neg h2, if_pos h3]
    rw [this]
    exact ⟨none, 0, rfl, Sl.nil _ _ _, hg⟩
  · have : ansT V more word K = (topR V more cs K, 0) := by
      unfold ansT
      rw [h1]
      simp only
      rw [if_neg h2, if_neg (by omega)]
    rw [this, ← top_eq hV]
    exact ⟨A, c, rfl, Sl.of_own h4 (rowO_one _), hg⟩

theorem TopRRes.ans {V more : List Wd} {word : Wd} {K : Int} {w w' : World} {e : Ending} (h : TopRRes V more word K w e w') : AnsRes (ansT V more word K).1 (ansT V more word K).2 w e w' := by
  obtain ⟨hg, ⟨h1, rfl⟩ | ⟨cs, h1, h2, h3, rfl⟩ | ⟨cs, A, c, h1, h2, h3, rfl, h4⟩⟩ := h
  · rw [ans_none h1]
    exact ⟨none, 0, rfl, Sl.nil _ _ _, hg⟩
  · have : ansT V more word K = ([], 7) := by
      unfold ansT
      rw [h1]
      simp only
      rw [if_neg h2, if_pos h3]
    rw [this]
    exact ⟨none, 0, rfl, Sl.nil _ _ _, hg⟩
  · have : ansT V more word K = (topR V more cs K, 0) := by
      unfold ansT
      rw [h1]
      simp only
      rw [if_neg h2, if_neg (by omega)]
    rw [this]
    exact ⟨A, c, rfl, h4, hg⟩
end Go.Proofs.YtdcdhcgfhapbnaaDoor.Sg
