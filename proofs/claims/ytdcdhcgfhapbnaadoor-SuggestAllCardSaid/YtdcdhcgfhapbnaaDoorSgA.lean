/-
  Offers in order, each once: told by their members; three passes over a rising list. No conditions beyond those that each lemma names.
-/
import Derived.Test.YtdcdhcgfhapbnaaDoorConv
import Derived.Lib.Small
import Derived.Lib.Bytealg
namespace Go.Proofs.YtdcdhcgfhapbnaaDoor.Sg
open Go

/-! ### Offers in order -/
abbrev Of := Wd × Nat
def ofLt (x y : Of) : Prop := x.2 < y.2 ∨ x.2 = y.2 ∧ x.1 < y.1

theorem wd_tri (a b : Wd) : a < b ∨ a = b ∨ b < a := by
  by_cases h1 : a < b
  · exact .inl h1
  · by_cases h2 : b < a
    · exact .inr (.inr h2)
    · exact .inr (.inl (List.le_antisymm h2 h1))

theorem ofLt_irrefl (x : Of) : ¬ ofLt x x := by
  rintro (h | ⟨_, h⟩)
  · exact Nat.lt_irrefl _ h
  · exact List.lt_irrefl _ h
theorem ofLt_trans {x y z : Of} (h : ofLt x y) (g : ofLt y z) : ofLt x z := by
  rcases h with h | ⟨h1, h2⟩
  · rcases g with g | ⟨g1, _⟩
    · exact .inl (by omega)
    · exact .inl (by omega)
  · rcases g with g | ⟨g1, g2⟩
    · exact .inl (by omega)
    · exact .inr ⟨by omega, List.lt_trans h2 g2⟩
theorem ofLt_tri (x y : Of) : ofLt x y ∨ x = y ∨ ofLt y x := by
  obtain ⟨a, m⟩ := x
  obtain ⟨b, n⟩ := y
  rcases Nat.lt_trichotomy m n with h | h | h
  · exact .inl (.inl h)
  · subst h
    rcases wd_tri a b with h | h | h
    · exact .inl (.inr ⟨rfl, h⟩)
    · exact .inr (.inl (by rw [h]))
    · exact .inr (.inr (.inr ⟨rfl, h⟩))
  · exact .inr (.inr (.inl h))

/-- A list in order, each once, is told by its members. -/
theorem of_unique : ∀ {l m : List Of}, l.Pairwise ofLt → m.Pairwise ofLt → (∀ x, x ∈ l ↔ x ∈ m) → l = m
  | [], [], _, _, _ => rfl
  | [], y :: m, _, _, h => absurd ((h y).2 (by simp)) List.not_mem_nil
  | x :: l, [], _, _, h => absurd ((h x).1 (by simp)) List.not_mem_nil
  | x :: l, y :: m, hl, hm, h => by
    have h1 := List.pairwise_cons.1 hl
    have h2 := List.pairwise_cons.1 hm
    have hxy : x = y := by
      rcases List.mem_cons.1 ((h x).1 (by simp)) with e | e
      · exact e
      · rcases List.mem_cons.1 ((h y).2 (by simp)) with e' | e'
        · exact e'.symm
        · exact absurd (ofLt_trans (h2.1 x e) (h1.1 y e')) (ofLt_irrefl _)
    subst hxy
    rw [of_unique h1.2 h2.2 fun z => ?_]
    constructor
    · intro hz
      rcases List.mem_cons.1 ((h z).1 (by simp [hz])) with e | e
      · subst e; exact absurd (h1.1 z hz) (ofLt_irrefl _)
      · exact e
    · intro hz
      rcases List.mem_cons.1 ((h z).2 (by simp [hz])) with e | e
      · subst e; exact absurd (h2.1 z hz) (ofLt_irrefl _)
      · exact e

/-- Without what is there twice, side by side. -/
def onceO : List Of → List Of
  | [] => []
  | [x] => [x]
  | x :: y :: l => if x = y then onceO (y :: l) else x :: onceO (y :: l)

def ofLe (x y : Of) : Prop := ofLt x y ∨ x = y

theorem mem_onceO {z : Of} : ∀ l : List Of, z ∈ onceO l ↔ z ∈ l
  | [] => Iff.rfl
  | [x] => Iff.rfl
  | x :: y :: l => by
    have ih := mem_onceO (z := z) (y :: l)
    unfold onceO
    split
    · rename_i h
      rw [ih, h]
      simp
    · rw [List.mem_cons, ih, List.mem_cons (a := z) (b := x)]

theorem onceO_lt : ∀ l : List Of, l.Pairwise ofLe → (onceO l).Pairwise ofLt
  | [], _ => List.Pairwise.nil
  | [x], _ => List.pairwise_singleton ..
  | x :: y :: l, h => by
    have h1 := List.pairwise_cons.1 h
    have ih := onceO_lt (y :: l) h1.2
    unfold onceO
    split
    · exact ih
    · rename_i hne
      refine List.pairwise_cons.2 ⟨fun z hz => ?_, ih⟩
      have hz' := (mem_onceO (y :: l)).1 hz
      have hxy : ofLt x y := by
        rcases h1.1 y (by simp) with e | e
        · exact e
        · exact absurd e hne
      rcases List.mem_cons.1 hz' with e | e
      · rw [e]; exact hxy
      · rcases (List.pairwise_cons.1 h1.2).1 z e with e' | e'
        · exact ofLt_trans hxy e'
        · rw [← e']; exact hxy

/-- How two offers stand. -/
def cmpO (x y : Of) : Int := if Lib.compareInt (x.2 : Int) (y.2 : Int) ≠ 0 then Lib.compareInt (x.2 : Int) (y.2 : Int) else Lib.compareBytes x.1 y.1

theorem compareBytes_lt : ∀ (a b : Wd), Lib.compareBytes a b = if a < b then -1 else if b < a then 1 else 0
  | [], [] => rfl
  | [], b :: ys => by
    show (-1 : Int) = _
    rw [if_pos (by exact List.nil_lt_cons b ys)]
  | a :: xs, [] => by
    show (1 : Int) = _
    rw [if_neg (by intro h; cases h), if_pos (by exact List.nil_lt_cons a xs)]
  | a :: xs, b :: ys => by
    have ih := compareBytes_lt xs ys
    show (if a < b then -1 else if b < a then 1 else Lib.compareBytes xs ys) = _
    by_cases h1 : a < b
    · rw [if_pos h1, if_pos (List.cons_lt_cons_iff.2 (.inl h1))]
    · rw [if_neg h1]
      by_cases h2 : b < a
      · rw [if_pos h2, if_neg, if_pos (List.cons_lt_cons_iff.2 (.inl h2))]
        intro h
        rcases List.cons_lt_cons_iff.1 h with h | ⟨h, _⟩
        · exact h1 h
        · subst h; exact h1 h2
      · have e : a = b := UInt8.le_antisymm (UInt8.not_lt.1 h2) (UInt8.not_lt.1 h1)
        subst e
        rw [if_neg h2, ih]
        have e1 : a :: xs < a :: ys ↔ xs < ys := by
          rw [List.cons_lt_cons_iff]
          exact ⟨fun h => by rcases h with h | ⟨_, h⟩; exact absurd h h1; exact h, fun h => .inr ⟨rfl, h⟩⟩
        have e2 : a :: ys < a :: xs ↔ ys < xs := by
          rw [List.cons_lt_cons_iff]
          exact ⟨fun h => by rcases h with h | ⟨_, h⟩; exact absurd h h1; exact h, fun h => .inr ⟨rfl, h⟩⟩
        simp only [e1, e2]

theorem cmpO_cases (x y : Of) : (cmpO x y = -1 ∧ ofLt x y) ∨ (cmpO x y = 0 ∧ x = y) ∨ (cmpO x y = 1 ∧ ofLt y x) := by
  obtain ⟨a, m⟩ := x
  obtain ⟨b, n⟩ := y
  unfold cmpO Lib.compareInt
  simp only
  rcases Nat.lt_trichotomy m n with h | h | h
  · refine .inl ⟨?_, .inl h⟩
    rw [if_pos (by omega : (m : Int) < (n : Int))]
    exact if_pos (by decide)
  · subst h
    simp only [Int.lt_irrefl, if_false, gt_iff_lt, ne_eq, not_true_eq_false]
    rw [compareBytes_lt]
    rcases wd_tri a b with h | h | h
    · exact .inl ⟨by rw [if_pos h], .inr ⟨rfl, h⟩⟩
    · subst h
      exact .inr (.inl ⟨by rw [if_neg (List.lt_irrefl _), if_neg (List.lt_irrefl _)], rfl⟩)
    · refine .inr (.inr ⟨?_, .inr ⟨rfl, h⟩⟩)
      rw [if_neg, if_pos h]
      exact fun h2 => List.lt_irrefl _ (List.lt_trans h h2)
  · refine .inr (.inr ⟨?_, .inl h⟩)
    rw [if_neg (by omega : ¬ (m : Int) < (n : Int)), if_pos (by omega : (m : Int) > (n : Int))]
    exact if_pos (by decide)

/-- Offers of words, by a score. -/
def offA (sc : Wd → Option Nat) (W : List Wd) : List Of := W.filterMap fun t => (sc t).map fun d => (t, d)

theorem mem_offA {sc : Wd → Option Nat} {W : List Wd} {x : Of} : x ∈ offA sc W ↔ x.1 ∈ W ∧ sc x.1 = some x.2 := by
  unfold offA
  rw [List.mem_filterMap]
  constructor
  · rintro ⟨t, h1, h2⟩
    obtain ⟨d, h3, rfl⟩ := Option.map_eq_some_iff.1 h2
    exact ⟨h1, h3⟩
  · rintro ⟨h1, h2⟩
    exact ⟨x.1, h1, by rw [h2]; rfl⟩

theorem offA_append (sc : Wd → Option Nat) (V W : List Wd) : offA sc (V ++ W) = offA sc V ++ offA sc W := List.filterMap_append ..

theorem offA_rise {sc : Wd → Option Nat} {W : List Wd} (h : W.Pairwise (· < ·)) : (offA sc W).Pairwise fun x y => x.1 < y.1 := by
  unfold offA
  rw [List.pairwise_filterMap]
  refine h.imp ?_
  intro a b hab x hx y hy
  obtain ⟨d, _, rfl⟩ := Option.map_eq_some_iff.1 hx
  obtain ⟨e, _, rfl⟩ := Option.map_eq_some_iff.1 hy
  exact hab

/-- Three passes. -/
def passes (m : List Of) : List Of := m.filter (fun x => x.2 == 0) ++ m.filter (fun x => x.2 == 1) ++ m.filter (fun x => x.2 == 2)

theorem passes_ok {sc : Wd → Option Nat} (hsc : ∀ t d, sc t = some d → d ≤ 2) {W : List Wd} (h : W.Pairwise (· < ·)) : (passes (offA sc W)).Pairwise ofLt ∧ ∀ x, x ∈ passes (offA sc W) ↔ x ∈ offA sc W := by
  have hr := offA_rise (sc := sc) h
  constructor
  · unfold passes
    have one : ∀ i : Nat, ((offA sc W).filter (fun x => x.2 == i)).Pairwise ofLt := fun i => by
      refine List.Pairwise.imp_of_mem ?_ (hr.filter _)
      intro a b ha hb hab
      have h1 := (List.mem_filter.1 ha).2
      have h2 := (List.mem_filter.1 hb).2
      rw [beq_iff_eq] at h1 h2
      exact .inr ⟨by rw [h1, h2], hab⟩
    have cross : ∀ i j : Nat, i < j → ∀ a ∈ (offA sc W).filter (fun x => x.2 == i), ∀ b ∈ (offA sc W).filter (fun x => x.2 == j), ofLt a b := fun i j hij a ha b hb => by
      have h1 := (List.mem_filter.1 ha).2
      have h2 := (List.mem_filter.1 hb).2
      rw [beq_iff_eq] at h1 h2
      exact .inl (by omega)
    refine List.pairwise_append.2 ⟨List.pairwise_append.2 ⟨one 0, one 1, cross 0 1 (by decide)⟩, one 2, fun a ha b hb => ?_⟩
    rcases List.mem_append.1 ha with ha | ha
    · exact cross 0 2 (by decide) a ha b hb
    · exact cross 1 2 (by decide) a ha b hb
  · intro x
    unfold passes
    rw [List.mem_append, List.mem_append, List.mem_filter, List.mem_filter, List.mem_filter]
    constructor
    · rintro ((h1 | h1) | h1) <;> exact h1.1
    · intro hx
      have h2 := hsc _ _ (mem_offA.1 hx).2
      have h3 : x.2 = 0 ∨ x.2 = 1 ∨ x.2 = 2 := by omega
      rcases h3 with h3 | h3 | h3
      · exact .inl (.inl ⟨hx, by rw [h3]; rfl⟩)
      · exact .inl (.inr ⟨hx, by rw [h3]; rfl⟩)
      · exact .inr ⟨hx, by rw [h3]; rfl⟩

/-- In order, each once: whatever is in order with the same members. -/
theorem tops_eq {sc : Wd → Option Nat} (hsc : ∀ t d, sc t = some d → d ≤ 2) {U W : List Wd} (hW : W.Pairwise (· < ·)) (hm : ∀ t, t ∈ W ↔ t ∈ U ∧ t ≠ []) {l : List Of} (hl : l.Pairwise ofLe) (hp : ∀ x, x ∈ l ↔ x ∈ (offA sc U).filter (fun o => !o.1.isEmpty)) : onceO l = passes (offA sc W) := by
  obtain ⟨h1, h2⟩ := passes_ok hsc hW
  refine of_unique (onceO_lt _ hl) h1 fun x => ?_
  rw [mem_onceO, hp, h2, List.mem_filter, mem_offA, mem_offA, hm]
  constructor
  · rintro ⟨⟨h3, h4⟩, h5⟩
    refine ⟨⟨h3, fun e => ?_⟩, h4⟩
    rw [e] at h5
    cases h5
  · rintro ⟨⟨h3, h4⟩, h5⟩
    refine ⟨⟨h3, h5⟩, ?_⟩
    cases hx : x.1 with
    | nil => exact absurd hx h4
    | cons a b => rfl
end Go.Proofs.YtdcdhcgfhapbnaaDoor.Sg
