/-
  Regions as lists: what Set and Edit do to the language of each place; the runs that All tells are told by the places' languages. No conditions beyond those that each lemma names.
-/
import Derived.Test.YtijpienjejfmiaaRg5
namespace Go.Proofs.Ytijpienjejfmiaa
open Go Go.RowKit

/-- A run over a place. -/
def Cv (x : Sp) (p : Int) : Prop := x.a ≤ p ∧ p < x.b

/-- Runs that share no place. -/
def Dis (L : List Sp) : Prop := ∀ x ∈ L, ∀ y ∈ L, ∀ p, Cv x p → Cv y p → x = y

/-- Runs of places from 0 up to b, of some language. -/
def Rn (b : Int) (L : List Sp) : Prop := ∀ x ∈ L, 0 ≤ x.a ∧ x.a < x.b ∧ x.b ≤ b ∧ 0 < x.k ∧ x.k ≤ 1000 ∧ x.k % 2 = 0

theorem mem_overQ {f t : Int} {l : List Sp} {x : Sp} : x ∈ overQ f t l ↔ x ∈ l ∧ x.a < t ∧ f < x.b := by simp [overQ]

theorem mem_insS' {s x : Sp} : ∀ {l : List Sp}, x ∈ insS s l ↔ x = s ∨ x ∈ l
  | [] => by simp [insS]
  | y :: l => by
    unfold insS
    split
    · simp
    · split
      · rename_i h; subst h; simp
      · simp only [List.mem_cons, mem_insS' (l := l)]
        constructor
        · rintro (h | h | h)
          · exact .inr (.inl h)
          · exact .inl h
          · exact .inr (.inr h)
        · rintro (h | h | h)
          · exact .inr (.inl h)
          · exact .inl h
          · exact .inr (.inr h)

theorem mem_putL {f t k : Int} {L : List Sp} {x : Sp} : x ∈ putL f t k L ↔ (x = ⟨f, t, k⟩ ∧ f < t ∧ 0 < k) ∨ x ∈ L := by
  unfold putL
  split
  · rename_i h
    rw [mem_insS']
    constructor
    · rintro (h1 | h1)
      · exact .inl ⟨h1, h⟩
      · exact .inr h1
    · rintro (⟨h1, _⟩ | h1)
      · exact .inl h1
      · exact .inr h1
  · rename_i h
    constructor
    · exact .inr
    · rintro (⟨_, h1⟩ | h1)
      · exact absurd h1 h
      · exact h1

/-- What is left of a run behind a range that is set. -/
def Pc (f t : Int) (s x : Sp) : Prop := (x = ⟨s.a, f, s.k⟩ ∧ s.a < f ∧ 0 < s.k) ∨ (x = ⟨t, s.b, s.k⟩ ∧ t < s.b ∧ 0 < s.k)

theorem mem_cutL {f t : Int} {L : List Sp} {s x : Sp} : x ∈ cutL f t L s ↔ Pc f t s x ∨ (x ∈ L ∧ x ≠ s) := by
  unfold cutL Pc
  rw [mem_putL, mem_putL, mem_remS]
  constructor
  · rintro (h | h | h)
    · exact .inl (.inr h)
    · exact .inl (.inl h)
    · exact .inr h
  · rintro ((h | h) | h)
    · exact .inr (.inl h)
    · exact .inl h
    · exact .inr (.inr h)

theorem Pc.off {f t : Int} {s x : Sp} (h : Pc f t s x) : ¬ (x.a < t ∧ f < x.b) := by
  rcases h with ⟨rfl, _⟩ | ⟨rfl, _⟩ <;> simp only <;> omega

theorem mem_cutAll {f t : Int} {x : Sp} : ∀ (R L : List Sp), (∀ s ∈ R, s.a < t ∧ f < s.b) → (x ∈ cutAll f t R L ↔ (x ∈ L ∧ x ∉ R) ∨ ∃ s ∈ R, Pc f t s x)
  | [], L, _ => by simp [cutAll]
  | s :: R, L, h => by
    have ih := mem_cutAll (x := x) R (cutL f t L s) (fun y hy => h y (by simp [hy]))
    show x ∈ cutAll f t R (cutL f t L s) ↔ _
    rw [ih, mem_cutL]
    constructor
    · rintro (⟨h1 | ⟨h1, h2⟩, h3⟩ | ⟨y, h1, h2⟩)
      · exact .inr ⟨s, by simp, h1⟩
      · exact .inl ⟨h1, by simp [h2, h3]⟩
      · exact .inr ⟨y, by simp [h1], h2⟩
    · rintro (⟨h1, h2⟩ | ⟨y, h1, h2⟩)
      · simp only [List.mem_cons, not_or] at h2
        exact .inl ⟨.inr ⟨h1, h2.1⟩, h2.2⟩
      · rcases List.mem_cons.1 h1 with rfl | h1
        · refine .inl ⟨.inl h2, fun h3 => h2.off (h x (by simp [h3]))⟩
        · exact .inr ⟨y, h1, h2⟩

theorem mem_setL {f t g : Int} {L : List Sp} {x : Sp} : x ∈ setL f t g L ↔ (x = ⟨f, t, g * 2⟩ ∧ f < t ∧ 0 < g) ∨ (x ∈ L ∧ ¬ (x.a < t ∧ f < x.b)) ∨ ∃ s ∈ L, (s.a < t ∧ f < s.b) ∧ Pc f t s x := by
  unfold setL
  rw [mem_putL, mem_cutAll _ _ (fun s hs => (mem_overQ.1 hs).2)]
  constructor
  · rintro (⟨h1, h2, h3⟩ | ⟨h1, h2⟩ | ⟨s, h1, h2⟩)
    · exact .inl ⟨h1, h2, by omega⟩
    · exact .inr (.inl ⟨h1, fun h3 => h2 (mem_overQ.2 ⟨h1, h3⟩)⟩)
    · exact .inr (.inr ⟨s, (mem_overQ.1 h1).1, (mem_overQ.1 h1).2, h2⟩)
  · rintro (⟨h1, h2, h3⟩ | ⟨h1, h2⟩ | ⟨s, h1, h2, h3⟩)
    · exact .inl ⟨h1, h2, by omega⟩
    · exact .inr (.inl ⟨h1, fun h3 => h2 (mem_overQ.1 h3).2⟩)
    · exact .inr (.inr ⟨s, mem_overQ.2 ⟨h1, h2⟩, h3⟩)

/-- What a run over a place becomes. -/
def pcS (f t : Int) (s : Sp) (p : Int) : Sp := if s.a < t ∧ f < s.b then (if p < f then ⟨s.a, f, s.k⟩ else ⟨t, s.b, s.k⟩) else s

theorem set_src {f t g : Int} {L : List Sp} {x : Sp} {p : Int} (hft : f < t) (hx : x ∈ setL f t g L) (hp : Cv x p) : (f ≤ p ∧ p < t ∧ x = ⟨f, t, g * 2⟩ ∧ 0 < g) ∨ (¬ (f ≤ p ∧ p < t) ∧ ∃ s ∈ L, Cv s p ∧ x = pcS f t s p) := by
  unfold Cv at *
  rcases mem_setL.1 hx with ⟨rfl, h1, h2⟩ | ⟨h1, h2⟩ | ⟨s, h1, h2, h3 | h3⟩
  · exact .inl ⟨hp.1, hp.2, rfl, h2⟩
  · refine .inr ⟨by omega, x, h1, hp, ?_⟩
    unfold pcS
    rw [if_neg h2]
  · obtain ⟨rfl, h4, h5⟩ := h3
    simp only at hp
    refine .inr ⟨by omega, s, h1, by omega, ?_⟩
    unfold pcS
    rw [if_pos h2, if_pos hp.2]
  · obtain ⟨rfl, h4, h5⟩ := h3
    simp only at hp
    refine .inr ⟨by omega, s, h1, by omega, ?_⟩
    unfold pcS
    rw [if_pos h2, if_neg (by omega)]

theorem set_dst {f t g : Int} {L : List Sp} {s : Sp} {p : Int} (hs : s ∈ L) (hk : 0 < s.k) (hp : Cv s p) (hn : ¬ (f ≤ p ∧ p < t)) : pcS f t s p ∈ setL f t g L ∧ Cv (pcS f t s p) p ∧ (pcS f t s p).k = s.k := by
  unfold Cv at *
  unfold pcS
  by_cases h1 : s.a < t ∧ f < s.b
  · rw [if_pos h1]
    by_cases h2 : p < f
    · rw [if_pos h2]
      exact ⟨mem_setL.2 (.inr (.inr ⟨s, hs, h1, .inl ⟨rfl, by omega, hk⟩⟩)), ⟨hp.1, h2⟩, rfl⟩
    · rw [if_neg h2]
      exact ⟨mem_setL.2 (.inr (.inr ⟨s, hs, h1, .inr ⟨rfl, by omega, hk⟩⟩)), ⟨by simp only; omega, hp.2⟩, rfl⟩
  · rw [if_neg h1]
    exact ⟨mem_setL.2 (.inr (.inl ⟨hs, h1⟩)), hp, rfl⟩

theorem set_dis {f t g : Int} {L : List Sp} (hft : f < t) (h : Dis L) : Dis (setL f t g L) := fun x hx y hy p hpx hpy => by
  rcases set_src hft hx hpx with ⟨h1, h2, h3, _⟩ | ⟨h1, s, hs, h2, h3⟩
  · rcases set_src hft hy hpy with ⟨_, _, h6, _⟩ | ⟨h4, _⟩
    · rw [h3, h6]
    · exact absurd ⟨h1, h2⟩ h4
  · rcases set_src hft hy hpy with ⟨h4, h5, _⟩ | ⟨_, r, hr, h5, h6⟩
    · exact absurd ⟨h4, h5⟩ h1
    · rw [h3, h6, h s hs r hr p h2 h5]

theorem set_rn {f t g b : Int} {L : List Sp} (hf : 0 ≤ f) (ht : t ≤ b) (hg : g ≤ 500) (h : Rn b L) : Rn b (setL f t g L) := fun x hx => by
  rcases mem_setL.1 hx with ⟨rfl, h1, h2⟩ | ⟨h1, _⟩ | ⟨s, h1, h2, h3 | h3⟩
  · simp only; omega
  · exact h x h1
  · obtain ⟨rfl, h4, h5⟩ := h3
    have := h s h1
    simp only; omega
  · obtain ⟨rfl, h4, h5⟩ := h3
    have := h s h1
    simp only; omega

/-- The language of a place, of runs that share none. -/
theorem at_of {L : List Sp} (hd : Dis L) {x : Sp} (hx : x ∈ L) {p : Int} (hp : Cv x p) : atL L p = x.k / 2 := by
  unfold atL
  unfold Cv at hp
  have hm : x ∈ overQ p (p + 1) L := mem_overQ.2 ⟨hx, by omega, hp.2⟩
  match hO : overQ p (p + 1) L, hm with
  | y :: r, _ =>
    have hy : y ∈ overQ p (p + 1) L := by rw [hO]; simp
    obtain ⟨h1, h2, h3⟩ := mem_overQ.1 hy
    have := hd x hx y h1 p hp ⟨by omega, h3⟩
    rw [this]; rfl

theorem at_zero {L : List Sp} {p : Int} (h : ∀ x ∈ L, ¬ Cv x p) : atL L p = 0 := by
  unfold atL
  have : overQ p (p + 1) L = [] := List.filter_eq_nil_iff.2 fun x hx => by
    have := h x hx
    unfold Cv at this
    simp only [Bool.and_eq_true, decide_eq_true_eq]
    omega
  rw [this]; rfl

theorem at_cases {L : List Sp} (hd : Dis L) (p : Int) : (∃ x ∈ L, Cv x p ∧ atL L p = x.k / 2) ∨ ((∀ x ∈ L, ¬ Cv x p) ∧ atL L p = 0) := by
  by_cases h : ∃ x ∈ L, Cv x p
  · obtain ⟨x, h1, h2⟩ := h
    exact .inl ⟨x, h1, h2, at_of hd h1 h2⟩
  · exact .inr ⟨fun x hx hc => h ⟨x, hx, hc⟩, at_zero fun x hx hc => h ⟨x, hx, hc⟩⟩

theorem set_at {f t g b : Int} {L : List Sp} (hft : f < t) (hg : 0 ≤ g) (hd : Dis L) (hr : Rn b L) (p : Int) : atL (setL f t g L) p = if f ≤ p ∧ p < t then g else atL L p := by
  by_cases h : f ≤ p ∧ p < t
  · rw [if_pos h]
    by_cases h0 : 0 < g
    · rw [at_of (set_dis hft hd) (mem_setL.2 (.inl ⟨rfl, hft, h0⟩)) h]
      show g * 2 / 2 = g
      omega
    · rw [at_zero]
      · omega
      · intro x hx hc
        rcases set_src hft hx hc with ⟨_, _, _, h4⟩ | ⟨h1, _⟩
        · exact h0 h4
        · exact h1 h
  · rw [if_neg h]
    rcases at_cases hd p with ⟨s, hs, hc, he⟩ | ⟨hn, he⟩
    · obtain ⟨h1, h2, h3⟩ := set_dst (g := g) hs (hr s hs).2.2.2.1 hc h
      rw [at_of (set_dis hft hd) h1 h2, h3, he]
    · rw [he, at_zero]
      intro x hx hc
      rcases set_src hft hx hc with ⟨h1, h2, _⟩ | ⟨_, s, hs, h2, _⟩
      · exact h ⟨h1, h2⟩
      · exact hn s hs h2

theorem mem_clipL {A D I : Int} {x : Sp} : ∀ (X L : List Sp), x ∈ clipL A D I X L ↔ x ∈ L ∨ ∃ s ∈ X, (clipI A D I s).2 = true ∧ x = (clipI A D I s).1
  | [], L => by simp [clipL]
  | s :: X, L => by
    have ih := mem_clipL (A := A) (D := D) (I := I) (x := x) X (if (clipI A D I s).2 then insS (clipI A D I s).1 L else L)
    show x ∈ clipL A D I X (if (clipI A D I s).2 then insS (clipI A D I s).1 L else L) ↔ _
    rw [ih]
    by_cases h : (clipI A D I s).2 = true
    · rw [if_pos h, mem_insS']
      constructor
      · rintro ((h1 | h1) | ⟨y, h1, h2⟩)
        · exact .inr ⟨s, by simp, h, h1⟩
        · exact .inl h1
        · exact .inr ⟨y, by simp [h1], h2⟩
      · rintro (h1 | ⟨y, h1, h2, h3⟩)
        · exact .inl (.inr h1)
        · rcases List.mem_cons.1 h1 with rfl | h1
          · exact .inl (.inl h3)
          · exact .inr ⟨y, h1, h2, h3⟩
    · rw [if_neg h]
      constructor
      · rintro (h1 | ⟨y, h1, h2⟩)
        · exact .inl h1
        · exact .inr ⟨y, by simp [h1], h2⟩
      · rintro (h1 | ⟨y, h1, h2, h3⟩)
        · exact .inl h1
        · rcases List.mem_cons.1 h1 with rfl | h1
          · exact absurd h2 h
          · exact .inr ⟨y, h1, h2, h3⟩

/-- Where a place is, behind a change. -/
def plI (A D I q : Int) : Int := if q ≤ A then q else if q < A + D then A + I else q + I - D

theorem pl_eq {A D I q : Int} (h : 0 ≤ q ∧ q ≤ 1099511627776) : placeI A D I q = plI A D I q := by
  have : cutI q = q := by unfold cutI; omega
  unfold placeI plI
  rw [this]

/-- Where a place was. -/
def srcI (A D I p : Int) : Int := if p < A then p else if p < A + I then A else p - I + D

theorem pl_le {A D I q p : Int} (hD : 0 ≤ D) (hI : 0 ≤ I) : plI A D I q ≤ p ↔ q ≤ srcI A D I p := by
  unfold plI srcI
  split
  · split
    · omega
    · split <;> omega
  · split
    · split
      · omega
      · split <;> omega
    · split
      · omega
      · split <;> omega

theorem pl_cv {A D I p : Int} {s : Sp} {k : Int} (hD : 0 ≤ D) (hI : 0 ≤ I) : Cv ⟨plI A D I s.a, plI A D I s.b, k⟩ p ↔ Cv s (srcI A D I p) := by
  unfold Cv
  simp only
  rw [pl_le hD hI, ← Int.not_le, pl_le hD hI, Int.not_le]

theorem mem_evenC {A D I b : Int} {L : List Sp} {x : Sp} (hD : 0 ≤ D) (hb : b ≤ 1099511627776) (h : Rn b L) : x ∈ evenC A D I L ↔ ∃ s ∈ L, x = ⟨plI A D I s.a, plI A D I s.b, s.k⟩ ∧ plI A D I s.a < plI A D I s.b := by
  unfold evenC
  rw [mem_clipL]
  have hc : ∀ s ∈ L, clipI A D I s = if plI A D I s.b ≤ plI A D I s.a then (⟨0, 0, 0⟩, false) else (⟨plI A D I s.a, plI A D I s.b, s.k⟩, true) := fun s hs => by
    have := h s hs
    unfold clipI
    rw [pl_eq (by omega), pl_eq (by omega)]
  constructor
  · rintro (h1 | ⟨s, h1, h2, h3⟩)
    · obtain ⟨s, h2, h3⟩ := List.mem_map.1 h1
      obtain ⟨h4, h5⟩ := mem_remL.1 h2
      have h6 : ¬ (s.a ≤ max A (A + D - 1) ∧ A + 1 ≤ s.b) := fun h7 => h5 (mem_overS.2 ⟨h4, h7⟩)
      have h8 := h s h4
      refine ⟨s, h4, ?_⟩
      rw [← h3]
      by_cases h9 : max (A + 1) (A + D) ≤ s.a
      · have e1 : plI A D I s.a = s.a + (I - D) := by unfold plI; rw [if_neg (by omega), if_neg (by omega)]; omega
        have e2 : plI A D I s.b = s.b + (I - D) := by unfold plI; rw [if_neg (by omega), if_neg (by omega)]; omega
        rw [if_pos h9, e1, e2]
        exact ⟨rfl, by omega⟩
      · have e1 : plI A D I s.a = s.a := by unfold plI; rw [if_pos (by omega)]
        have e2 : plI A D I s.b = s.b := by unfold plI; rw [if_pos (by omega)]
        rw [if_neg h9, e1, e2]
        exact ⟨rfl, by omega⟩
    · obtain ⟨h4, h5⟩ := mem_overS.1 h1
      refine ⟨s, h4, ?_⟩
      rw [hc s h4] at h2 h3
      split at h2
      · cases h2
      · rename_i h6
        rw [if_neg h6] at h3
        exact ⟨h3, by omega⟩
  · rintro ⟨s, h1, h2, h3⟩
    by_cases h4 : s.a ≤ max A (A + D - 1) ∧ A + 1 ≤ s.b
    · refine .inr ⟨s, mem_overS.2 ⟨h1, h4⟩, ?_⟩
      rw [hc s h1, if_neg (by omega)]
      exact ⟨rfl, h2⟩
    · have h8 := h s h1
      refine .inl (List.mem_map.2 ⟨s, mem_remL.2 ⟨h1, fun h5 => h4 (mem_overS.1 h5).2⟩, ?_⟩)
      rw [h2]
      by_cases h9 : max (A + 1) (A + D) ≤ s.a
      · have e1 : plI A D I s.a = s.a + (I - D) := by unfold plI; rw [if_neg (by omega), if_neg (by omega)]; omega
        have e2 : plI A D I s.b = s.b + (I - D) := by unfold plI; rw [if_neg (by omega), if_neg (by omega)]; omega
        rw [if_pos h9, e1, e2]
        rfl
      · have e1 : plI A D I s.a = s.a := by unfold plI; rw [if_pos (by omega)]
        have e2 : plI A D I s.b = s.b := by unfold plI; rw [if_pos (by omega)]
        rw [if_neg h9, e1, e2]

theorem pl_max {A D I q b : Int} (hA : 0 ≤ A) (hD : 0 ≤ D) (hI : 0 ≤ I) (h : 0 ≤ q ∧ q ≤ b) : 0 ≤ plI A D I q ∧ plI A D I q ≤ b + I := by
  unfold plI
  split
  · omega
  · split <;> omega

theorem mem_evenE {A D I b : Int} {L : List Sp} {x : Sp} (hA : 0 ≤ A) (hD : 0 ≤ D) (hI : 0 ≤ I) (hb : b + I ≤ 1099511627776) (h : Rn b L) : x ∈ evenE A D I L ↔ ∃ s ∈ L, x = ⟨plI A D I s.a, plI A D I s.b, s.k⟩ ∧ plI A D I s.a < plI A D I s.b := by
  unfold evenE
  rw [mem_remL, mem_evenC hD (by omega) h]
  refine ⟨And.left, fun hx => ⟨hx, fun h1 => ?_⟩⟩
  obtain ⟨_, _, h2⟩ := mem_overS.1 h1
  obtain ⟨s, h3, h4, h5⟩ := hx
  have := h s h3
  have := pl_max (q := s.b) hA hD hI ⟨by omega, this.2.2.1⟩
  rw [h4] at h2
  simp only at h2
  omega

theorem edit_rn {A D I b : Int} {L : List Sp} (hA : 0 ≤ A) (hD : 0 ≤ D) (hI : 0 ≤ I) (hb : b + I ≤ 1099511627776) (h : Rn b L) : Rn (b + I) (evenE A D I L) := fun x hx => by
  obtain ⟨s, h1, rfl, h2⟩ := (mem_evenE hA hD hI hb h).1 hx
  have h3 := h s h1
  have h4 := pl_max (b := b) (q := s.a) hA hD hI ⟨h3.1, by omega⟩
  have h5 := pl_max (b := b) (q := s.b) hA hD hI ⟨by omega, h3.2.2.1⟩
  exact ⟨h4.1, h2, h5.2, h3.2.2.2⟩

theorem edit_dis {A D I b : Int} {L : List Sp} (hA : 0 ≤ A) (hD : 0 ≤ D) (hI : 0 ≤ I) (hb : b + I ≤ 1099511627776) (h : Rn b L) (hd : Dis L) : Dis (evenE A D I L) := fun x hx y hy p hpx hpy => by
  obtain ⟨s, h1, rfl, _⟩ := (mem_evenE hA hD hI hb h).1 hx
  obtain ⟨r, h2, rfl, _⟩ := (mem_evenE hA hD hI hb h).1 hy
  rw [pl_cv hD hI] at hpx hpy
  rw [hd s h1 r h2 _ hpx hpy]

theorem edit_at {A D I b : Int} {L : List Sp} (hA : 0 ≤ A) (hD : 0 ≤ D) (hI : 0 ≤ I) (hb : b + I ≤ 1099511627776) (h : Rn b L) (hd : Dis L) (p : Int) : atL (evenE A D I L) p = atL L (srcI A D I p) := by
  have hd' := edit_dis (A := A) (D := D) (I := I) hA hD hI hb h hd
  rcases at_cases hd (srcI A D I p) with ⟨s, hs, hc, he⟩ | ⟨hn, he⟩
  · have hc2 : Cv ⟨plI A D I s.a, plI A D I s.b, s.k⟩ p := (pl_cv hD hI).2 hc
    rw [at_of hd' ((mem_evenE hA hD hI hb h).2 ⟨s, hs, rfl, by have := hc2.1; have := hc2.2; simp only at *; omega⟩) hc2, he]
  · rw [he, at_zero]
    intro x hx hc
    obtain ⟨s, h1, rfl, _⟩ := (mem_evenE hA hD hI hb h).1 hx
    exact hn s h1 ((pl_cv hD hI).1 hc)

/-- Runs one behind another, no two of one language side by side. -/
def Can (R : List Sp) : Prop := R.Pairwise (fun x y => x.b ≤ y.a ∧ (x.b = y.a → x.k ≠ y.k)) ∧ ∀ x ∈ R, x.a < x.b

theorem can_uniq : ∀ {R S : List Sp}, Can R → Can S → (∀ p k, (∃ x ∈ R, Cv x p ∧ x.k = k) ↔ ∃ x ∈ S, Cv x p ∧ x.k = k) → R = S
  | [], [], _, _, _ => rfl
  | [], y :: S, _, hS, h => by
    have := hS.2 y (by simp)
    obtain ⟨x, hx, _⟩ := (h y.a y.k).2 ⟨y, by simp, ⟨Int.le_refl _, this⟩, rfl⟩
    cases hx
  | x :: R, [], hR, _, h => by
    have := hR.2 x (by simp)
    obtain ⟨y, hy, _⟩ := (h x.a x.k).1 ⟨x, by simp, ⟨Int.le_refl _, this⟩, rfl⟩
    cases hy
  | x :: R, y :: S, ⟨hR, hR2⟩, ⟨hS, hS2⟩, h => by
    have r1 := List.pairwise_cons.1 hR
    have s1 := List.pairwise_cons.1 hS
    have x0 := hR2 x (by simp)
    have y0 := hS2 y (by simp)
    have fst : ∀ z ∈ S, y.b ≤ z.a := fun z hz => (s1.1 z hz).1
    have frt : ∀ z ∈ R, x.b ≤ z.a := fun z hz => (r1.1 z hz).1
    -- the first place
    have hya : y.a ≤ x.a := by
      obtain ⟨z, hz, h1, _⟩ := (h x.a x.k).1 ⟨x, by simp, ⟨Int.le_refl _, x0⟩, rfl⟩
      unfold Cv at h1
      rcases List.mem_cons.1 hz with rfl | hz
      · exact h1.1
      · have := fst z hz; omega
    have hxa : x.a ≤ y.a := by
      obtain ⟨z, hz, h1, _⟩ := (h y.a y.k).2 ⟨y, by simp, ⟨Int.le_refl _, y0⟩, rfl⟩
      unfold Cv at h1
      rcases List.mem_cons.1 hz with rfl | hz
      · exact h1.1
      · have := frt z hz; omega
    have ha : x.a = y.a := by omega
    have hk : x.k = y.k := by
      obtain ⟨z, hz, h1, h2⟩ := (h x.a x.k).1 ⟨x, by simp, ⟨Int.le_refl _, x0⟩, rfl⟩
      unfold Cv at h1
      rcases List.mem_cons.1 hz with rfl | hz
      · exact h2.symm
      · have := fst z hz; omega
    have hb1 : ¬ x.b < y.b := fun hlt => by
      obtain ⟨z, hz, h1, h2⟩ := (h x.b y.k).2 ⟨y, by simp, ⟨by omega, hlt⟩, rfl⟩
      unfold Cv at h1
      rcases List.mem_cons.1 hz with rfl | hz
      · omega
      · have h3 := r1.1 z hz
        exact h3.2 (by omega) (by omega)
    have hb2 : ¬ y.b < x.b := fun hlt => by
      obtain ⟨z, hz, h1, h2⟩ := (h y.b x.k).1 ⟨x, by simp, ⟨by omega, hlt⟩, rfl⟩
      unfold Cv at h1
      rcases List.mem_cons.1 hz with rfl | hz
      · omega
      · have h3 := s1.1 z hz
        exact h3.2 (by omega) (by omega)
    have hxy : x = y := by cases x; cases y; simp only [Sp.mk.injEq] at *; omega
    subst hxy
    rw [can_uniq ⟨r1.2, fun z hz => hR2 z (by simp [hz])⟩ ⟨s1.2, fun z hz => hS2 z (by simp [hz])⟩ fun p k => ?_]
    constructor
    · rintro ⟨z, hz, h1, h2⟩
      obtain ⟨u, hu, h3, h4⟩ := (h p k).1 ⟨z, by simp [hz], h1, h2⟩
      have := frt z hz
      unfold Cv at *
      rcases List.mem_cons.1 hu with rfl | hu
      · omega
      · exact ⟨u, hu, h3, h4⟩
    · rintro ⟨z, hz, h1, h2⟩
      obtain ⟨u, hu, h3, h4⟩ := (h p k).2 ⟨z, by simp [hz], h1, h2⟩
      have := fst z hz
      unfold Cv at *
      rcases List.mem_cons.1 hu with rfl | hu
      · omega
      · exact ⟨u, hu, h3, h4⟩

/-- A span behind those that are merged. -/
theorem merge_can {R : List Sp} {s : Sp} (hR : Can R) (hs : s.a < s.b) (h : ∀ x ∈ R, x.b ≤ s.a) : Can (mergeS R s) ∧ (∀ x ∈ mergeS R s, x.b ≤ s.b) ∧ ∀ p k, (∃ x ∈ mergeS R s, Cv x p ∧ x.k = k) ↔ (∃ x ∈ R, Cv x p ∧ x.k = k) ∨ (Cv s p ∧ s.k / 2 = k) := by
  obtain ⟨hR, hR2⟩ := hR
  rcases List.eq_nil_or_concat R with rfl | ⟨i, z, rfl⟩
  · rw [mergeS_nil]
    refine ⟨⟨List.pairwise_singleton .., by simp [hs]⟩, by simp, fun p k => ?_⟩
    simp [Cv]
  · rw [List.concat_eq_append] at *
    rw [mergeS_snoc]
    have h1 := List.pairwise_append.1 hR
    have hz := h z (by simp)
    have hz2 := hR2 z (by simp)
    split
    · rename_i he
      refine ⟨⟨List.pairwise_append.2 ⟨h1.1, List.pairwise_singleton .., fun x hx y hy => ?_⟩, ?_⟩, ?_, fun p k => ?_⟩
      · rw [List.mem_singleton.1 hy]
        exact h1.2.2 x hx z (by simp)
      · intro x hx
        rcases List.mem_append.1 hx with hx | hx
        · exact hR2 x (by simp [hx])
        · rw [List.mem_singleton.1 hx]; simp only; omega
      · intro x hx
        rcases List.mem_append.1 hx with hx | hx
        · have := h x (by simp [hx]); omega
        · rw [List.mem_singleton.1 hx]; simp
      · constructor
        · rintro ⟨x, hx, h2, h3⟩
          rcases List.mem_append.1 hx with hx | hx
          · exact .inl ⟨x, by simp [hx], h2, h3⟩
          · rw [List.mem_singleton.1 hx] at h2 h3
            unfold Cv at *
            simp only at h2 h3
            by_cases h4 : p < z.b
            · exact .inl ⟨z, by simp, ⟨h2.1, h4⟩, h3⟩
            · exact .inr ⟨⟨by omega, h2.2⟩, by omega⟩
        · rintro (⟨x, hx, h2, h3⟩ | ⟨h2, h3⟩)
          · rcases List.mem_append.1 hx with hx | hx
            · exact ⟨x, by simp [hx], h2, h3⟩
            · rw [List.mem_singleton.1 hx] at h2 h3
              unfold Cv at h2
              exact ⟨⟨z.a, s.b, z.k⟩, by simp, ⟨h2.1, by simp only; omega⟩, h3⟩
          · unfold Cv at h2
            exact ⟨⟨z.a, s.b, z.k⟩, by simp, ⟨by simp only; omega, h2.2⟩, by simp only; omega⟩
    · rename_i he
      refine ⟨⟨List.pairwise_append.2 ⟨hR, List.pairwise_singleton .., fun x hx y hy => ?_⟩, ?_⟩, ?_, fun p k => ?_⟩
      · rw [List.mem_singleton.1 hy]
        refine ⟨h x hx, fun h2 h3 => ?_⟩
        simp only at h2 h3
        rcases List.mem_append.1 hx with hx | hx
        · have h4 := (h1.2.2 x hx z (by simp)).1
          omega
        · rw [List.mem_singleton.1 hx] at h2 h3
          exact he ⟨h2, h3⟩
      · intro x hx
        rcases List.mem_append.1 hx with hx | hx
        · exact hR2 x hx
        · rw [List.mem_singleton.1 hx]; exact hs
      · intro x hx
        rcases List.mem_append.1 hx with hx | hx
        · have := h x hx; omega
        · rw [List.mem_singleton.1 hx]; simp
      · constructor
        · rintro ⟨x, hx, h2, h3⟩
          rcases List.mem_append.1 hx with hx | hx
          · exact .inl ⟨x, hx, h2, h3⟩
          · rw [List.mem_singleton.1 hx] at h2 h3
            exact .inr ⟨h2, h3⟩
        · rintro (⟨x, hx, h2, h3⟩ | ⟨h2, h3⟩)
          · exact ⟨x, List.mem_append.2 (.inl hx), h2, h3⟩
          · exact ⟨⟨s.a, s.b, s.k / 2⟩, by simp, h2, h3⟩

theorem runs_can : ∀ (L R : List Sp), Can R → (∀ x ∈ L, x.a < x.b) → L.Pairwise (fun x y => x.b ≤ y.a) → (∀ x ∈ R, ∀ y ∈ L, x.b ≤ y.a) → Can (L.foldl mergeS R) ∧ ∀ p k, (∃ x ∈ L.foldl mergeS R, Cv x p ∧ x.k = k) ↔ (∃ x ∈ R, Cv x p ∧ x.k = k) ∨ ∃ s ∈ L, Cv s p ∧ s.k / 2 = k
  | [], R, hR, _, _, _ => ⟨hR, fun p k => by simp⟩
  | s :: L, R, hR, h1, h2, h3 => by
    obtain ⟨m1, m2, m3⟩ := merge_can hR (h1 s (by simp)) fun x hx => h3 x hx s (by simp)
    have h2' := List.pairwise_cons.1 h2
    obtain ⟨i1, i2⟩ := runs_can L (mergeS R s) m1 (fun x hx => h1 x (by simp [hx])) h2'.2 fun x hx y hy => by
      have := m2 x hx
      have := h2'.1 y hy
      omega
    refine ⟨i1, fun p k => ?_⟩
    show (∃ x ∈ L.foldl mergeS (mergeS R s), Cv x p ∧ x.k = k) ↔ _
    rw [i2, m3]
    constructor
    · rintro ((h | ⟨h, g⟩) | ⟨x, hx, h⟩)
      · exact .inl h
      · exact .inr ⟨s, by simp, h, g⟩
      · exact .inr ⟨x, by simp [hx], h⟩
    · rintro (h | ⟨x, hx, h, g⟩)
      · exact .inl (.inl h)
      · rcases List.mem_cons.1 hx with rfl | hx
        · exact .inl (.inr ⟨h, g⟩)
        · exact .inr ⟨x, hx, h, g⟩

/-- Runs in order that share no place lie one behind another. -/
theorem ord_apart {L : List Sp} (ho : Ord L) (hd : Dis L) (hn : ∀ x ∈ L, x.a < x.b) : L.Pairwise (fun x y => x.b ≤ y.a) := by
  refine List.Pairwise.imp_of_mem ?_ ho
  intro x y hx hy hlt
  have h1 := hn x hx
  have h2 := hn y hy
  have h3 : x.a ≤ y.a := by unfold Sp.lt at hlt; omega
  apply Classical.byContradiction
  intro h4
  have h5 := hd x hx y hy y.a ⟨h3, by omega⟩ ⟨Int.le_refl _, h2⟩
  rw [h5] at hlt
  exact Sp.lt_irrefl _ hlt

theorem runsL_can {L : List Sp} (ho : Ord L) (hd : Dis L) (hn : ∀ x ∈ L, x.a < x.b) : Can (runsL L) ∧ ∀ p k, (∃ x ∈ runsL L, Cv x p ∧ x.k = k) ↔ ∃ s ∈ L, Cv s p ∧ s.k / 2 = k := by
  obtain ⟨h1, h2⟩ := runs_can L [] ⟨List.Pairwise.nil, by simp⟩ hn (ord_apart ho hd hn) (by simp)
  refine ⟨h1, fun p k => (h2 p k).trans ?_⟩
  simp

theorem runsL_at {L : List Sp} {b : Int} (ho : Ord L) (hd : Dis L) (hr : Rn b L) : Can (runsL L) ∧ ∀ p k, (∃ x ∈ runsL L, Cv x p ∧ x.k = k) ↔ atL L p = k ∧ 0 < k := by
  obtain ⟨h1, h2⟩ := runsL_can ho hd fun x hx => (hr x hx).2.1
  refine ⟨h1, fun p k => (h2 p k).trans ?_⟩
  constructor
  · rintro ⟨s, hs, h3, h4⟩
    have := hr s hs
    exact ⟨(at_of hd hs h3).trans h4, by omega⟩
  · rintro ⟨h3, h4⟩
    rcases at_cases hd p with ⟨s, hs, hc, he⟩ | ⟨_, he⟩
    · exact ⟨s, hs, hc, by omega⟩
    · omega

/-- No more runs than places. -/
theorem apart_length : ∀ (L : List Sp) (lo b : Int), L.Pairwise (fun x y => x.b ≤ y.a) → (∀ x ∈ L, lo ≤ x.a ∧ x.a < x.b ∧ x.b ≤ b) → lo ≤ b → (L.length : Int) ≤ b - lo
  | [], lo, b, _, _, hl => by simp; omega
  | x :: L, lo, b, h1, h2, hl => by
    have h3 := h2 x (by simp)
    have h4 := apart_length L x.b b (List.pairwise_cons.1 h1).2 (fun y hy => ⟨(List.pairwise_cons.1 h1).1 y hy, (h2 y (by simp [hy])).2⟩) h3.2.2
    simp only [List.length_cons, Int.natCast_add]
    omega

theorem rn_length {L : List Sp} {b : Int} (hb : 0 ≤ b) (ho : Ord L) (hd : Dis L) (hr : Rn b L) : (L.length : Int) ≤ b := by
  have := apart_length L 0 b (ord_apart ho hd fun x hx => (hr x hx).2.1) (fun x hx => ⟨(hr x hx).1, (hr x hx).2.1, (hr x hx).2.2.1⟩) hb
  omega

theorem Rn.ok {L : List Sp} {b : Int} (hb : b ≤ 1099511627776) (h : Rn b L) : RunsOk L := fun x hx => by
  have := h x hx
  exact ⟨⟨by omega, by omega, by omega⟩, by omega, by omega, by omega⟩
theorem Rn.low {L : List Sp} {b : Int} (hb : b ≤ 549755813888) (h : Rn b L) : LowOk L := fun x hx => by
  have := h x hx
  omega
end Go.Proofs.Ytijpienjejfmiaa
