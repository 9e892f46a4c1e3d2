/-
  Endings as lists, and as one text: plain. No byte is 0.
-/
import Derived.Test.YtiiaphgencoijaaStates
namespace Go.Proofs.Ytiiaphgencoijaa

/-- The endings behind a beginning. -/
def suff (W : List Wd) (h : Wd) : List Wd := (W.filter (preB h)).map (List.drop h.length)

def joined (L : List Wd) : Wd := L.flatMap fun s => s ++ [0]

theorem endS_joined (W : List Wd) (h : Wd) : endS W h = joined (suff W h) := by
  have key : ∀ (W : List Wd) (s : Wd), W.foldl (endStep h) s = s ++ joined (suff W h) := by
    intro W
    induction W with
    | nil => intro s; simp [suff, joined]
    | cons x W ih =>
      intro s
      rw [List.foldl_cons, ih]
      unfold endStep suff
      rw [List.filter_cons]
      split
      · simp [joined]
      · rfl
  rw [endS, key]; rfl

theorem cut_zero : ∀ {a b : Wd} {s t : Wd}, (∀ x ∈ a, x ≠ 0) → (∀ x ∈ b, x ≠ 0) → a ++ 0 :: s = b ++ 0 :: t → a = b ∧ s = t
  | [], [], s, t, _, _, h => by simp at h; exact ⟨rfl, h⟩
  | [], y :: b, s, t, _, hb, h => by simp at h; exact absurd h.1.symm (hb y (by simp))
  | x :: a, [], s, t, ha, _, h => by simp at h; exact absurd h.1 (ha x (by simp))
  | x :: a, y :: b, s, t, ha, hb, h => by
    simp only [List.cons_append, List.cons.injEq] at h
    obtain ⟨h1, h2⟩ := cut_zero (fun z hz => ha z (by simp [hz])) (fun z hz => hb z (by simp [hz])) h.2
    exact ⟨by rw [h.1, h1], h2⟩

theorem joined_inj : ∀ {L M : List Wd}, (∀ s ∈ L, ∀ b ∈ s, b ≠ 0) → (∀ s ∈ M, ∀ b ∈ s, b ≠ 0) → joined L = joined M → L = M
  | [], [], _, _, _ => rfl
  | [], m :: M, _, _, h => by have := congrArg List.length h; simp [joined] at this
  | l :: L, [], _, _, h => by have := congrArg List.length h; simp [joined] at this
  | l :: L, m :: M, hl, hm, h => by
    have e : ∀ (x : Wd) (X : List Wd), joined (x :: X) = x ++ 0 :: joined X := by intro x X; simp [joined]
    rw [e, e] at h
    obtain ⟨h1, h2⟩ := cut_zero (hl l (by simp)) (hm m (by simp)) h
    rw [h1, joined_inj (fun s hs => hl s (by simp [hs])) (fun s hs => hm s (by simp [hs])) h2]

theorem mem_suff {W : List Wd} {h s : Wd} : s ∈ suff W h ↔ h ++ s ∈ W := by
  unfold suff
  rw [List.mem_map]
  constructor
  · rintro ⟨x, hx, rfl⟩
    obtain ⟨h1, h2⟩ := List.mem_filter.1 hx
    unfold preB at h2
    rw [Bool.and_eq_true] at h2
    have h3 : x.take h.length = h := by simpa using h2.2
    have : h ++ x.drop h.length = x := by
      conv => lhs; lhs; rw [← h3]
      exact List.take_append_drop _ _
    rw [this]; exact h1
  · intro hm
    refine ⟨h ++ s, List.mem_filter.2 ⟨hm, ?_⟩, by simp⟩
    unfold preB
    simp

theorem suff_rise {W : List Wd} (hr : Rise W) (h : Wd) : Rise (suff W h) := by
  unfold suff Rise
  rw [List.pairwise_map]
  have hf : (W.filter (preB h)).Pairwise (· < ·) := hr.sub List.filter_sublist
  refine List.Pairwise.imp_of_mem ?_ hf
  intro a b ha hb hab
  have cut : ∀ x ∈ W.filter (preB h), x = h ++ x.drop h.length := by
    intro x hx
    have h2 := (List.mem_filter.1 hx).2
    unfold preB at h2
    rw [Bool.and_eq_true] at h2
    have h3 : x.take h.length = h := by simpa using h2.2
    conv => lhs; rw [← List.take_append_drop h.length x, h3]
  rw [cut a ha, cut b hb] at hab
  generalize a.drop h.length = u at hab
  generalize b.drop h.length = v at hab
  clear cut ha hb hf hr
  induction h with
  | nil => exact hab
  | cons c h ih =>
    rcases lt_cons_iff.1 hab with h1 | ⟨_, h1⟩
    · exact absurd h1 (UInt8.lt_irrefl _)
    · exact ih h1
end Go.Proofs.Ytiiaphgencoijaa
