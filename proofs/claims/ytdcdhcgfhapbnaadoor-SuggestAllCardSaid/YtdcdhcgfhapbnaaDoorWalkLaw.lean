/-
  The walk through an automaton, as plain lists: it offers the words that are near enough, and follows no byte without hope. No conditions beyond those that each lemma names.
-/
import Derived.Test.YtdcdhcgfhapbnaaDoorWalkD
import Derived.Test.YtdcdhcgfhapbnaaDoorRefOneP
import Derived.Test.YtdcdhcgfhapbnaaDoorDawgUn
namespace Go.Proofs.YtdcdhcgfhapbnaaDoor
open Go Go.Lib

/-- The words that a state accepts, in order. -/
def langS (sts : List DSt) : Nat → Nat → List Wd
  | 0, _ => []
  | f + 1, i => (if (stAt sts (i : Int)).1 = true then [[]] else []) ++ (stAt sts (i : Int)).2.flatMap fun e => (langS sts f e.2).map (e.1 :: ·)

/-- How far a text is, from a state of the rows on; none: too far, or no text. -/
def scoreS (codes : List Int) (most : Nat) (st : RowSt) (s : Wd) : Option Nat :=
  match codesB s with
  | none => none
  | some cs => if endC codes (runC codes st cs) ≤ most then some (endC codes (runC codes st cs)) else none

theorem score_bad {codes : List Int} {most : Nat} {st : RowSt} {s : Wd} (h : codesB s = none) : scoreS codes most st s = none := by unfold scoreS; rw [h]

theorem score_lost {codes : List Int} {most : Nat} {st : RowSt} (h : Lost codes most st) (s : Wd) : scoreS codes most st s = none := by
  unfold scoreS
  split
  · rfl
  · rw [if_neg]
    have := h.run (cs := by assumption)
    omega

theorem score_unit {codes : List Int} {most : Nat} {st : RowSt} {s : Wd} (hs : s ≠ []) (h : 0 ≤ codeB s) (hl : (decB s).2 = s.length) (t : Wd) : scoreS codes most st (s ++ t) = scoreS codes most (stepC codes st (codeB s)) t := by
  unfold scoreS
  rw [codesB_unit hs h hl t]
  cases codesB t with
  | none => rfl
  | some cs => rfl

/-- What a walk offers behind a word. -/
def offS (sts : List DSt) (codes : List Int) (most fuel state : Nat) (st : RowSt) (pend word : Wd) : List (Wd × Nat) :=
  (langS sts fuel state).filterMap fun t => (scoreS codes most st (pend ++ t)).map fun d => (word ++ t, d)

/-- What is pending: nothing, or the beginning of a unit. -/
def PendOk (word : Wd) (part : Nat) : Prop := part ≤ word.length ∧ (part = 0 ∨ (codeB (word.drop (word.length - part)) < 0 ∧ fullB (word.drop (word.length - part)) = false))

theorem drop_snoc {word : Wd} {part : Nat} (h : part ≤ word.length) (c : UInt8) : (word ++ [c]).drop (word.length - part) = word.drop (word.length - part) ++ [c] := by
  rw [List.drop_append_of_le_length (by omega)]

theorem drop_len {word : Wd} {part : Nat} (h : part ≤ word.length) : (word.drop (word.length - part)).length = part := by
  rw [List.length_drop]; omega

/-- A unit that is whole with one byte more takes all of it. -/
theorem unit_all {word : Wd} {part : Nat} (h : PendOk word part) (c : UInt8) (hc : 0 ≤ codeB (word.drop (word.length - part) ++ [c])) : (decB (word.drop (word.length - part) ++ [c])).2 = (word.drop (word.length - part) ++ [c]).length := by
  generalize hp : word.drop (word.length - part) = p at *
  have hu := unit_app (s := p ++ [c]) (by simp) [] hc
  have hl : (p ++ [c]).length = p.length + 1 := by simp
  rcases Nat.lt_or_ge p.length (decB (p ++ [c])).2 with h1 | h1
  · omega
  · rcases h.2 with h0 | ⟨h0, _⟩
    · have : p.length = 0 := by rw [← hp, drop_len h.1, h0]
      omega
    · rw [hp] at h0
      have hp0 : p ≠ [] := by
        intro e
        subst e
        have : ([] : Wd).length = 0 := rfl
        omega
      have := unit_of_app hp0 [c] hc h1
      rw [codeB_neg, this] at h0
      exact absurd h0 (codeB_pos hc).1

theorem fold_l {α : Type} (step : Fi → α → Fi) (out : α → List (Wd × Nat)) (P : α → Prop) (h : ∀ g e, P e → (step g e).l = g.l ++ out e) : ∀ (es : List α) (g : Fi), (∀ e ∈ es, P e) → (es.foldl step g).l = g.l ++ es.flatMap out
  | [], g, _ => by simp
  | e :: es, g, he => by
    rw [List.foldl_cons, fold_l step out P h es _ (fun x hx => he x (by simp [hx])), h g e (he e (by simp))]
    simp

theorem filterMap_nil {α β : Type} {f : α → Option β} : ∀ {l : List α}, (∀ x ∈ l, f x = none) → l.filterMap f = []
  | [], _ => rfl
  | a :: l, h => by rw [List.filterMap_cons_none (h a (by simp)), filterMap_nil (fun x hx => h x (by simp [hx]))]

theorem off_succ (sts : List DSt) (codes : List Int) (most fuel state : Nat) (st : RowSt) (pend word : Wd) : offS sts codes most (fuel + 1) state st pend word =
    ((if (stAt sts (state : Int)).1 = true then [[]] else []).filterMap fun t => (scoreS codes most st (pend ++ t)).map fun d => (word ++ t, d)) ++
      (stAt sts (state : Int)).2.flatMap fun e => (langS sts fuel e.2).filterMap fun t => (scoreS codes most st ((pend ++ [e.1]) ++ t)).map fun d => ((word ++ [e.1]) ++ t, d) := by
  unfold offS
  conv => lhs; unfold langS
  rw [List.filterMap_append]
  congr 1
  rw [List.filterMap_flatMap]
  congr 1
  funext e
  rw [List.filterMap_map]
  congr 1
  funext t
  simp

/-- What onS offers. -/
theorem onS_off (sts : List DSt) (codes : List Int) (most : Nat) : ∀ (fuel state part : Nat) (last : Option (List Nat)) (was : List Nat) (before : Int) (word : Wd) (f : Fi), PendOk word part →
    (onS sts codes most fuel state part last was before word f).l = f.l ++ offS sts codes most fuel state (last, was, before) (word.drop (word.length - part)) word
  | 0, state, part, last, was, before, word, f, _ => by
    show f.l = _
    unfold offS langS
    simp
  | fuel + 1, state, part, last, was, before, word, f, hp => by
    rw [onS_succ, off_succ]
    have hb : (beginS sts codes most state part was word f).l = f.l ++ ((if (stAt sts (state : Int)).1 = true then [[]] else []).filterMap fun t => (scoreS codes most (last, was, before) (word.drop (word.length - part) ++ t)).map fun d => (word ++ t, d)) := by
      unfold beginS
      cases hf : (stAt sts (state : Int)).1
      · simp
      · simp only [if_true, List.filterMap_cons, List.append_nil, List.filterMap_nil]
        rcases hp.2 with h0 | ⟨h0, h1⟩
        · have hd : word.drop (word.length - part) = [] := by rw [h0]; simp
          rw [hd]
          have hs : scoreS codes most (last, was, before) [] = if was.getD codes.length 0 ≤ most then some (was.getD codes.length 0) else none := rfl
          rw [hs]
          generalize was.getD codes.length 0 = d at hs ⊢
          by_cases hm : d ≤ most
          · simp [h0, hm]
          · simp [hm]
        · have hne : word.drop (word.length - part) ≠ [] := by
            intro e
            rw [e] at h0
            exact absurd h0 (by decide)
          rw [score_bad (codesB_bad hne h0)]
          have hp0 : ¬ part = 0 := by
            intro e
            rw [e] at hne; simp at hne
          simp [hp0]
    have hstep : ∀ (g : Fi) (e : DEdge), (edgeS sts codes most fuel part last was before word g e).l = g.l ++ ((langS sts fuel e.2).filterMap fun t => (scoreS codes most (last, was, before) ((word.drop (word.length - part) ++ [e.1]) ++ t)).map fun d => ((word ++ [e.1]) ++ t, d)) := by
      intro g e
      unfold edgeS
      simp only [drop_snoc hp.1]
      generalize hs : word.drop (word.length - part) ++ [e.1] = s
      have hs0 : s ≠ [] := by rw [← hs]; simp
      have hl1 : (word ++ [e.1]).length = word.length + 1 := by simp
      by_cases h0 : 0 ≤ codeB s
      · rw [if_pos h0]
        have hall : (decB s).2 = s.length := by rw [← hs] at h0 ⊢; exact unit_all hp e.1 h0
        have hsc : ∀ t, scoreS codes most (last, was, before) (s ++ t) = scoreS codes most (stepC codes (last, was, before) (codeB s)) t := fun t => score_unit hs0 h0 hall t
        by_cases h1 : leastS (rowS codes last was before (codeB s) codes.length) ≤ most
        · rw [if_pos h1, onS_off sts codes most fuel e.2 0 _ _ _ _ _ ⟨Nat.zero_le _, .inl rfl⟩]
          have hd : (word ++ [e.1]).drop ((word ++ [e.1]).length - 0) = [] := by simp
          rw [hd]
          unfold offS
          congr 1
          congr 1
          funext t
          rw [hsc t]; rfl
        · rw [if_neg h1]
          have hlost : Lost codes most (stepC codes (last, was, before) (codeB s)) := lost_of h1
          rw [filterMap_nil]
          · simp
          · intro t _
            rw [hsc t, score_lost hlost]; rfl
      · rw [if_neg h0]
        by_cases h1 : fullB s = true
        · rw [if_pos h1, filterMap_nil]
          · simp
          · intro t _
            rw [score_bad (codesB_bad (by simp [hs0]) (bad_app hs0 t (by omega) h1))]; rfl
        · rw [if_neg h1]
          have e1 : (word ++ [e.1]).length - (part + 1) = word.length - part := by rw [hl1]; omega
          have e2 : (word ++ [e.1]).drop ((word ++ [e.1]).length - (part + 1)) = s := by rw [e1, drop_snoc hp.1, hs]
          have hp1 := hp.1
          rw [onS_off sts codes most fuel e.2 (part + 1) _ _ _ _ _ ⟨by rw [hl1]; omega, .inr (by rw [e2]; exact ⟨by omega, by simpa using h1⟩)⟩, e2]
          rfl
    rw [fold_l _ _ (fun _ => True) (fun g e _ => hstep g e) _ _ (fun _ _ => trivial), hb, List.append_assoc]

/-! ### A state's words -/
def Tidy (sts : List DSt) : Prop := ∀ (i : Nat) (s : DSt), sts[i]? = some s → s.2.Pairwise (fun a b => a.1 < b.1) ∧ ∀ e ∈ s.2, e.2 < i

theorem Tidy.edge {sts : List DSt} (h : Tidy sts) {i : Nat} {e : DEdge} (he : e ∈ (stAt sts (i : Int)).2) : nextS sts i e.1 = some e.2 ∧ e.2 < i ∧ i < sts.length := by
  rcases Nat.lt_or_ge i sts.length with h1 | h1
  · have hs := List.getElem?_eq_getElem h1
    rw [stAt_in hs] at he
    exact ⟨nextS_edge hs (h i _ hs).1 he, (h i _ hs).2 e he, h1⟩
  · rw [stAt_out (.inr (by omega))] at he
    cases he

theorem Tidy.pair {sts : List DSt} (h : Tidy sts) (i : Nat) : (stAt sts (i : Int)).2.Pairwise (fun a b => a.1 < b.1) := by
  rcases Nat.lt_or_ge i sts.length with h1 | h1
  · have hs := List.getElem?_eq_getElem h1
    rw [stAt_in hs]
    exact (h i _ hs).1
  · rw [stAt_out (.inr (by omega))]
    exact List.Pairwise.nil

theorem Tidy.of_next {sts : List DSt} {i : Nat} {c : UInt8} {b : Nat} (hn : nextS sts i c = some b) : (c, b) ∈ (stAt sts (i : Int)).2 := by
  rcases Nat.lt_or_ge i sts.length with h1 | h1
  · have hs := List.getElem?_eq_getElem h1
    rw [stAt_in hs]
    exact Go.Proofs.YtdcdhcgfhapbnaaDoor.of_next hs hn
  · rw [nextS_out (.inr (by omega))] at hn
    cases hn

theorem lang_mem {sts : List DSt} (h : Tidy sts) : ∀ (fuel i : Nat), i < fuel → ∀ t : Wd, t ∈ langS sts fuel i ↔ runS sts i t = true
  | 0, _, hi, _ => absurd hi (by omega)
  | fuel + 1, i, hi, t => by
    unfold langS
    rw [List.mem_append]
    match t with
    | [] =>
      constructor
      · rintro (h1 | h1)
        · split at h1
          · assumption
          · cases h1
        · simp at h1
      · intro h1
        left
        have h2 : (stAt sts (i : Int)).1 = true := h1
        rw [if_pos h2]; simp
    | c :: s =>
      constructor
      · rintro (h1 | h1)
        · split at h1 <;> simp at h1
        · obtain ⟨e, he, h2⟩ := List.mem_flatMap.1 h1
          obtain ⟨s', hs', h3⟩ := List.mem_map.1 h2
          obtain ⟨g1, g2, g3⟩ := h.edge he
          cases h3
          show (match nextS sts i e.1 with | some j => runS sts j s | none => false) = true
          rw [g1]
          exact (lang_mem h fuel e.2 (by omega) s).1 hs'
      · intro h1
        change (match nextS sts i c with | some j => runS sts j s | none => false) = true at h1
        right
        cases hn : nextS sts i c with
        | none => rw [hn] at h1; cases h1
        | some j =>
          rw [hn] at h1
          have he := Tidy.of_next hn
          obtain ⟨g1, g2, g3⟩ := h.edge he
          exact List.mem_flatMap.2 ⟨(c, j), he, List.mem_map.2 ⟨s, (lang_mem h fuel j (by simp only at g2; omega) s).2 h1, rfl⟩⟩

theorem rise_flat {f : DEdge → List Wd} (hf : ∀ e, Rise (f e)) : ∀ {es : List DEdge}, es.Pairwise (fun a b => a.1 < b.1) → Rise (es.flatMap fun e => (f e).map (e.1 :: ·))
  | [], _ => List.Pairwise.nil
  | e :: es, h => by
    rw [List.flatMap_cons]
    obtain ⟨h1, h2⟩ := List.pairwise_cons.1 h
    refine List.pairwise_append.2 ⟨?_, rise_flat hf h2, fun x hx y hy => ?_⟩
    · rw [List.pairwise_map]
      exact (hf e).imp (fun hab => lt_cons_iff.2 (.inr ⟨rfl, hab⟩))
    · obtain ⟨s, _, rfl⟩ := List.mem_map.1 hx
      obtain ⟨e', he', h3⟩ := List.mem_flatMap.1 hy
      obtain ⟨s', _, rfl⟩ := List.mem_map.1 h3
      exact lt_cons_iff.2 (.inl (h1 e' he'))

theorem lang_rise {sts : List DSt} (h : Tidy sts) : ∀ (fuel i : Nat), Rise (langS sts fuel i)
  | 0, _ => List.Pairwise.nil
  | fuel + 1, i => by
    unfold langS
    refine List.pairwise_append.2 ⟨?_, rise_flat (fun e => lang_rise h fuel e.2) (h.pair i), fun x hx y hy => ?_⟩
    · split <;> simp
    · obtain ⟨e', he', h3⟩ := List.mem_flatMap.1 hy
      obtain ⟨s', _, rfl⟩ := List.mem_map.1 h3
      split at hx
      · rw [List.mem_singleton] at hx
        subst hx
        exact List.nil_lt_cons _ _
      · cases hx

/-! ### The steps -/
def visS (sts : List DSt) (codes : List Int) (most : Nat) : Nat → Nat → Nat → Option (List Nat) → List Nat → Int → Wd → List Wd
  | 0, _, _, _, _, _, _ => []
  | fuel + 1, state, part, last, was, before, word => (stAt sts (state : Int)).2.flatMap fun e =>
      (word ++ [e.1]) ::
        (if 0 ≤ codeB ((word ++ [e.1]).drop (word.length - part)) then
          (if leastS (rowS codes last was before (codeB ((word ++ [e.1]).drop (word.length - part))) codes.length) ≤ most then
            visS sts codes most fuel e.2 0 (some was) (rowS codes last was before (codeB ((word ++ [e.1]).drop (word.length - part))) codes.length) (codeB ((word ++ [e.1]).drop (word.length - part))) (word ++ [e.1]) else [])
        else if fullB ((word ++ [e.1]).drop (word.length - part)) = true then [] else visS sts codes most fuel e.2 (part + 1) last was before (word ++ [e.1]))

theorem fold_steps {α : Type} (step : Fi → α → Fi) (out : α → List Wd) (h : ∀ g e, (step g e).steps = g.steps + (out e).length) : ∀ (es : List α) (g : Fi), (es.foldl step g).steps = g.steps + (es.flatMap out).length
  | [], g => by simp
  | e :: es, g => by
    rw [List.foldl_cons, fold_steps step out h es _, h g e, List.flatMap_cons, List.length_append]; omega

theorem onS_steps (sts : List DSt) (codes : List Int) (most : Nat) : ∀ (fuel state part : Nat) (last : Option (List Nat)) (was : List Nat) (before : Int) (word : Wd) (f : Fi),
    (onS sts codes most fuel state part last was before word f).steps = f.steps + (visS sts codes most fuel state part last was before word).length
  | 0, _, _, _, _, _, _, _ => rfl
  | fuel + 1, state, part, last, was, before, word, f => by
    rw [onS_succ]
    have hb : (beginS sts codes most state part was word f).steps = f.steps := by unfold beginS; split <;> rfl
    unfold visS
    rw [fold_steps _ _ (fun g e => ?_) _ _, hb]
    unfold edgeS
    simp only [List.length_cons]
    split
    · split
      · rw [onS_steps]; simp only; omega
      · simp
    · split
      · simp
      · rw [onS_steps]; simp only; omega

/-! ### Runs -/
theorem runS_app {sts : List DSt} : ∀ (p t : Wd) (i j : Nat), (∀ s, runS sts i (p ++ s) = runS sts j s) → runS sts i (p ++ t) = runS sts j t := fun _ t _ _ h => h t

theorem codesB_app : ∀ (n : Nat) (s : Wd), s.length ≤ n → ∀ (cs : List Int), codesB s = some cs → ∀ t, codesB (s ++ t) = (codesB t).map (cs ++ ·)
  | n, [], _, cs, h, t => by
    have : cs = [] := by cases h; rfl
    subst this
    rw [List.nil_append]
    cases codesB t <;> rfl
  | 0, _ :: _, h, _, _, _ => by simp at h
  | n + 1, b :: s, hl, cs, h, t => by
    have hne : (b :: s) ≠ [] := by simp
    rcases Int.lt_or_le (codeB (b :: s)) 0 with h0 | h0
    · rw [codesB_bad hne h0] at h; cases h
    · obtain ⟨e1, e2, e3, e4⟩ := unit_app hne t h0
      rw [codesB_good hne h0] at h
      rw [codesB_good (s := b :: s ++ t) (by simp) (by rw [e2]; exact h0), e1, e2, List.drop_append_of_le_length e4]
      cases hc : codesB ((b :: s).drop (decB (b :: s)).2) with
      | none => rw [hc] at h; cases h
      | some cs' =>
        rw [hc] at h
        cases h
        rw [codesB_app n _ (by rw [List.length_drop]; simp only [List.length_cons] at hl ⊢; omega) cs' hc t]
        cases codesB t <;> simp

/-! ### Beginnings of the codes -/
theorem rowS_take {codes : List Int} {j : Nat} (hj : j ≤ codes.length) (last last' : Option (List Nat)) (was was' : List Nat) (before code : Int)
    (hw : ∀ k, k ≤ j → was.getD k 0 = was'.getD k 0) (hl : ∀ k, k ≤ j → (match last, last' with | some a, some b => a.getD k 0 = b.getD k 0 | none, none => True | _, _ => False)) :
    ∀ k, k ≤ j → (rowS codes last was before code codes.length).getD k 0 = (rowS (codes.take j) last' was' before code (codes.take j).length).getD k 0 := by
  have hlen : (codes.take j).length = j := by rw [List.length_take]; omega
  intro k hk
  induction k with
  | zero => rw [rowS_zero, rowS_zero, hw 0 (by omega)]
  | succ k ih =>
    rw [rowS_succ _ _ _ _ _ (show k + 1 ≤ codes.length by omega), rowS_succ _ _ _ _ _ (show k + 1 ≤ (codes.take j).length by omega), ih (by omega)]
    have e1 : ∀ i, i < j → codes.getD i 0 = (codes.take j).getD i 0 := fun i hi => by
      rw [List.getD_eq_getElem?_getD, List.getD_eq_getElem?_getD, List.getElem?_take_of_lt hi]
    unfold cellS
    rw [hw (k + 1) hk, hw k (by omega), e1 k (by omega)]
    unfold turnS
    cases last with
    | none =>
      cases last' with
      | none => rfl
      | some b => exact (hl 0 (by omega)).elim
    | some a =>
      cases last' with
      | none => exact (hl 0 (by omega)).elim
      | some b =>
        simp only
        rw [e1 k (by omega), e1 (k - 1) (by omega)]
        have := hl (k - 1) (by omega)
        simp only at this
        rw [this]

def SameTo (j : Nat) (a b : RowSt) : Prop := (∀ k, k ≤ j → a.2.1.getD k 0 = b.2.1.getD k 0) ∧ (∀ k, k ≤ j → (match a.1, b.1 with | some x, some y => x.getD k 0 = y.getD k 0 | none, none => True | _, _ => False)) ∧ a.2.2 = b.2.2

theorem SameTo.run {codes : List Int} {j : Nat} (hj : j ≤ codes.length) : ∀ (cs : List Int) (a b : RowSt), SameTo j a b → SameTo j (runC codes a cs) (runC (codes.take j) b cs)
  | [], _, _, h => h
  | c :: cs, a, b, h => by
    refine SameTo.run hj cs (stepC codes a c) (stepC (codes.take j) b c) ⟨?_, fun k hk => ?_, rfl⟩
    · intro k hk
      have := rowS_take hj a.1 b.1 a.2.1 b.2.1 a.2.2 c h.1 h.2.1 k hk
      show (rowS codes a.1 a.2.1 a.2.2 c codes.length).getD k 0 = (rowS (codes.take j) b.1 b.2.1 b.2.2 c (codes.take j).length).getD k 0
      rw [← h.2.2]; exact this
    · exact h.1 k hk

def start0 (codes : List Int) : RowSt := (none, List.range (codes.length + 1), 0)

/-- How far two codes' lists are. -/
def farC (codes cs : List Int) : Nat := endC codes (runC codes (start0 codes) cs)

theorem range_getD {n k : Nat} (h : k < n) : (List.range n).getD k 0 = k := by
  rw [List.getD_eq_getElem?_getD, List.getElem?_range h]; rfl

/-- A row's number is how far a beginning is. -/
theorem far_take {codes cs : List Int} {j : Nat} (hj : j ≤ codes.length) : (runC codes (start0 codes) cs).2.1.getD j 0 = farC (codes.take j) cs := by
  have hlen : (codes.take j).length = j := by rw [List.length_take]; omega
  have h := SameTo.run hj cs (start0 codes) (start0 (codes.take j)) ⟨fun k hk => by
    show (List.range (codes.length + 1)).getD k 0 = (List.range ((codes.take j).length + 1)).getD k 0
    rw [range_getD (by omega), range_getD (by omega)], fun _ _ => trivial, rfl⟩
  unfold farC endC
  rw [hlen]
  exact h.1 j (Nat.le_refl j)

/-! ### Hope -/
def hopeC (codes : List Int) (most : Nat) (cs : List Int) : Bool := (List.range (codes.length + 1)).any fun k => decide (farC (codes.take k) cs ≤ most)

/-- A beginning cut back to whole codes. -/
def cutB : Nat → Wd → Option (List Int)
  | 0, h => codesB h
  | n + 1, h => match codesB h with | some cs => some cs | none => if h = [] then none else cutB n h.dropLast

def hopeS (codes : List Int) (most : Nat) (head : Wd) : Bool := match cutB 3 head with | none => true | some cs => hopeC codes most cs

theorem cutB_pend {whole : Wd} {cs : List Int} (hc : codesB whole = some cs) : ∀ (n : Nat) (p : Wd), p.length ≤ n → (∀ j, 0 < j → j ≤ p.length → codeB (p.take j) < 0) → cutB n (whole ++ p) = some cs
  | n, [], _, _ => by
    rw [List.append_nil]
    cases n with
    | zero => exact hc
    | succ n => unfold cutB; rw [hc]
  | 0, _ :: _, h, _ => by simp at h
  | n + 1, b :: p, hl, hbad => by
    have h0 : codesB (whole ++ (b :: p)) = none := by
      rw [codesB_app _ whole (Nat.le_refl _) cs hc]
      have := hbad (b :: p).length (by simp) (Nat.le_refl _)
      rw [List.take_length] at this
      rw [codesB_bad (by simp) this]; rfl
    unfold cutB
    rw [h0]
    simp only
    rw [if_neg (by simp), List.dropLast_append_of_ne_nil (by simp)]
    refine cutB_pend hc n (b :: p).dropLast (by simp only [List.length_dropLast, List.length_cons] at hl ⊢; omega) (fun j hj0 hj => ?_)
    rw [List.length_dropLast] at hj
    rw [List.dropLast_eq_take, List.take_take]
    have : min j ((b :: p).length - 1) = j := by omega
    rw [this]
    exact hbad j hj0 (by omega)

/-- Where a walk stands. -/
structure NodeOk (codes : List Int) (most : Nat) (st : RowSt) (word : Wd) (part : Nat) : Prop where
  pend : PendOk word part
  whole : ∃ cs, codesB (word.take (word.length - part)) = some cs ∧ st = runC codes (start0 codes) cs
  near : ∃ k, k ≤ codes.length ∧ st.2.1.getD k 0 ≤ most

theorem NodeOk.hope {codes : List Int} {most : Nat} {st : RowSt} {word : Wd} {part : Nat} (h : NodeOk codes most st word part) : hopeS codes most word = true := by
  obtain ⟨cs, hc, hst⟩ := h.whole
  obtain ⟨k, hk, hnear⟩ := h.near
  have hp := drop_len h.pend.1
  have h3 : part ≤ 3 := by
    rcases h.pend.2 with h0 | ⟨h0, h1⟩
    · omega
    · rw [← hp]
      refine part_three ?_ h1
      intro e; rw [e] at h0; exact absurd h0 (by decide)
  have hcut : cutB 3 (word.take (word.length - part) ++ word.drop (word.length - part)) = some cs := by
    refine cutB_pend hc 3 _ (by omega) (fun j hj0 hj => ?_)
    rcases h.pend.2 with h0 | ⟨h0, h1⟩
    · omega
    · rcases Int.lt_or_le (codeB ((word.drop (word.length - part)).take j)) 0 with h4 | h4
      · exact h4
      · have h5 := unit_app (s := (word.drop (word.length - part)).take j) (by intro e; have := congrArg List.length e; rw [List.length_take] at this; simp only [List.length_nil] at this; omega) ((word.drop (word.length - part)).drop j) h4
        rw [List.take_append_drop] at h5
        omega
  rw [List.take_append_drop] at hcut
  unfold hopeS
  rw [hcut]
  simp only
  unfold hopeC
  rw [List.any_eq_true]
  refine ⟨k, List.mem_range.2 (by omega), ?_⟩
  rw [decide_eq_true_iff, ← far_take hk, ← hst]
  exact hnear

theorem lt_app : ∀ (w : Wd) {u : Wd}, u ≠ [] → w < w ++ u
  | [], u, h => by
    match u, h with
    | a :: t, _ => exact List.nil_lt_cons _ _
  | c :: w, _, h => lt_cons_iff.2 (.inr ⟨rfl, lt_app w h⟩)

theorem lt_app_cons : ∀ (w : Wd) {c d : UInt8} {x y : Wd}, c < d → w ++ c :: x < w ++ d :: y
  | [], _, _, _, _, h => lt_cons_iff.2 (.inl h)
  | _ :: w, _, _, _, _, h => lt_cons_iff.2 (.inr ⟨rfl, lt_app_cons w h⟩)

theorem rise_edges {f : DEdge → List Wd} {word : Wd} : ∀ {es : List DEdge}, (∀ e ∈ es, Rise (f e) ∧ ∀ h ∈ f e, ∃ u, h = word ++ e.1 :: u) → es.Pairwise (fun a b => a.1 < b.1) → Rise (es.flatMap f)
  | [], _, _ => List.Pairwise.nil
  | e :: es, hf, h => by
    rw [List.flatMap_cons]
    obtain ⟨h1, h2⟩ := List.pairwise_cons.1 h
    refine List.pairwise_append.2 ⟨(hf e (by simp)).1, rise_edges (fun x hx => hf x (by simp [hx])) h2, fun x hx y hy => ?_⟩
    obtain ⟨e', he', h3⟩ := List.mem_flatMap.1 hy
    obtain ⟨u, rfl⟩ := (hf e (by simp)).2 x hx
    obtain ⟨u', rfl⟩ := (hf e' (by simp [he'])).2 y h3
    exact lt_app_cons word (h1 e' he')

theorem foldl_min_mem : ∀ (l : List Nat) (a : Nat), l.foldl min a = a ∨ l.foldl min a ∈ l
  | [], _ => .inl rfl
  | y :: l, a => by
    rw [List.foldl_cons]
    rcases foldl_min_mem l (min a y) with h | h
    · rcases Nat.le_total a y with h1 | h1
      · left; rw [h]; omega
      · right; rw [h, Nat.min_eq_right h1]; simp
    · right; simp [h]

theorem leastS_mem {row : List Nat} (h : row ≠ []) : ∃ k, k < row.length ∧ row.getD k 0 = leastS row := by
  have h1 : leastS row ∈ row := by
    unfold leastS
    rcases foldl_min_mem row (row.headD 0) with h1 | h1
    · rw [h1]
      match row, h with
      | a :: t, _ => simp
    · exact h1
  obtain ⟨k, hk, he⟩ := List.mem_iff_getElem.1 h1
  exact ⟨k, hk, by rw [List.getD_eq_getElem?_getD, List.getElem?_eq_getElem hk, he]; rfl⟩

theorem codesB_nil : codesB [] = some [] := rfl

theorem NodeOk.near_step {codes : List Int} {most : Nat} {st : RowSt} {word : Wd} {part : Nat} (h : NodeOk codes most st word part) {c : UInt8} (hs : 0 ≤ codeB (word.drop (word.length - part) ++ [c]))
    (hl : leastS (rowS codes st.1 st.2.1 st.2.2 (codeB (word.drop (word.length - part) ++ [c])) codes.length) ≤ most) : NodeOk codes most (stepC codes st (codeB (word.drop (word.length - part) ++ [c]))) (word ++ [c]) 0 := by
  refine ⟨⟨Nat.zero_le _, .inl rfl⟩, ?_, ?_⟩
  · obtain ⟨cs, hc, hst⟩ := h.whole
    refine ⟨cs ++ [codeB (word.drop (word.length - part) ++ [c])], ?_, ?_⟩
    · have e1 : (word ++ [c]).take ((word ++ [c]).length - 0) = word.take (word.length - part) ++ (word.drop (word.length - part) ++ [c]) := by
        rw [Nat.sub_zero, List.take_length, ← List.append_assoc, List.take_append_drop]
      rw [e1, codesB_app _ _ (Nat.le_refl _) cs hc]
      have := codesB_unit (s := word.drop (word.length - part) ++ [c]) (by simp) hs (unit_all h.pend c hs) []
      rw [List.append_nil, codesB_nil] at this
      rw [this]; rfl
    · have e2 : List.foldl (stepC codes) (start0 codes) cs = st := hst.symm
      unfold runC
      rw [List.foldl_append, e2]; rfl
  · obtain ⟨k, hk, he⟩ := leastS_mem (row := rowS codes st.1 st.2.1 st.2.2 (codeB (word.drop (word.length - part) ++ [c])) codes.length) (by intro e; have := congrArg List.length e; rw [rowS_len] at this; simp at this)
    rw [rowS_len] at hk
    exact ⟨k, by omega, by show (rowS codes st.1 st.2.1 st.2.2 _ codes.length).getD k 0 ≤ most; rw [he]; exact hl⟩

theorem NodeOk.part_step {codes : List Int} {most : Nat} {st : RowSt} {word : Wd} {part : Nat} (h : NodeOk codes most st word part) {c : UInt8} (h0 : codeB (word.drop (word.length - part) ++ [c]) < 0)
    (h1 : fullB (word.drop (word.length - part) ++ [c]) = false) : NodeOk codes most st (word ++ [c]) (part + 1) := by
  have hp := h.pend.1
  have e1 : (word ++ [c]).length - (part + 1) = word.length - part := by rw [List.length_append, List.length_singleton]; omega
  refine ⟨⟨by rw [List.length_append, List.length_singleton]; omega, .inr ?_⟩, ?_, h.near⟩
  · rw [e1, drop_snoc hp]
    exact ⟨h0, h1⟩
  · rw [e1, List.take_append_of_le_length (by omega)]
    exact h.whole

theorem vis_ok {sts : List DSt} (ht : Tidy sts) {start : Int} (hlive : ∀ (i : Nat) (e : DEdge), e ∈ (stAt sts (i : Int)).2 → ∃ t, runS sts e.2 t = true) (codes : List Int) (most : Nat) :
    ∀ (fuel state part : Nat) (last : Option (List Nat)) (was : List Nat) (before : Int) (word : Wd), NodeOk codes most (last, was, before) word part → (∀ s, runS sts start (word ++ s) = runS sts (state : Int) s) →
      Rise (visS sts codes most fuel state part last was before word) ∧ ∀ h ∈ visS sts codes most fuel state part last was before word, (∃ u, u ≠ [] ∧ h = word ++ u) ∧ hopeS codes most h.dropLast = true ∧ ∃ t, runS sts start (h ++ t) = true
  | 0, _, _, _, _, _, _, _, _ => ⟨List.Pairwise.nil, by unfold visS; simp⟩
  | fuel + 1, state, part, last, was, before, word, hn, hr => by
    have hpt := hn.pend.1
    have hr' : ∀ e ∈ (stAt sts (state : Int)).2, ∀ s, runS sts start ((word ++ [e.1]) ++ s) = runS sts (e.2 : Int) s := by
      intro e he s
      rw [List.append_assoc, hr]
      show (match nextS sts (state : Int) e.1 with | some j => runS sts j s | none => false) = _
      rw [(ht.edge he).1]
    have key : ∀ e ∈ (stAt sts (state : Int)).2, ∀ R, R = (if 0 ≤ codeB ((word ++ [e.1]).drop (word.length - part)) then
          (if leastS (rowS codes last was before (codeB ((word ++ [e.1]).drop (word.length - part))) codes.length) ≤ most then
            visS sts codes most fuel e.2 0 (some was) (rowS codes last was before (codeB ((word ++ [e.1]).drop (word.length - part))) codes.length) (codeB ((word ++ [e.1]).drop (word.length - part))) (word ++ [e.1]) else [])
        else if fullB ((word ++ [e.1]).drop (word.length - part)) = true then [] else visS sts codes most fuel e.2 (part + 1) last was before (word ++ [e.1])) →
        Rise R ∧ ∀ h ∈ R, (∃ u, u ≠ [] ∧ h = (word ++ [e.1]) ++ u) ∧ hopeS codes most h.dropLast = true ∧ ∃ t, runS sts start (h ++ t) = true := by
      intro e he R hR
      have hnone : Rise ([] : List Wd) ∧ ∀ h ∈ ([] : List Wd), (∃ u, u ≠ [] ∧ h = (word ++ [e.1]) ++ u) ∧ hopeS codes most h.dropLast = true ∧ ∃ t, runS sts start (h ++ t) = true := ⟨List.Pairwise.nil, by simp⟩
      subst hR
      rw [drop_snoc hpt]
      split
      · rename_i h0
        split
        · rename_i h1
          exact vis_ok ht hlive codes most fuel e.2 0 _ _ _ _ (hn.near_step h0 h1) (hr' e he)
        · exact hnone
      · rename_i h0
        split
        · exact hnone
        · rename_i h1
          exact vis_ok ht hlive codes most fuel e.2 (part + 1) _ _ _ _ (hn.part_step (by omega) (by simpa using h1)) (hr' e he)
    unfold visS
    constructor
    · refine rise_edges (word := word) (fun e he => ?_) (ht.pair state)
      obtain ⟨k1, k2⟩ := key e he _ rfl
      refine ⟨List.pairwise_cons.2 ⟨fun y hy => ?_, k1⟩, fun h hh => ?_⟩
      · obtain ⟨⟨u, hu, rfl⟩, _⟩ := k2 y hy
        exact lt_app _ hu
      · rcases List.mem_cons.1 hh with rfl | hh
        · exact ⟨[], rfl⟩
        · obtain ⟨⟨u, hu, rfl⟩, _⟩ := k2 h hh
          exact ⟨u, by simp⟩
    · intro h hh
      obtain ⟨e, he, h2⟩ := List.mem_flatMap.1 hh
      rcases List.mem_cons.1 h2 with rfl | h2
      · refine ⟨⟨[e.1], by simp, rfl⟩, ?_, ?_⟩
        · rw [List.dropLast_concat]; exact hn.hope
        · obtain ⟨t, ht2⟩ := hlive state e he
          exact ⟨t, by rw [hr' e he]; exact ht2⟩
      · obtain ⟨⟨u, hu, e2⟩, h3, h4⟩ := (key e he _ rfl).2 h h2
        exact ⟨⟨[e.1] ++ u, by simp, by rw [e2]; simp⟩, h3, h4⟩

theorem rise_sub : ∀ {V F : List Wd}, Rise V → Rise F → (∀ x ∈ V, x ∈ F) → V.length ≤ F.length
  | [], _, _, _, _ => Nat.zero_le _
  | v :: V, [], _, _, h => absurd (h v (by simp)) (by simp)
  | v :: V, f :: F, hv, hf, h => by
    obtain ⟨v1, v2⟩ := List.pairwise_cons.1 hv
    obtain ⟨f1, f2⟩ := List.pairwise_cons.1 hf
    by_cases e : v = f
    · have := rise_sub (V := V) (F := F) v2 f2 (fun x hx => by
        rcases List.mem_cons.1 (h x (by simp [hx])) with h1 | h1
        · have := v1 x hx
          rw [h1, ← e] at this
          exact absurd this (List.lt_irrefl _)
        · exact h1)
      simp only [List.length_cons]; omega
    · have hvF : v ∈ F := by
        rcases List.mem_cons.1 (h v (by simp)) with h1 | h1
        · exact absurd h1 e
        · exact h1
      have := rise_sub (V := v :: V) (F := F) hv f2 (fun x hx => by
        rcases List.mem_cons.1 (h x hx) with h1 | h1
        · exfalso
          rcases List.mem_cons.1 hx with h2 | h2
          · exact e (h2.symm.trans h1)
          · have a1 := v1 x h2
            have a2 := f1 v hvF
            rw [h1] at a1
            exact absurd (List.lt_trans a1 a2) (List.lt_irrefl _)
        · exact h1)
      simp only [List.length_cons] at this ⊢; omega

/-! ### Lengths apart -/
def Ge (codes : List Int) (m : Nat) (st : RowSt) : Prop := (∀ k, k ≤ codes.length → m ≤ st.2.1.getD k 0 + k ∧ k ≤ st.2.1.getD k 0 + m) ∧ ∀ la, st.1 = some la → ∃ m', m = m' + 1 ∧ ∀ k, k ≤ codes.length → m' ≤ la.getD k 0 + k ∧ k ≤ la.getD k 0 + m'

theorem Ge.step {codes : List Int} {m : Nat} {st : RowSt} (h : Ge codes m st) (c : Int) : Ge codes (m + 1) (stepC codes st c) := by
  refine ⟨?_, fun la hla => ⟨m, rfl, fun k hk => ?_⟩⟩
  · intro k hk
    show m + 1 ≤ (rowS codes st.1 st.2.1 st.2.2 c codes.length).getD k 0 + k ∧ k ≤ (rowS codes st.1 st.2.1 st.2.2 c codes.length).getD k 0 + (m + 1)
    induction k with
    | zero => rw [rowS_zero]; have := h.1 0 (by omega); omega
    | succ k ih =>
      rw [rowS_succ _ _ _ _ _ hk]
      have h1 := h.1 (k + 1) hk
      have h2 := h.1 k (by omega)
      have h3 := ih (by omega)
      have h4 : m + 1 ≤ min (min (st.2.1.getD (k + 1) 0 + 1) ((rowS codes st.1 st.2.1 st.2.2 c codes.length).getD k 0 + 1)) (st.2.1.getD k 0 + (if codes.getD k 0 = c then 0 else 1)) + (k + 1) ∧
          k + 1 ≤ min (min (st.2.1.getD (k + 1) 0 + 1) ((rowS codes st.1 st.2.1 st.2.2 c codes.length).getD k 0 + 1)) (st.2.1.getD k 0 + (if codes.getD k 0 = c then 0 else 1)) + (m + 1) := by split <;> omega
      unfold cellS turnS
      split
      · exact h4
      · rename_i la hla
        split
        · rename_i hk0
          obtain ⟨m', hm', h6⟩ := h.2 la hla
          have h5 := h6 (k - 1) (by omega)
          omega
        · exact h4
  · cases hla
    exact h.1 k hk

theorem Ge.run {codes : List Int} : ∀ (cs : List Int) {m : Nat} {st : RowSt}, Ge codes m st → Ge codes (m + cs.length) (runC codes st cs)
  | [], _, _, h => h
  | c :: cs, m, st, h => by
    have := Ge.run cs (h.step c)
    rw [List.length_cons, show m + (cs.length + 1) = m + 1 + cs.length by omega]
    exact this

theorem far_ge (codes cs : List Int) : cs.length ≤ farC codes cs + codes.length ∧ codes.length ≤ farC codes cs + cs.length := by
  have h0 : Ge codes 0 (start0 codes) := ⟨fun k hk => by
    show 0 ≤ (List.range (codes.length + 1)).getD k 0 + k ∧ k ≤ (List.range (codes.length + 1)).getD k 0 + 0
    rw [range_getD (by omega)]; omega, fun la h => by cases h⟩
  have := (h0.run cs).1 codes.length (Nat.le_refl _)
  rw [Nat.zero_add] at this
  exact this

/-! ### The whole walk -/
theorem walk_offers {sts : List DSt} (ht : Tidy sts) {start : Nat} (hst : start < sts.length + 1) {W : List Wd} (hW : Rise W) (hrun : ∀ t, runS sts (start : Int) t = decide (t ∈ W)) (codes : List Int) (most : Nat) :
    (walkS sts start codes most).l = W.filterMap fun t => (scoreS codes most (start0 codes) t).map fun d => (t, d) := by
  have h := onS_off sts codes most (sts.length + 1) start 0 none (List.range (codes.length + 1)) 0 [] ⟨[], 0⟩ ⟨Nat.zero_le _, .inl rfl⟩
  have hl : langS sts (sts.length + 1) start = W := rise_unique (lang_rise ht _ _) hW (fun t => by rw [lang_mem ht _ _ hst, hrun, decide_eq_true_iff])
  unfold walkS
  rw [h]
  unfold offS
  rw [hl]
  rfl

theorem walk_steps {sts : List DSt} (ht : Tidy sts) {start : Nat} (hlive : ∀ (i : Nat) (e : DEdge), e ∈ (stAt sts (i : Int)).2 → ∃ t, runS sts e.2 t = true) {W : List Wd} (hrun : ∀ t, runS sts (start : Int) t = decide (t ∈ W)) (codes : List Int) (most : Nat)
    {H : List Wd} (hH : Rise H) (hmem : ∀ h s, h ≠ [] → h ++ s ∈ W → h ∈ H) : (walkS sts start codes most).steps ≤ (H.filter fun h => hopeS codes most h.dropLast).length := by
  have h := onS_steps sts codes most (sts.length + 1) start 0 none (List.range (codes.length + 1)) 0 [] ⟨[], 0⟩
  have hn : NodeOk codes most (none, List.range (codes.length + 1), 0) [] 0 := ⟨⟨Nat.zero_le _, .inl rfl⟩, ⟨[], rfl, rfl⟩, ⟨0, Nat.zero_le _, by show (List.range (codes.length + 1)).getD 0 0 ≤ most; rw [range_getD (by omega)]; omega⟩⟩
  obtain ⟨v1, v2⟩ := vis_ok ht (start := (start : Int)) hlive codes most (sts.length + 1) start 0 none (List.range (codes.length + 1)) 0 [] hn (fun s => rfl)
  unfold walkS
  rw [h, Nat.zero_add]
  refine rise_sub v1 (List.Pairwise.sublist List.filter_sublist hH) (fun x hx => ?_)
  obtain ⟨⟨u, hu, e⟩, h3, t, h4⟩ := v2 x hx
  rw [List.nil_append] at e
  subst e
  rw [hrun, decide_eq_true_iff] at h4
  exact List.mem_filter.2 ⟨hmem x t hu h4, h3⟩

end Go.Proofs.YtdcdhcgfhapbnaaDoor

namespace Go.Proofs.YtdcdhcgfhapbnaaDoor
open Go Go.Lib

/-! ### The table -/
def colC (a b : List Int) (k : Nat) : RowSt := runC a (start0 a) (b.take k)
def farD (a b : List Int) (i k : Nat) : Nat := (colC a b k).2.1.getD i 0

theorem colC_succ {a b : List Int} {k : Nat} {c : Int} (h : b[k]? = some c) : colC a b (k + 1) = stepC a (colC a b k) c := by
  unfold colC runC
  rw [List.take_add_one, h, Option.toList_some, List.foldl_append]; rfl

theorem farD_far (a b : List Int) : farD a b a.length b.length = farC a b := by
  unfold farD colC farC endC
  rw [List.take_length]

theorem farD_left {a b : List Int} {i : Nat} (h : i ≤ a.length) : farD a b i 0 = i := by
  show (List.range (a.length + 1)).getD i 0 = i
  exact range_getD (by omega)

theorem farD_top {a b : List Int} : ∀ {k : Nat}, k ≤ b.length → farD a b 0 k = k
  | 0, _ => farD_left (Nat.zero_le _)
  | k + 1, h => by
    have hk : b[k]? = some b[k] := List.getElem?_eq_getElem (by omega)
    unfold farD
    rw [colC_succ hk]
    show (rowS a _ _ _ _ a.length).getD 0 0 = k + 1
    rw [rowS_zero]
    have := farD_top (a := a) (show k ≤ b.length by omega)
    unfold farD at this
    rw [this]

/-- A place of the table. -/
theorem farD_step {a b : List Int} {i k : Nat} {ai bk : Int} (hi : a[i]? = some ai) (hk : b[k]? = some bk) :
    farD a b (i + 1) (k + 1) = cellS a (colC a b k).1 (colC a b k).2.1 (colC a b k).2.2 bk (farD a b i (k + 1)) i := by
  have hl : i + 1 ≤ a.length := (List.getElem?_eq_some_iff.1 hi).1
  unfold farD
  rw [colC_succ hk]
  show (rowS a _ _ _ _ a.length).getD (i + 1) 0 = _
  rw [rowS_succ _ _ _ _ _ hl]
  rfl

theorem getD_of {a : List Int} {i : Nat} {x : Int} (h : a[i]? = some x) : a.getD i 0 = x := by
  rw [List.getD_eq_getElem?_getD, h]; rfl

/-- No turn in the first row or column. -/
theorem farD_plain {a b : List Int} {i k : Nat} {ai bk : Int} (hi : a[i]? = some ai) (hk : b[k]? = some bk) (h : i = 0 ∨ k = 0) :
    farD a b (i + 1) (k + 1) = min (min (farD a b (i + 1) k + 1) (farD a b i (k + 1) + 1)) (farD a b i k + (if ai = bk then 0 else 1)) := by
  rw [farD_step hi hk]
  unfold cellS
  rw [getD_of hi]
  unfold turnS
  rcases h with rfl | rfl
  · split
    · rfl
    · rw [if_neg (by omega)]; rfl
  · rfl

/-- A turn, or none. -/
theorem farD_turn {a b : List Int} {i k : Nat} {a0 ai b0 bk : Int} (h0 : a[i]? = some a0) (hi : a[i + 1]? = some ai) (h1 : b[k]? = some b0) (hk : b[k + 1]? = some bk) :
    farD a b (i + 1 + 1) (k + 1 + 1) = (if a0 = bk ∧ ai = b0 then min (min (min (farD a b (i + 1 + 1) (k + 1) + 1) (farD a b (i + 1) (k + 1 + 1) + 1)) (farD a b (i + 1) (k + 1) + (if ai = bk then 0 else 1))) (farD a b i k + 1)
      else min (min (farD a b (i + 1 + 1) (k + 1) + 1) (farD a b (i + 1) (k + 1 + 1) + 1)) (farD a b (i + 1) (k + 1) + (if ai = bk then 0 else 1))) := by
  rw [farD_step hi hk]
  unfold cellS
  rw [getD_of hi]
  have e1 : (colC a b (k + 1)).1 = some (colC a b k).2.1 := by rw [colC_succ h1]; rfl
  have e2 : (colC a b (k + 1)).2.2 = b0 := by rw [colC_succ h1]; rfl
  unfold turnS
  rw [e1, e2]
  simp only [Nat.add_sub_cancel]
  rw [getD_of h0, getD_of hi]
  by_cases hc : a0 = bk ∧ ai = b0
  · rw [if_pos ⟨by omega, hc.1, hc.2⟩, if_pos hc]; rfl
  · rw [if_neg (fun h => hc ⟨h.2.1, h.2.2⟩), if_neg hc]; rfl

theorem farD_le {a b : List Int} {i k : Nat} (hi : i ≤ a.length) (hk : k ≤ b.length) : farD a b i k ≤ i + k := by
  induction k with
  | zero => rw [farD_left hi]; omega
  | succ k ih =>
    have hkk : b[k]? = some b[k] := List.getElem?_eq_getElem (by omega)
    rcases i with _ | i
    · rw [farD_top hk]; omega
    · have hii : a[i]? = some a[i] := List.getElem?_eq_getElem (by omega)
      rw [farD_step hii hkk]
      have h1 := ih (by omega)
      have h2 : cellS a (colC a b k).1 (colC a b k).2.1 (colC a b k).2.2 b[k] (farD a b i (k + 1)) i ≤ (colC a b k).2.1.getD (i + 1) 0 + 1 := Nat.le_trans turnS_le (Nat.le_trans (Nat.min_le_left _ _) (Nat.min_le_left _ _))
      change _ ≤ farD a b (i + 1) k + 1 at h2
      omega

/-- Any place of the table but those at the edges. -/
theorem farD_cell {a b : List Int} {i k : Nat} (hi : i < a.length) (hk : k < b.length) : farD a b (i + 1) (k + 1) =
    if 0 < i ∧ 0 < k ∧ a.getD i 0 = b.getD (k - 1) 0 ∧ a.getD (i - 1) 0 = b.getD k 0 then min (min (min (farD a b i (k + 1) + 1) (farD a b (i + 1) k + 1)) (farD a b i k + (if a.getD i 0 = b.getD k 0 then 0 else 1))) (farD a b (i - 1) (k - 1) + 1)
    else min (min (farD a b i (k + 1) + 1) (farD a b (i + 1) k + 1)) (farD a b i k + (if a.getD i 0 = b.getD k 0 then 0 else 1)) := by
  have hai : a[i]? = some (a.getD i 0) := by rw [List.getD_eq_getElem?_getD, List.getElem?_eq_getElem hi]; rfl
  have hbk : b[k]? = some (b.getD k 0) := by rw [List.getD_eq_getElem?_getD, List.getElem?_eq_getElem hk]; rfl
  rcases Nat.eq_zero_or_pos i with h | h
  · rw [farD_plain hai hbk (.inl h), if_neg (show ¬ (0 < i ∧ 0 < k ∧ a.getD i 0 = b.getD (k - 1) 0 ∧ a.getD (i - 1) 0 = b.getD k 0) from fun e => by omega)]
    generalize farD a b i (k + 1) = x; generalize farD a b (i + 1) k = y
    rw [Nat.min_comm (y + 1) (x + 1)]
  · rcases Nat.eq_zero_or_pos k with h' | h'
    · rw [farD_plain hai hbk (.inr h'), if_neg (show ¬ (0 < i ∧ 0 < k ∧ a.getD i 0 = b.getD (k - 1) 0 ∧ a.getD (i - 1) 0 = b.getD k 0) from fun e => by omega)]
      generalize farD a b i (k + 1) = x; generalize farD a b (i + 1) k = y
      rw [Nat.min_comm (y + 1) (x + 1)]
    · obtain ⟨i', rfl⟩ : ∃ i', i = i' + 1 := ⟨i - 1, by omega⟩
      obtain ⟨k', rfl⟩ : ∃ k', k = k' + 1 := ⟨k - 1, by omega⟩
      have h0 : a[i']? = some (a.getD i' 0) := by rw [List.getD_eq_getElem?_getD, List.getElem?_eq_getElem (by omega)]; rfl
      have h1 : b[k']? = some (b.getD k' 0) := by rw [List.getD_eq_getElem?_getD, List.getElem?_eq_getElem (by omega)]; rfl
      rw [farD_turn h0 hai h1 hbk]
      simp only [Nat.add_sub_cancel]
      generalize farD a b (i' + 1) (k' + 1 + 1) = x; generalize farD a b (i' + 1 + 1) (k' + 1) = y
      rw [Nat.min_comm (y + 1) (x + 1)]
      by_cases hc : a.getD i' 0 = b.getD (k' + 1) 0 ∧ a.getD (i' + 1) 0 = b.getD k' 0
      · rw [if_pos hc, if_pos (show 0 < i' + 1 ∧ 0 < k' + 1 ∧ a.getD (i' + 1) 0 = b.getD k' 0 ∧ a.getD i' 0 = b.getD (k' + 1) 0 from ⟨h, h', hc.2, hc.1⟩)]
      · rw [if_neg hc, if_neg (show ¬ (0 < i' + 1 ∧ 0 < k' + 1 ∧ a.getD (i' + 1) 0 = b.getD k' 0 ∧ a.getD i' 0 = b.getD (k' + 1) 0) from fun e => hc ⟨e.2.2.2, e.2.2.1⟩)]
end Go.Proofs.YtdcdhcgfhapbnaaDoor
