/-
  ref01.one: the unit that begins at a place of a text: the plain part. No conditions beyond those that each lemma names.
-/
import Derived.Test.YtdcdhcgfhapbnaaDoorUtf
import Derived.Test.YtdcdhcgfhapbnaaDoorDawgR
namespace Go.Proofs.YtdcdhcgfhapbnaaDoor
open Go Go.Lib

def fullN (n b0 b1 b2 : Nat) : Bool :=
  if firstT b0 % 8 ≤ n then true else if n = 1 then false else if b1 < accLo (firstT b0 / 16) ∨ accHi (firstT b0 / 16) < b1 then true else if n = 2 then false else (decide (b2 < 128) || decide (191 < b2))

/-- A whole unit: its code and its length. -/
def Dec (n b0 b1 b2 b3 c l : Nat) : Prop :=
  (l = 1 ∧ b0 < 128 ∧ c = b0) ∨ (l = 2 ∧ 2 ≤ n ∧ 192 ≤ b0 ∧ b0 < 224 ∧ b1 / 64 = 2 ∧ c = b0 % 32 * 64 + b1 % 64 ∧ 128 ≤ c) ∨
  (l = 3 ∧ 3 ≤ n ∧ 224 ≤ b0 ∧ b0 < 240 ∧ b1 / 64 = 2 ∧ b2 / 64 = 2 ∧ c = b0 % 16 * 4096 + b1 % 64 * 64 + b2 % 64 ∧ 2048 ≤ c ∧ (c < 55296 ∨ 57344 ≤ c)) ∨
  (l = 4 ∧ 4 ≤ n ∧ 240 ≤ b0 ∧ b0 < 248 ∧ b1 / 64 = 2 ∧ b2 / 64 = 2 ∧ b3 / 64 = 2 ∧ c = b0 % 8 * 262144 + b1 % 64 * 4096 + b2 % 64 * 64 + b3 % 64 ∧ 65536 ≤ c ∧ c ≤ 1114111)

set_option maxRecDepth 20000 in
set_option maxHeartbeats 4000000 in
theorem dec_of' {n b0 b1 b2 b3 : Nat} (p : Nat × Nat) (hp : decodeN n b0 b1 b2 b3 = p) (hne : p ≠ (65533, 1)) : Dec n b0 b1 b2 b3 p.1 p.2 := by
  unfold decodeN at hp
  unfold Dec
  repeat' split at hp
  all_goals subst hp
  all_goals first
    | exact absurd rfl hne
    | exact .inl ⟨rfl, by assumption, rfl⟩
    | exact .inr (.inl ⟨rfl, by omega, by omega, by omega, by omega, rfl, by omega⟩)
    | exact .inr (.inr (.inl ⟨rfl, by omega, by omega, by omega, by omega, by omega, rfl, by omega, by omega⟩))
    | exact .inr (.inr (.inr ⟨rfl, by omega, by omega, by omega, by omega, by omega, by omega, rfl, by omega, by omega⟩))

theorem dec_of {n b0 b1 b2 b3 : Nat} (h : decodeN n b0 b1 b2 b3 ≠ (65533, 1)) : Dec n b0 b1 b2 b3 (decodeN n b0 b1 b2 b3).1 (decodeN n b0 b1 b2 b3).2 := dec_of' _ rfl h

set_option maxHeartbeats 4000000 in
theorem of_dec {n b0 b1 b2 b3 c l : Nat} (h : Dec n b0 b1 b2 b3 c l) : decodeN n b0 b1 b2 b3 = (c, l) := by
  unfold Dec at h
  unfold decodeN
  rcases h with ⟨rfl, h1, rfl⟩ | ⟨rfl, h1, h2, h3, h4, rfl, h5⟩ | ⟨rfl, h1, h2, h3, h4, h5, rfl, h6, h7⟩ | ⟨rfl, h1, h2, h3, h4, h5, h6, rfl, h7, h8⟩
  · rw [if_pos h1]
  · rw [if_neg (by omega), if_pos ⟨by omega, by omega, h4⟩, if_pos h5]
  · rw [if_neg (by omega), if_neg (by omega), if_pos ⟨by omega, ⟨by omega, h4⟩, by omega, h5⟩, if_pos ⟨h6, by omega⟩]
  · rw [if_neg (by omega), if_neg (by omega), if_neg (by omega), if_pos ⟨by omega, ⟨by omega, h4⟩, ⟨by omega, h5⟩, by omega, h6⟩, if_pos ⟨h7, by omega⟩]

theorem dec_len {n b0 b1 b2 b3 c l : Nat} (hn : 1 ≤ n) (h : Dec n b0 b1 b2 b3 c l) : l ≤ n ∧ 1 ≤ l := by
  unfold Dec at h; omega

theorem dec_ne {n b0 b1 b2 b3 c l : Nat} (h : Dec n b0 b1 b2 b3 c l) : (c, l) ≠ (65533, 1) := by
  unfold Dec at h
  intro e
  have e1 := congrArg Prod.fst e
  have e2 := congrArg Prod.snd e
  simp only at e1 e2
  omega

theorem dec_move {n m b0 b1 b2 b3 c1 c2 c3 c l : Nat} (h1 : 1 < l → c1 = b1) (h2 : 2 < l → c2 = b2) (h3 : 3 < l → c3 = b3) (hm : l ≤ m) (h : Dec n b0 b1 b2 b3 c l) : Dec m b0 c1 c2 c3 c l := by
  unfold Dec at h ⊢
  rcases h with h | h | h | h
  · exact .inl h
  · have := h1 (by omega); subst this; exact .inr (.inl (by omega))
  · have := h1 (by omega); have := h2 (by omega); subst c1 c2; exact .inr (.inr (.inl (by omega)))
  · have := h1 (by omega); have := h2 (by omega); have := h3 (by omega); subst c1 c2 c3; exact .inr (.inr (.inr (by omega)))

theorem first_class (b : Nat) : (firstT b % 8 = 0 ∧ b < 128) ∨ (firstT b % 8 = 1 ∧ 128 ≤ b ∧ (b < 194 ∨ 244 < b)) ∨ (firstT b = 2 ∧ 194 ≤ b ∧ b < 224) ∨ (firstT b = 19 ∧ b = 224) ∨ (firstT b = 3 ∧ 225 ≤ b ∧ b < 240 ∧ b ≠ 237) ∨
    (firstT b = 35 ∧ b = 237) ∨ (firstT b = 52 ∧ b = 240) ∨ (firstT b = 4 ∧ 241 ≤ b ∧ b < 244) ∨ (firstT b = 68 ∧ b = 244) := by
  unfold firstT
  repeat' split
  all_goals omega

set_option maxHeartbeats 8000000 in
theorem full_bad {n m b0 b1 b2 b3 c1 c2 c3 : Nat} (h1 : 1 < n → c1 = b1) (h2 : 2 < n → c2 = b2) (h3 : 3 < n → c3 = b3) (hn : 1 ≤ n) (h : decodeN n b0 b1 b2 b3 = (65533, 1)) (hf : fullN n b0 b1 b2 = true) :
    decodeN m b0 c1 c2 c3 = (65533, 1) := by
  refine Decidable.byContradiction fun hne => ?_
  have hd := dec_of hne
  generalize decodeN m b0 c1 c2 c3 = p at hne hd
  obtain ⟨c, l⟩ := p
  simp only at hd
  have hl : n < l := by
    rcases Nat.lt_or_ge n l with h' | h'
    · exact h'
    · have hd2 := dec_move (n := m) (m := n) (c1 := b1) (c2 := b2) (c3 := b3) (fun h => (h1 (by omega)).symm) (fun h => (h2 (by omega)).symm) (fun h => (h3 (by omega)).symm) h' hd
      exact absurd ((of_dec hd2).symm.trans h) (dec_ne hd2)
  unfold fullN at hf
  have hc := first_class b0
  unfold Dec at hd
  rcases hc with ⟨a, b⟩ | ⟨a, b⟩ | ⟨a, b⟩ | ⟨a, b⟩ | ⟨a, b⟩ | ⟨a, b⟩ | ⟨a, b⟩ | ⟨a, b⟩ | ⟨a, b⟩
  · omega
  · omega
  all_goals
    rw [a] at hf
    simp only [accLo, accHi] at hf
    rw [if_neg (by omega)] at hf
    rcases (show n = 1 ∨ n = 2 ∨ n = 3 by omega) with rfl | rfl | rfl
    · simp at hf
    · have e1 := h1 (by omega)
      subst e1
      simp at hf
      omega
    · have e1 := h1 (by omega)
      have e2 := h2 (by omega)
      subst e1 e2
      simp at hf
      omega

theorem part_few {n b0 b1 b2 : Nat} (h : fullN n b0 b1 b2 = false) : n ≤ 3 := by
  unfold fullN at h
  have hc := first_class b0
  rcases Nat.lt_or_ge 3 n with h' | h'
  · rw [if_pos (by omega)] at h; cases h
  · exact h'

/-! ### Units of words -/
theorem getD_app {s t : Wd} {i : Nat} (h : i < s.length) : (s ++ t).getD i 0 = s.getD i 0 := by
  rw [List.getD_eq_getElem?_getD, List.getD_eq_getElem?_getD, List.getElem?_append_left h]

theorem codeB_neg {s : Wd} : codeB s < 0 ↔ decB s = (65533, 1) := by
  unfold codeB
  split
  · rename_i h; exact ⟨fun _ => h, fun _ => by omega⟩
  · rename_i h; exact ⟨fun h' => by omega, fun h' => absurd h' h⟩

theorem codeB_pos {s : Wd} (h : 0 ≤ codeB s) : decB s ≠ (65533, 1) ∧ codeB s = ((decB s).1 : Int) := by
  have h1 : decB s ≠ (65533, 1) := fun e => by have := codeB_neg.2 e; omega
  refine ⟨h1, ?_⟩
  unfold codeB
  rw [if_neg h1]

theorem nat_byte {a b : UInt8} (h : a = b) : a.toNat = b.toNat := by rw [h]

/-- More behind a whole unit changes nothing. -/
theorem unit_app {s : Wd} (hs : s ≠ []) (t : Wd) (h : 0 ≤ codeB s) : decB (s ++ t) = decB s ∧ codeB (s ++ t) = codeB s ∧ 1 ≤ (decB s).2 ∧ (decB s).2 ≤ s.length := by
  obtain ⟨h1, h2⟩ := codeB_pos h
  have hl : 1 ≤ s.length := by rcases Nat.eq_zero_or_pos s.length with h | h; exact absurd (List.eq_nil_of_length_eq_zero h) hs; exact h
  have hd := dec_of (n := s.length) h1
  have hlen := dec_len hl hd
  have e0 : (s ++ t).getD 0 0 = s.getD 0 0 := getD_app (by omega)
  have hd2 := dec_move (m := (s ++ t).length) (c1 := ((s ++ t).getD 1 0).toNat) (c2 := ((s ++ t).getD 2 0).toNat) (c3 := ((s ++ t).getD 3 0).toNat)
    (fun h => nat_byte (getD_app (by omega))) (fun h => nat_byte (getD_app (by omega))) (fun h => nat_byte (getD_app (by omega))) (by rw [List.length_append]; omega) hd
  have hd3 := of_dec hd2
  have e1 : decB (s ++ t) = decB s := by
    show decodeN (s ++ t).length ((s ++ t).getD 0 0).toNat _ _ _ = decB s
    rw [e0, hd3]; rfl
  refine ⟨e1, ?_, hlen.2, hlen.1⟩
  unfold codeB
  rw [e1, e0]

/-- The unit that a text begins with is in its beginning. -/
theorem unit_of_app {p : Wd} (hp : p ≠ []) (t : Wd) (h : 0 ≤ codeB (p ++ t)) (hl : (decB (p ++ t)).2 ≤ p.length) : decB p = decB (p ++ t) := by
  obtain ⟨h1, h2⟩ := codeB_pos h
  have hl1 : 1 ≤ p.length := by rcases Nat.eq_zero_or_pos p.length with h | h; exact absurd (List.eq_nil_of_length_eq_zero h) hp; exact h
  have hd := dec_of (n := (p ++ t).length) h1
  have e0 : (p ++ t).getD 0 0 = p.getD 0 0 := getD_app (by omega)
  have hd2 := dec_move (m := p.length) (c1 := (p.getD 1 0).toNat) (c2 := (p.getD 2 0).toNat) (c3 := (p.getD 3 0).toNat)
    (fun h => (nat_byte (getD_app (by change 1 < (decB (p ++ t)).2 at h; omega))).symm) (fun h => (nat_byte (getD_app (by change 2 < (decB (p ++ t)).2 at h; omega))).symm) (fun h => (nat_byte (getD_app (by change 3 < (decB (p ++ t)).2 at h; omega))).symm) hl hd
  have hd3 := of_dec hd2
  show decodeN p.length (p.getD 0 0).toNat _ _ _ = _
  rw [← e0, hd3]; rfl

theorem fullB_fullN {s : Wd} (hs : s ≠ []) : fullB s = fullN s.length (s.getD 0 0).toNat (s.getD 1 0).toNat (s.getD 2 0).toNat := by
  match s, hs with
  | [a], _ => simp [fullB, fullN]
  | [a, b], _ => simp [fullB, fullN]
  | a :: b :: c :: t, _ => simp [fullB, fullN]

/-- A wrong byte stays one. -/
theorem bad_app {s : Wd} (hs : s ≠ []) (t : Wd) (h : codeB s < 0) (hf : fullB s = true) : codeB (s ++ t) < 0 := by
  rw [codeB_neg] at h ⊢
  have hl : 1 ≤ s.length := by rcases Nat.eq_zero_or_pos s.length with h | h; exact absurd (List.eq_nil_of_length_eq_zero h) hs; exact h
  have e0 : (s ++ t).getD 0 0 = s.getD 0 0 := getD_app (by omega)
  rw [fullB_fullN hs] at hf
  have := full_bad (m := (s ++ t).length) (c1 := ((s ++ t).getD 1 0).toNat) (c2 := ((s ++ t).getD 2 0).toNat) (c3 := ((s ++ t).getD 3 0).toNat)
    (fun h => nat_byte (getD_app h)) (fun h => nat_byte (getD_app h)) (fun h => nat_byte (getD_app h)) hl h hf
  show decodeN (s ++ t).length ((s ++ t).getD 0 0).toNat _ _ _ = _
  rw [e0]; exact this

theorem part_three {s : Wd} (hs : s ≠ []) (hf : fullB s = false) : s.length ≤ 3 := by
  rw [fullB_fullN hs] at hf
  exact part_few hf

/-! ### The codes of a word -/
def codesF : Nat → Wd → Option (List Int)
  | _, [] => some []
  | 0, _ :: _ => none
  | f + 1, b :: s => if codeB (b :: s) < 0 then none else (codesF f ((b :: s).drop (decB (b :: s)).2)).map (codeB (b :: s) :: ·)

theorem unit_len {s : Wd} (hs : s ≠ []) : 1 ≤ (decB s).2 ∧ (0 ≤ codeB s → (decB s).2 ≤ s.length) := by
  rcases Int.lt_or_le (codeB s) 0 with h | h
  · exact ⟨by rw [codeB_neg.1 h]; decide, fun h' => by omega⟩
  · have := unit_app hs [] h
    exact ⟨this.2.2.1, fun _ => this.2.2.2⟩

theorem codesF_fuel : ∀ (f g : Nat) (s : Wd), s.length ≤ f → s.length ≤ g → codesF f s = codesF g s
  | 0, g, [], _, _ => by cases g <;> rfl
  | 0, _, _ :: _, h, _ => by simp at h
  | f + 1, 0, [], _, _ => rfl
  | f + 1, g + 1, [], _, _ => rfl
  | f + 1, 0, _ :: _, _, h => by simp at h
  | f + 1, g + 1, b :: s, hf, hg => by
    unfold codesF
    have h1 := (unit_len (s := b :: s) (by simp)).1
    simp only [List.length_cons] at hf hg
    have hl : ((b :: s).drop (decB (b :: s)).2).length ≤ s.length := by rw [List.length_drop, List.length_cons]; omega
    rw [codesF_fuel f g _ (by omega) (by omega)]

def codesB (s : Wd) : Option (List Int) := codesF s.length s

theorem codesB_bad {s : Wd} (hs : s ≠ []) (h : codeB s < 0) : codesB s = none := by
  match s, hs with
  | b :: t, _ => unfold codesB codesF; simp [h]

theorem codesB_good {s : Wd} (hs : s ≠ []) (h : 0 ≤ codeB s) : codesB s = (codesB (s.drop (decB s).2)).map (codeB s :: ·) := by
  match s, hs with
  | b :: t, hs =>
    have h1 := (unit_len hs).1
    show codesF (t.length + 1) (b :: t) = _
    unfold codesF
    rw [if_neg (by omega)]
    have hl : ((b :: t).drop (decB (b :: t)).2).length ≤ t.length := by rw [List.length_drop, List.length_cons]; omega
    rw [codesF_fuel t.length _ _ hl (Nat.le_refl _)]
    rfl

/-- Behind one whole unit. -/
theorem codesB_unit {s : Wd} (hs : s ≠ []) (h : 0 ≤ codeB s) (hl : (decB s).2 = s.length) (t : Wd) : codesB (s ++ t) = (codesB t).map (codeB s :: ·) := by
  obtain ⟨e1, e2, _, _⟩ := unit_app hs t h
  rw [codesB_good (s := s ++ t) (by simp [hs]) (by rw [e2]; exact h), e1, e2, hl, List.drop_left']
  rfl

/-! ### How far -/
abbrev RowSt := Option (List Nat) × List Nat × Int

def stepC (codes : List Int) (st : RowSt) (c : Int) : RowSt := (some st.2.1, rowS codes st.1 st.2.1 st.2.2 c codes.length, c)
def runC (codes : List Int) (st : RowSt) (cs : List Int) : RowSt := cs.foldl (stepC codes) st
def endC (codes : List Int) (st : RowSt) : Nat := st.2.1.getD codes.length 0

/-- Nothing near enough any more. -/
def Lost (codes : List Int) (most : Nat) (st : RowSt) : Prop := (∀ k, k ≤ codes.length → most < st.2.1.getD k 0) ∧ ∀ la, st.1 = some la → ∀ k, k ≤ codes.length → most ≤ la.getD k 0

theorem rowS_len (codes : List Int) (last : Option (List Nat)) (was : List Nat) (before code : Int) : ∀ k, (rowS codes last was before code k).length = k + 1
  | 0 => rfl
  | k + 1 => by unfold rowS; rw [List.length_append, rowS_len codes last was before code k]; rfl

/-- One more number leaves the ones ahead of it. -/
theorem rowS_get (codes : List Int) (last : Option (List Nat)) (was : List Nat) (before code : Int) {j : Nat} : ∀ {k}, j ≤ k → (rowS codes last was before code k).getD j 0 = (rowS codes last was before code j).getD j 0
  | 0, h => by rw [show j = 0 by omega]
  | k + 1, h => by
    rcases Nat.lt_or_ge j (k + 1) with h1 | h1
    · unfold rowS
      rw [List.getD_eq_getElem?_getD, List.getElem?_append_left (by rw [rowS_len]; omega), ← List.getD_eq_getElem?_getD]
      rw [rowS_get codes last was before code (by omega : j ≤ k)]
      cases j <;> rfl
    · rw [show j = k + 1 by omega]

theorem rowS_zero (codes : List Int) (last : Option (List Nat)) (was : List Nat) (before code : Int) (n : Nat) : (rowS codes last was before code n).getD 0 0 = was.getD 0 0 + 1 := by
  rw [rowS_get codes last was before code (Nat.zero_le n)]; rfl

theorem rowS_succ (codes : List Int) (last : Option (List Nat)) (was : List Nat) (before code : Int) {k n : Nat} (h : k + 1 ≤ n) :
    (rowS codes last was before code n).getD (k + 1) 0 = cellS codes last was before code ((rowS codes last was before code n).getD k 0) k := by
  rw [rowS_get codes last was before code h, rowS_get codes last was before code (show k ≤ n by omega)]
  conv => lhs; unfold rowS
  rw [List.getD_eq_getElem?_getD, List.getElem?_append_right (by rw [rowS_len]; omega), rowS_len, Nat.sub_self]
  rfl

theorem Lost.step {codes : List Int} {most : Nat} {st : RowSt} (h : Lost codes most st) (c : Int) : Lost codes most (stepC codes st c) := by
  refine ⟨?_, fun la hla k hk => ?_⟩
  · intro k hk
    show most < (rowS codes st.1 st.2.1 st.2.2 c codes.length).getD k 0
    induction k with
    | zero => rw [rowS_zero]; have := h.1 0 (by omega); omega
    | succ k ih =>
      rw [rowS_succ _ _ _ _ _ hk]
      have h1 := h.1 (k + 1) hk
      have h2 := h.1 k (by omega)
      have h3 := ih (by omega)
      have h4 : most < min (min (st.2.1.getD (k + 1) 0 + 1) ((rowS codes st.1 st.2.1 st.2.2 c codes.length).getD k 0 + 1)) (st.2.1.getD k 0 + (if codes.getD k 0 = c then 0 else 1)) := by split <;> omega
      unfold cellS turnS
      split
      · exact h4
      · rename_i la hla
        split
        · rename_i hk0
          have h5 := h.2 la hla (k - 1) (by omega)
          omega
        · exact h4
  · cases hla
    exact Nat.le_of_lt (h.1 k hk)

theorem Lost.run {codes : List Int} {most : Nat} : ∀ {cs : List Int} {st : RowSt}, Lost codes most st → most < endC codes (runC codes st cs)
  | [], _, h => h.1 codes.length (Nat.le_refl _)
  | c :: cs, _, h => Lost.run (cs := cs) (h.step c)

theorem foldl_min_le' : ∀ (l : List Nat) (a : Nat), (l.foldl min a ≤ a) ∧ ∀ x ∈ l, l.foldl min a ≤ x
  | [], a => ⟨Nat.le_refl a, by simp⟩
  | y :: l, a => by
    obtain ⟨h1, h2⟩ := foldl_min_le' l (min a y)
    refine ⟨Nat.le_trans h1 (Nat.min_le_left _ _), fun x hx => ?_⟩
    rcases List.mem_cons.1 hx with rfl | hx
    · exact Nat.le_trans h1 (Nat.min_le_right _ _)
    · exact h2 x hx

theorem leastS_le {row : List Nat} {k : Nat} (hk : k < row.length) : leastS row ≤ row.getD k 0 := by
  unfold leastS
  rw [List.getD_eq_getElem?_getD, List.getElem?_eq_getElem hk]
  exact (foldl_min_le' row (row.headD 0)).2 _ (List.getElem_mem hk)

/-- A row that is too far is lost. -/
theorem lost_of {codes : List Int} {most : Nat} {st : RowSt} {c : Int} (h : ¬ leastS (rowS codes st.1 st.2.1 st.2.2 c codes.length) ≤ most) : Lost codes most (stepC codes st c) := by
  have h1 : ∀ k, k ≤ codes.length → most < (rowS codes st.1 st.2.1 st.2.2 c codes.length).getD k 0 := fun k hk => by
    have := leastS_le (row := rowS codes st.1 st.2.1 st.2.2 c codes.length) (k := k) (by rw [rowS_len]; omega)
    omega
  refine ⟨h1, fun la hla k hk => ?_⟩
  cases hla
  have h2 := h1 k hk
  rcases k with _ | k
  · rw [rowS_zero] at h2; omega
  · rw [rowS_succ _ _ _ _ _ hk] at h2
    have : cellS codes st.1 st.2.1 st.2.2 c ((rowS codes st.1 st.2.1 st.2.2 c codes.length).getD k 0) k ≤ st.2.1.getD (k + 1) 0 + 1 := Nat.le_trans turnS_le (Nat.le_trans (Nat.min_le_left _ _) (Nat.min_le_left _ _))
    omega

end Go.Proofs.YtdcdhcgfhapbnaaDoor

namespace Go.Proofs.YtdcdhcgfhapbnaaDoor
open Go Go.RowKit Go.Lib

theorem and192 : ∀ b ∈ List.range 256, bits BinOp.and IntKind.u8 (b : Int) 192 = ((b / 64 * 64 : Nat) : Int) := by decide +kernel
theorem and63 : ∀ b ∈ List.range 256, bits BinOp.and IntKind.u8 (b : Int) 63 = ((b % 64 : Nat) : Int) := by decide +kernel
theorem and31 : ∀ b ∈ List.range 256, bits BinOp.and IntKind.i64 (b : Int) 31 = ((b % 32 : Nat) : Int) := by decide +kernel
theorem and15 : ∀ b ∈ List.range 256, bits BinOp.and IntKind.i64 (b : Int) 15 = ((b % 16 : Nat) : Int) := by decide +kernel
theorem and7 : ∀ b ∈ List.range 256, bits BinOp.and IntKind.i64 (b : Int) 7 = ((b % 8 : Nat) : Int) := by decide +kernel

theorem or64 {a b : Nat} (ha : a < 1000000) (hb : b < 64) : bits BinOp.or IntKind.i64 ((a : Int) * 64) (b : Int) = (a : Int) * 64 + (b : Int) := by
  have e : ((a : Int) * 64) = ((a * 64 : Nat) : Int) := by omega
  have e2 : a * 64 ||| b = a * 64 + b := by
    have := Nat.shiftLeft_add_eq_or_of_lt (i := 6) (b := b) (by omega) a
    rw [Nat.shiftLeft_eq] at this
    exact this.symm
  rw [e]
  simp only [bits]
  show IntKind.i64.wrap ((BitVec.ofInt 64 ((a * 64 : Nat) : Int) ||| BitVec.ofInt 64 (b : Int)).toNat : Int) = _
  rw [BitVec.toNat_or, BitVec.toNat_ofInt, BitVec.toNat_ofInt]
  have h1 : (((a * 64 : Nat) : Int) % ((2 ^ 64 : Nat) : Int)).toNat = a * 64 := by omega
  have h2 : ((b : Int) % ((2 ^ 64 : Nat) : Int)).toNat = b := by omega
  rw [h1, h2, e2, IntKind.wrap_i64]
  omega

/-- The unit that a text begins with: its length. -/
def lenB (t : Wd) : Nat := if codeB t < 0 then 1 else (decB t).2

def valU (v1 : Nat) (t : Wd) : Nat → Nat
  | 0 => v1
  | k + 1 => valU v1 t k * 64 + (t.getD (k + 1) 0).toNat % 64

theorem valU_lt {v1 : Nat} {t : Wd} (h : v1 < 32) {k : Nat} (hk : k ≤ 2) : valU v1 t k < 1000000 := by
  have h1 : (t.getD 1 0).toNat % 64 < 64 := Nat.mod_lt _ (by decide)
  have h2 : (t.getD 2 0).toNat % 64 < 64 := Nat.mod_lt _ (by decide)
  rcases (show k = 0 ∨ k = 1 ∨ k = 2 by omega) with rfl | rfl | rfl
  · unfold valU; omega
  · unfold valU valU; omega
  · unfold valU valU valU; omega

/-- What 'one' answers. -/
def OneRes (t : Wd) (i : Nat) (w : World) (e : Ending) (w' : World) : Prop := e = .returned (.agg #[.int .i64 (i : Int), .int .i64 (lenB t : Int), .int .i64 (codeB t)]) ∧ w.grownBy w' none

theorem one_good {t : Wd} {c l : Nat} (h : Dec t.length (t.getD 0 0).toNat (t.getD 1 0).toNat (t.getD 2 0).toNat (t.getD 3 0).toNat c l) : codeB t = (c : Int) ∧ lenB t = l := by
  have e : decB t = (c, l) := of_dec h
  have hne := dec_ne h
  have e1 : codeB t = (c : Int) := by unfold codeB; rw [e, if_neg hne]
  refine ⟨e1, ?_⟩
  unfold lenB
  rw [e1, if_neg (by omega), e]

theorem one_bad {t : Wd} (h : ∀ c l, ¬ Dec t.length (t.getD 0 0).toNat (t.getD 1 0).toNat (t.getD 2 0).toNat (t.getD 3 0).toNat c l) : codeB t = -1 - ((t.getD 0 0).toNat : Int) ∧ lenB t = 1 := by
  have e : decB t = (65533, 1) := Decidable.byContradiction fun hne => h _ _ (dec_of hne)
  have e1 : codeB t = -1 - ((t.getD 0 0).toNat : Int) := by unfold codeB; rw [if_pos e]
  refine ⟨e1, ?_⟩
  unfold lenB
  rw [e1, if_pos (by omega)]

theorem drop_get {s : Wd} {i : Nat} (k : Nat) (h : i + k < s.length) : ∀ hh : i + k < (⟨s.toArray⟩ : ByteArray).size, (⟨s.toArray⟩ : ByteArray)[i + k] = (s.drop i).getD k 0 := by
  intro hh
  rw [List.getD_eq_getElem?_getD, List.getElem?_drop, List.getElem?_eq_getElem h]; rfl
end Go.Proofs.YtdcdhcgfhapbnaaDoor
