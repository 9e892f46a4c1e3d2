/-
  The document's places and the runs: what Set and Edit do to each place; its All; whether two lists are the same. Conditions: at most 2^31 places.
-/
import Derived.Test.YtijpienjejfmiaaRg13
import Derived.Test.YtijpienjejfmiaaRg11
import Derived.StillTailTactics
namespace Go.Proofs.Ytijpienjejfmiaa
open Go Go.RowKit

theorem getL_nat (l : List Int) (p : Nat) : getL l (p : Int) = l.getD p 0 := by
  unfold getL
  rw [if_neg (by omega), Int.toNat_natCast]

theorem getL_neg (l : List Int) {p : Int} (h : p < 0) : getL l p = 0 := if_pos h

theorem getD_pad (n : Nat) (l : List Int) (p : Nat) : (padZ n l).getD p 0 = l.getD p 0 := by
  unfold padZ
  rw [List.getD_eq_getElem?_getD, List.getD_eq_getElem?_getD, List.getElem?_append]
  split
  · rfl
  · rename_i h
    rw [List.getElem?_eq_none (by omega : l.length ≤ p), List.getElem?_replicate]
    split <;> rfl

theorem getD_fill (F : Nat) (g : Int) (p : Nat) : ∀ (n : Nat) (l : List Int), F + n ≤ l.length → (fillN F g n l).getD p 0 = if F ≤ p ∧ p < F + n then g else l.getD p 0
  | 0, l, _ => by
    rw [if_neg (by omega)]
    rfl
  | n + 1, l, h => by
    show ((fillN F g n l).set ((F : Int).toNat + n) g).getD p 0 = _
    rw [Int.toNat_natCast, List.getD_eq_getElem?_getD, List.getElem?_set]
    have ih := getD_fill F g p n l (by omega)
    rw [List.getD_eq_getElem?_getD] at ih
    by_cases h1 : F + n = p
    · rw [if_pos h1, if_pos (by rw [fillN_length]; omega), if_pos (by omega)]
      rfl
    · rw [if_neg h1, ih]
      by_cases h2 : F ≤ p ∧ p < F + n
      · rw [if_pos h2, if_pos (by omega)]
      · rw [if_neg h2, if_neg (by omega)]

theorem getL_set (F T : Nat) (g : Int) (l : List Int) (hFT : F ≤ T) (p : Int) : getL (fillN F g (T - F) (padZ (T - l.length) l)) p = if (F : Int) ≤ p ∧ p < (T : Int) then g else getL l p := by
  by_cases h : p < 0
  · rw [getL_neg _ h, getL_neg _ h, if_neg (by omega)]
  · obtain ⟨P, rfl⟩ : ∃ P : Nat, p = (P : Int) := ⟨p.toNat, by omega⟩
    rw [getL_nat, getL_nat, getD_fill F g P _ _ (by rw [padZ_length]; omega), getD_pad]
    by_cases h1 : F ≤ P ∧ P < F + (T - F)
    · rw [if_pos h1, if_pos (by omega)]
    · rw [if_neg h1, if_neg (by omega)]

theorem getL_edit (A D I : Nat) (l : List Int) (p : Int) : getL (editR A D I l) p = getL l (srcI A D I p) := by
  by_cases h : p < 0
  · unfold srcI
    rw [if_pos (by omega), getL_neg _ h, getL_neg _ h]
  · obtain ⟨P, rfl⟩ : ∃ P : Nat, p = (P : Int) := ⟨p.toNat, by omega⟩
    rw [getL_nat]
    unfold editR srcI
    by_cases hA : l.length ≤ A
    · rw [if_pos hA]
      by_cases h1 : (P : Int) < A
      · rw [if_pos h1, getL_nat]
      · rw [if_neg h1]
        have e0 : l.getD P 0 = 0 := by rw [List.getD_eq_getElem?_getD, List.getElem?_eq_none (by omega)]; rfl
        rw [e0]
        by_cases h2 : (P : Int) < A + I
        · rw [if_pos h2, getL_nat, List.getD_eq_getElem?_getD, List.getElem?_eq_none (by omega)]; rfl
        · rw [if_neg h2, show (P : Int) - I + D = ((P - I + D : Nat) : Int) by omega, getL_nat, List.getD_eq_getElem?_getD, List.getElem?_eq_none (by omega)]; rfl
    · rw [if_neg hA, List.append_assoc, List.getD_eq_getElem?_getD, List.getElem?_append, List.length_take, Nat.min_eq_left (by omega)]
      by_cases h1 : P < A
      · rw [if_pos h1, if_pos (by omega), getL_nat, List.getElem?_take_of_lt h1, List.getD_eq_getElem?_getD]
      · rw [if_neg h1, if_neg (by omega), List.getElem?_append, List.length_replicate]
        by_cases h2 : P - A < I
        · rw [if_pos h2, if_pos (by omega), getL_nat, List.getElem?_replicate, if_pos h2]
          rfl
        · rw [if_neg h2, if_neg (by omega), show (P : Int) - I + D = ((P - I + D : Nat) : Int) by omega, getL_nat, List.getElem?_drop, List.getD_eq_getElem?_getD]
          by_cases h3 : A + D ≤ l.length
          · rw [Nat.min_eq_left h3, show A + D + (P - A - I) = P - I + D by omega]
          · rw [Nat.min_eq_right (by omega), List.getElem?_eq_none (by omega), List.getElem?_eq_none (by omega)]

theorem editR_length (A D I : Nat) (l : List Int) : (editR A D I l).length ≤ l.length + I := by
  unfold editR
  split
  · omega
  · rw [List.length_append, List.length_append, List.length_take, List.length_replicate, List.length_drop]
    omega

/-- The places that are said, each by itself. -/
def unitsL : Nat → List Int → List Sp
  | _, [] => []
  | i, v :: l => if v = 0 then unitsL (i + 1) l else ⟨i, i + 1, v * 2⟩ :: unitsL (i + 1) l

theorem unitsL_snoc (v : Int) : ∀ (i : Nat) (l : List Int), unitsL i (l ++ [v]) = unitsL i l ++ (if v = 0 then [] else [⟨((i + l.length : Nat) : Int), ((i + l.length : Nat) : Int) + 1, v * 2⟩])
  | i, [] => by
    show (if v = 0 then unitsL (i + 1) [] else _ :: unitsL (i + 1) []) = _
    split <;> rfl
  | i, x :: l => by
    show (if x = 0 then unitsL (i + 1) (l ++ [v]) else _ :: unitsL (i + 1) (l ++ [v])) = (if x = 0 then unitsL (i + 1) l else _ :: unitsL (i + 1) l) ++ _
    rw [unitsL_snoc v (i + 1) l, show i + 1 + l.length = i + (x :: l).length by simp; omega]
    split <;> rfl

theorem mem_unitsL {x : Sp} : ∀ (i : Nat) (l : List Int), x ∈ unitsL i l ↔ ∃ j : Nat, j < l.length ∧ l.getD j 0 ≠ 0 ∧ x = ⟨((i + j : Nat) : Int), ((i + j : Nat) : Int) + 1, l.getD j 0 * 2⟩
  | i, [] => by simp [unitsL]
  | i, v :: l => by
    have ih := mem_unitsL (x := x) (i + 1) l
    have hR : (∃ j : Nat, j < (v :: l).length ∧ (v :: l).getD j 0 ≠ 0 ∧ x = ⟨((i + j : Nat) : Int), ((i + j : Nat) : Int) + 1, (v :: l).getD j 0 * 2⟩) ↔ (v ≠ 0 ∧ x = ⟨(i : Int), (i : Int) + 1, v * 2⟩) ∨ ∃ j : Nat, j < l.length ∧ l.getD j 0 ≠ 0 ∧ x = ⟨((i + 1 + j : Nat) : Int), ((i + 1 + j : Nat) : Int) + 1, l.getD j 0 * 2⟩ := by
      constructor
      · rintro ⟨j, h1, h2, h3⟩
        cases j with
        | zero => exact .inl ⟨h2, h3⟩
        | succ j =>
          refine .inr ⟨j, by simpa using h1, h2, ?_⟩
          rw [h3, show i + 1 + j = i + (j + 1) by omega]
          rfl
      · rintro (⟨h1, h2⟩ | ⟨j, h1, h2, h3⟩)
        · exact ⟨0, by simp, h1, h2⟩
        · refine ⟨j + 1, by simpa using h1, h2, ?_⟩
          rw [h3, show i + 1 + j = i + (j + 1) by omega]
          rfl
    rw [hR]
    show x ∈ (if v = 0 then unitsL (i + 1) l else _ :: unitsL (i + 1) l) ↔ _
    by_cases h : v = 0
    · rw [if_pos h, ih]
      exact ⟨.inr, fun h1 => by rcases h1 with ⟨h1, _⟩ | h1; exact absurd h h1; exact h1⟩
    · rw [if_neg h, List.mem_cons, ih]
      exact ⟨fun h1 => by rcases h1 with h1 | h1; exact .inl ⟨h, h1⟩; exact .inr h1, fun h1 => by rcases h1 with ⟨_, h1⟩ | h1; exact .inl h1; exact .inr h1⟩

theorem unitsL_apart : ∀ (i : Nat) (l : List Int), (unitsL i l).Pairwise (fun x y => x.b ≤ y.a)
  | _, [] => List.Pairwise.nil
  | i, v :: l => by
    show (if v = 0 then unitsL (i + 1) l else _ :: unitsL (i + 1) l).Pairwise _
    split
    · exact unitsL_apart (i + 1) l
    · refine List.pairwise_cons.2 ⟨fun y hy => ?_, unitsL_apart (i + 1) l⟩
      obtain ⟨j, _, _, h⟩ := (mem_unitsL (i + 1) l).1 hy
      rw [h]
      simp only
      omega

/-- The document's runs. -/
def allR (l : List Int) : List Sp := runsL (unitsL 0 l)

theorem allR_snoc (v : Int) (l : List Int) : allR (l ++ [v]) = if v = 0 then allR l else mergeS (allR l) ⟨(l.length : Int), (l.length : Int) + 1, v * 2⟩ := by
  unfold allR runsL
  rw [unitsL_snoc, List.foldl_append]
  split
  · rfl
  · rw [Nat.zero_add]
    rfl

theorem allR_at (l : List Int) (hl : ∀ x ∈ l, 0 ≤ x) : Can (allR l) ∧ ∀ p k, (∃ x ∈ allR l, Cv x p ∧ x.k = k) ↔ getL l p = k ∧ 0 < k := by
  obtain ⟨h1, h2⟩ := runs_can (unitsL 0 l) [] ⟨List.Pairwise.nil, by simp⟩ (fun x hx => by
    obtain ⟨j, _, _, h⟩ := (mem_unitsL 0 l).1 hx
    rw [h]; simp only; omega) (unitsL_apart 0 l) (by simp)
  refine ⟨h1, fun p k => (h2 p k).trans ?_⟩
  constructor
  · rintro (⟨x, hx, _⟩ | ⟨s, hs, h3, h4⟩)
    · cases hx
    · obtain ⟨j, h5, h6, rfl⟩ := (mem_unitsL 0 l).1 hs
      unfold Cv at h3
      simp only at h3 h4
      have hp : p = (j : Int) := by omega
      have h0 : 0 ≤ l.getD j 0 := by
        rw [List.getD_eq_getElem?_getD, List.getElem?_eq_getElem h5]
        exact hl _ (List.getElem_mem h5)
      rw [hp, getL_nat]
      omega
  · rintro ⟨h3, h4⟩
    by_cases hp : p < 0
    · rw [getL_neg _ hp] at h3; omega
    · obtain ⟨P, rfl⟩ : ∃ P : Nat, p = (P : Int) := ⟨p.toNat, by omega⟩
      rw [getL_nat] at h3
      have hP : P < l.length := by
        apply Classical.byContradiction
        intro h5
        rw [List.getD_eq_getElem?_getD, List.getElem?_eq_none (by omega)] at h3
        simp at h3
        omega
      refine .inr ⟨_, (mem_unitsL 0 l).2 ⟨P, hP, by omega, rfl⟩, ?_, ?_⟩
      · unfold Cv; simp only; omega
      · simp only; omega

/-- The runs and the row say the same. -/
structure Agree (b : Int) (L : List Sp) (l : List Int) : Prop where
  rn : Rn b L
  dis : Dis L
  at_ : ∀ p, atL L p = getL l p
  len : (l.length : Int) ≤ b
  nn : ∀ x ∈ l, 0 ≤ x

theorem Agree.all {b : Int} {L : List Sp} {l : List Int} (h : Agree b L l) (ho : Ord L) : runsL L = allR l := by
  obtain ⟨h1, h2⟩ := runsL_at ho h.dis h.rn
  obtain ⟨h3, h4⟩ := allR_at l h.nn
  refine can_uniq h1 h3 fun p k => ?_
  rw [h2, h4, h.at_]

theorem Agree.nil : Agree 0 [] [] := by
  refine ⟨fun x hx => absurd hx List.not_mem_nil, fun x hx => absurd hx List.not_mem_nil, fun p => ?_, ?_, fun x hx => absurd hx List.not_mem_nil⟩
  · unfold getL
    split <;> rfl
  · simp

theorem Agree.mono {b c : Int} {L : List Sp} {l : List Int} (h : Agree b L l) (hc : b ≤ c) : Agree c L l :=
  ⟨fun x hx => by have := h.rn x hx; omega, h.dis, h.at_, by have := h.len; omega, h.nn⟩

theorem fill_nn (F g : Int) (hg : 0 ≤ g) : ∀ (n : Nat) (l : List Int), (∀ x ∈ l, 0 ≤ x) → ∀ x ∈ fillN F g n l, 0 ≤ x
  | 0, _, h => h
  | n + 1, l, h => fun x hx => by
    rcases List.mem_or_eq_of_mem_set hx with h1 | h1
    · exact fill_nn F g hg n l h x h1
    · omega

theorem Agree.set {b : Int} {L : List Sp} {l : List Int} (h : Agree b L l) (F T : Nat) (g : Int) (hFT : F < T) (hT : (T : Int) ≤ b) (hg : 0 ≤ g ∧ g ≤ 400) : Agree b (setL F T g L) (fillN F g (T - F) (padZ (T - l.length) l)) :=
  ⟨set_rn (by omega) hT (by omega) h.rn, set_dis (by omega) h.dis, fun p => by
    rw [set_at (by omega) hg.1 h.dis h.rn, getL_set F T g l (by omega), h.at_], by
    have := h.len
    rw [fillN_length, padZ_length]
    omega, fill_nn _ _ hg.1 _ _ fun x hx => by
      unfold padZ at hx
      rcases List.mem_append.1 hx with hx | hx
      · exact h.nn x hx
      · rw [List.eq_of_mem_replicate hx]; exact Int.le_refl 0⟩

/-- Nothing said. -/
theorem Agree.pad {b : Int} {L : List Sp} {l : List Int} (h : Agree b L l) (F : Nat) (g : Int) (hT : (F : Int) ≤ b) : Agree b L (fillN F g (F - F) (padZ (F - l.length) l)) := by
  refine ⟨h.rn, h.dis, fun p => ?_, ?_, ?_⟩
  · rw [getL_set F F g l (Nat.le_refl _), if_neg (by omega), h.at_]
  · have := h.len
    rw [fillN_length, padZ_length]
    omega
  · intro x hx
    rw [Nat.sub_self] at hx
    change x ∈ padZ _ l at hx
    unfold padZ at hx
    rcases List.mem_append.1 hx with hx | hx
    · exact h.nn x hx
    · rw [List.eq_of_mem_replicate hx]; exact Int.le_refl 0

theorem Agree.edit {b : Int} {L : List Sp} {l : List Int} (h : Agree b L l) (A D I : Nat) (hb : b + I ≤ 1099511627776) : Agree (b + I) (evenE A D I L) (editR A D I l) :=
  ⟨edit_rn (by omega) (by omega) (by omega) hb h.rn, edit_dis (by omega) (by omega) (by omega) hb h.rn h.dis, fun p => by
    rw [edit_at (by omega) (by omega) (by omega) hb h.rn h.dis, getL_edit, h.at_], by
    have := h.len
    have := editR_length A D I l
    omega, fun x hx => by
    unfold editR at hx
    split at hx
    · exact h.nn x hx
    · rcases List.mem_append.1 hx with hx | hx
      · rcases List.mem_append.1 hx with hx | hx
        · exact h.nn x (List.mem_of_mem_take hx)
        · rw [List.eq_of_mem_replicate hx, List.getD_eq_getElem?_getD]
          cases hh : l[A]? with
          | none => exact Int.le_refl 0
          | some y => exact h.nn y (List.mem_of_getElem? hh)
      · exact h.nn x (List.mem_of_mem_drop hx)⟩
end Go.Proofs.Ytijpienjejfmiaa

namespace Go.Proofs.Ytijpienjejfmiaa
open Go Go.RowKit

theorem allR_take {l : List Int} {j : Nat} (hj : j < l.length) : allR (l.take (j + 1)) = if l[j] = 0 then allR (l.take j) else mergeS (allR (l.take j)) ⟨(j : Int), (j : Int) + 1, l[j] * 2⟩ := by
  rw [List.take_succ_eq_append_getElem hj, allR_snoc, List.length_take, Nat.min_eq_left (by omega)]

theorem allR_length (l : List Int) (j : Nat) (hj : j ≤ l.length) : (allR (l.take j)).length ≤ j := by
  induction j with
  | zero => simp [allR, unitsL, runsL]
  | succ j ih =>
    rw [allR_take (by omega)]
    have := mergeS_length (allR (l.take j)) ⟨(j : Int), (j : Int) + 1, l[j] * 2⟩
    have := ih (by omega)
    split <;> omega

/-- All's loop. -/
def Runs2Rel (l : List Int) (w : World) (lv iv : Value) (wr : World) : Prop :=
  ∃ j : Nat, j ≤ l.length ∧ iv = .int .i64 (j : Int) ∧ Spans wr w.heap.size lv (allR (l.take j)) ∧ w.grownBy wr none

set_option maxRecDepth 100000 in
set_option maxHeartbeats 2000000 in
theorem all22_walk {q : Nat} {l : List Int} {v : Value} {w : World} (hl : l.length ≤ 2147483648) (h : R2 q l v w) :
    Calls Try.prog 26 #[.pointer (some ⟨q, 0, none⟩)] w fun e w' => ∃ A c, e = .returned (.slice A (allR l).length c) ∧ Spans w' w.heap.size (.slice A (allR l).length c) (allR l) ∧ w.grownBy w' none := by
  obtain ⟨i0, hi, hz0, hz1, hz2⟩ := info_parts span_info
  obtain ⟨rA, rc, rfl, hsl⟩ := int_slice h.own
  have HSL := Lib.hid hsl
  have H := Lib.hid h
  clear h hsl
  go_enter Try.func26, Try.ntmps26
  go_wp2_with fail
  go_loopw [3, 4] (fun lv iv wr => Runs2Rel l w lv iv wr) (fun _ iv _ => l.length - (RowKit.intOf iv).toNat)
  case atStart => exact ⟨0, Nat.zero_le _, rfl, World.ownsRow_nil _ _ _ _, grownBy_refl _ _⟩
  case round =>
    obtain ⟨j, hj, rfl, hsp, hgr⟩ := hrel
    have r0 := (H.out.ofHeap hgr).cell
    rcases Nat.lt_or_ge j l.length with hlt | hge
    · obtain ⟨b, o, rfl, hcc⟩ := (HSL.out.kept hgr nofun).2.2 (by omega)
      have hc0 := hcc j (.int .i64 l[j]) (by rw [List.getElem?_map, List.getElem?_eq_getElem hlt]; rfl)
      have hct := allR_take hlt
      have hlj := allR_length l j hj
      have hltI : (j : Int) < (l.length : Int) := Int.ofNat_lt.2 hlt
      have hwj : IntKind.i64.wrap ((j : Int) + 1) = (j : Int) + 1 := by rw [IntKind.wrap_i64]; omega
      generalize l[j] = s at *
      obtain ⟨lA, lc, rfl, hsl⟩ := own_slice hsp
      have hszr := hgr.size
      have HCT := Lib.hid hct
      clear hct hcc
      by_cases hs0 : s = 0
      · subst hs0
        have HSP := Lib.hid hsp
        have HGR := Lib.hid hgr
        have hct := HCT.out
        rw [if_pos rfl] at hct
        have HCT2 := Lib.hid hct
        clear hct HCT hsl hsp hgr
        go_wp2_with fail
        go_roundw
        case rel => exact ⟨j + 1, hlt, by simp, by rw [HCT2.out]; exact HSP.out, HGR.out⟩
        case measure => exact meas hlt
      · have hct := HCT.out
        rw [if_neg hs0] at hct
        have hs0b : (s == 0) = false := by simp [hs0]
        have HCT1 := Lib.hid hct
        clear hct HCT
        generalize hacc : allR (l.take j) = acc at *
        have htwo : s * 2 / 2 = s := by omega
        rcases List.eq_nil_or_concat acc with rfl | ⟨ini, z, rfl⟩
        · have hct := HCT1.out
          rw [mergeS_nil] at hct
          simp only [htwo] at hct
          have HCT2 := Lib.hid hct
          clear hct HCT1 hacc
          go_upto_region 8 with (fail)
          go_quiet (fail)
          have R1 : (wr.drewN nq).cell? ⟨q, 0, none⟩ = some (.slice (some ⟨b, o, none⟩) l.length rc) := r0
          have C1 : (wr.drewN nq).cell? ⟨b, o + j, none⟩ = some (.int .i64 s) := hc0
          have hsp8 := ownsRow_drewN hsp nq
          have hg8 := grownBy_drewN hgr nq
          generalize hw8 : wr.drewN nq = w8 at *
          clear r0 hc0 hw8
          go_upto_region 6 with (fail)
          have hX := grownBy_alloc (grownBy_refl w8 none) (spO ⟨(j : Int), (j : Int) + 1, s⟩)
          have hsl9 := Sl.of_own (World.ownsRow_lit (base := 0) (size := 3) (e := 25) w8 #[.int .i64 (j : Int), .int .i64 ((j : Int) + 1), .int .i64 s] 1 (Nat.zero_le _) (by decide) rfl) (rowS_one [⟨(j : Int), (j : Int) + 1, s⟩])
          have hown9 := ownsRow_kept hsp8 hX (own_none _)
          have HSL9 := Lib.hid hsl9
          have HO9 := Lib.hid hown9
          have HG9 := Lib.hid (grownBy_trans hg8 hX nofun)
          have hsz8 := hg8.size
          clear hsl9 hX hown9 hsp8 hg8 hsl hsp hgr
          go_wp2_with (at_builtin; refine wpList_append_sl _ rfl (.tmp 17) (.tmp 29) 32 rfl w.heap.size 25 i0 _ 3 24 Try.underlying32 hi hz0 hz1 hz2 rfl (by decide) (.slice lA 0 lc) 0 _ rfl HO9.out (some ⟨w8.heap.size, 0, none⟩) 1 1 _ rfl HSL9.out (by unfold maxLen; omega) (by omega) (by simp; omega) ?_)
          rintro v' w10 ⟨hs10, hg10, _⟩
          have hg11 : w.grownBy w10 none := grownBy_trans HG9.out hg10 (fun i e => .inr ((HO9.out.lt i e).1))
          have hs11 : Spans w10 w.heap.size v' (([] : List Sp) ++ [⟨(j : Int), (j : Int) + 1, s⟩]) := by
            unfold Spans
            rw [List.length_append, rowS_append]
            exact hs10
          have HS11 := Lib.hid hs11
          have HG11 := Lib.hid hg11
          clear hs10 hg10 hs11 hg11 R1 C1
          go_wp2_with fail
          go_roundw
          case rel => exact ⟨j + 1, hlt, by simp, by rw [HCT2.out]; exact HS11.out, HG11.out⟩
          case measure => exact meas hlt
        · rw [List.concat_eq_append] at *
          obtain ⟨N, hN⟩ : ∃ N, ini.length = N := ⟨_, rfl⟩
          have hlen : (ini ++ [z]).length = N + 1 := by simp [hN]
          have hNj : N + 1 ≤ j := by rw [← hlen]; exact hlj
          have hct := HCT1.out
          rw [mergeS_snoc] at hct
          simp only [htwo] at hct
          obtain ⟨q', cap', hv, hcap, hq1, hq2⟩ := own_form hsp (by rw [hlen]; omega)
          cases hv
          have hzc := Sl.of_own hsp (rowS_one _)
          obtain ⟨q'', o', he, hzz⟩ := hzc.2.2 (by rw [hlen]; omega)
          cases he
          have hz1' : (rowS (ini ++ [z]))[N * 3 + 1]? = some (.int .i64 z.b) := by
            rw [rowS_append, List.getElem?_append_right (by rw [rowS_length, hN]; omega), rowS_length, hN, show N * 3 + 1 - N * 3 = 1 by omega]
            rfl
          have hz2' : (rowS (ini ++ [z]))[N * 3 + 2]? = some (.int .i64 z.k) := by
            rw [rowS_append, List.getElem?_append_right (by rw [rowS_length, hN]; omega), rowS_length, hN, show N * 3 + 2 - N * 3 = 2 by omega]
            rfl
          have x1 := hzz _ _ hz1'
          have x2 := hzz _ _ hz2'
          rw [Nat.zero_add] at x1 x2
          unfold Spans at hsp
          simp only [hlen] at hsp ⊢
          have HCT3 := Lib.hid hct
          have hn1 : IntKind.i64.wrap ((N : Int) + 1 - 1) = (N : Int) := by rw [IntKind.wrap_i64]; omega
          have hNI : (0 : Int) < (N : Int) + 1 := by omega
          clear hct hzc hzz hz1' hz2' hsl HCT1 hacc
          by_cases e1 : z.b = (j : Int)
          · by_cases e2 : z.k = s
            · have hct := HCT3.out
              rw [if_pos ⟨e1, e2⟩] at hct
              have HCT2 := Lib.hid hct
              have b1 : (z.b == (j : Int)) = true := by simp [e1]
              have b2 : (z.k == s) = true := by simp [e2]
              have HE := Lib.hid (And.intro e1 e2)
              clear hct e1 e2
              go_upto_region 8 with (fail)
              go_quiet (fail)
              have hsp8 := ownsRow_drewN hsp nq
              have hg8 := grownBy_drewN hgr nq
              have y1 : (wr.drewN nq).cell? ⟨q', N * 3 + 1, none⟩ = some (.int .i64 z.b) := x1
              generalize hw8 : wr.drewN nq = w8 at *
              clear x1 x2 hw8 r0 hc0
              have f1 : w8.frozen? ⟨q', N * 3 + 1, none⟩ = false := by
                rcases hsp8.2 with ⟨hv, _⟩ | ⟨_, _, _, hv, _, hh, _⟩
                · cases hv
                · cases hv
                  exact frozen_of_heap hh _
              have hs9 := own_set hsp8 (N * 3 + 1) (by omega) (.int .i64 ((j : Int) + 1))
              have hg9 := grownBy_setCell hg8 q' (N * 3 + 1) (.int .i64 ((j : Int) + 1)) (.inr hq1)
              have hs11 : Spans (w8.setCell ⟨q', N * 3 + 1, none⟩ (.int .i64 ((j : Int) + 1))) w.heap.size (.slice (some ⟨q', 0, none⟩) (N + 1) lc) (ini ++ [⟨z.a, (j : Int) + 1, z.k⟩]) := by
                unfold Spans
                rw [List.length_append, hN, ← rowS_set, hN]
                exact hs9
              have HS11 := Lib.hid hs11
              have HG11 := Lib.hid hg9
              clear hsp8 hg8 hs9 hg9 hs11 hsp hgr
              go_wp2_with fail
              go_roundw
              case rel => exact ⟨j + 1, hlt, by simp, by rw [HCT2.out]; exact HS11.out, HG11.out⟩
              case measure => exact meas hlt
            · have hct := HCT3.out
              rw [if_neg (fun h => e2 h.2)] at hct
              have HCT2 := Lib.hid hct
              have b1 : (z.b == (j : Int)) = true := by simp [e1]
              have b2 : (z.k == s) = false := by simp [e2]
              have HE := Lib.hid (And.intro e1 e2)
              clear hct e1 e2
              go_upto_region 8 with (fail)
              go_quiet (fail)
              have R1 : (wr.drewN nq).cell? ⟨q, 0, none⟩ = some (.slice (some ⟨b, o, none⟩) l.length rc) := r0
              have C1 : (wr.drewN nq).cell? ⟨b, o + j, none⟩ = some (.int .i64 s) := hc0
              have hsp8 := ownsRow_drewN hsp nq
              have hg8 := grownBy_drewN hgr nq
              generalize hw8 : wr.drewN nq = w8 at *
              clear r0 hc0 hw8 x1 x2
              go_upto_region 6 with (fail)
              have hX := grownBy_alloc (grownBy_refl w8 none) (spO ⟨(j : Int), (j : Int) + 1, s⟩)
              have hsl9 := Sl.of_own (World.ownsRow_lit (base := 0) (size := 3) (e := 25) w8 #[.int .i64 (j : Int), .int .i64 ((j : Int) + 1), .int .i64 s] 1 (Nat.zero_le _) (by decide) rfl) (rowS_one [⟨(j : Int), (j : Int) + 1, s⟩])
              have hown9 := ownsRow_kept hsp8 hX (own_none _)
              have HSL9 := Lib.hid hsl9
              have HO9 := Lib.hid hown9
              have HG9 := Lib.hid (grownBy_trans hg8 hX nofun)
              have hsz8 := hg8.size
              have hmx : N + 1 + 1 ≤ maxLen ∧ (N + 1 + 1) * 24 ≤ 140737488355328 := big_ok (by omega)
              clear hsl9 hX hown9 hsp8 hg8 hsp hgr
              go_wp2_with (at_builtin; refine wpList_append_sl _ rfl (.tmp 17) (.tmp 29) 32 rfl w.heap.size 25 i0 _ 3 24 Try.underlying32 hi hz0 hz1 hz2 rfl (by decide) (.slice (some ⟨q', 0, none⟩) (N + 1) lc) (N + 1) _ rfl HO9.out (some ⟨w8.heap.size, 0, none⟩) 1 1 _ rfl HSL9.out hmx.1 hmx.2 (Nat.le_trans hsz8 (by simp)) ?_)
              rintro v' w10 ⟨hs10, hg10, _⟩
              have hg11 : w.grownBy w10 none := grownBy_trans HG9.out hg10 (fun i e => .inr ((HO9.out.lt i e).1))
              have hs11 : Spans w10 w.heap.size v' (ini ++ [z] ++ [⟨(j : Int), (j : Int) + 1, s⟩]) := by
                unfold Spans
                rw [List.length_append, rowS_append, hlen]
                exact hs10
              have HS11 := Lib.hid hs11
              have HG11 := Lib.hid hg11
              clear hs10 hg10 hs11 hg11 R1 C1 hmx
              go_wp2_with fail
              go_roundw
              case rel => exact ⟨j + 1, hlt, by simp, by rw [HCT2.out]; exact HS11.out, HG11.out⟩
              case measure => exact meas hlt
          · have hct := HCT3.out
            rw [if_neg (fun h => e1 h.1)] at hct
            have HCT2 := Lib.hid hct
            have b1 : (z.b == (j : Int)) = false := by simp [e1]
            have HE := Lib.hid e1
            clear hct e1
            go_upto_region 8 with (fail)
            go_quiet (fail)
            have R1 : (wr.drewN nq).cell? ⟨q, 0, none⟩ = some (.slice (some ⟨b, o, none⟩) l.length rc) := r0
            have C1 : (wr.drewN nq).cell? ⟨b, o + j, none⟩ = some (.int .i64 s) := hc0
            have hsp8 := ownsRow_drewN hsp nq
            have hg8 := grownBy_drewN hgr nq
            generalize hw8 : wr.drewN nq = w8 at *
            clear r0 hc0 hw8 x1 x2
            go_upto_region 6 with (fail)
            have hX := grownBy_alloc (grownBy_refl w8 none) (spO ⟨(j : Int), (j : Int) + 1, s⟩)
            have hsl9 := Sl.of_own (World.ownsRow_lit (base := 0) (size := 3) (e := 25) w8 #[.int .i64 (j : Int), .int .i64 ((j : Int) + 1), .int .i64 s] 1 (Nat.zero_le _) (by decide) rfl) (rowS_one [⟨(j : Int), (j : Int) + 1, s⟩])
            have hown9 := ownsRow_kept hsp8 hX (own_none _)
            have HSL9 := Lib.hid hsl9
            have HO9 := Lib.hid hown9
            have HG9 := Lib.hid (grownBy_trans hg8 hX nofun)
            have hsz8 := hg8.size
            have hmx : N + 1 + 1 ≤ maxLen ∧ (N + 1 + 1) * 24 ≤ 140737488355328 := big_ok (by omega)
            clear hsl9 hX hown9 hsp8 hg8 hsp hgr
            go_wp2_with (at_builtin; refine wpList_append_sl _ rfl (.tmp 17) (.tmp 29) 32 rfl w.heap.size 25 i0 _ 3 24 Try.underlying32 hi hz0 hz1 hz2 rfl (by decide) (.slice (some ⟨q', 0, none⟩) (N + 1) lc) (N + 1) _ rfl HO9.out (some ⟨w8.heap.size, 0, none⟩) 1 1 _ rfl HSL9.out hmx.1 hmx.2 (Nat.le_trans hsz8 (by simp)) ?_)
            rintro v' w10 ⟨hs10, hg10, _⟩
            have hg11 : w.grownBy w10 none := grownBy_trans HG9.out hg10 (fun i e => .inr ((HO9.out.lt i e).1))
            have hs11 : Spans w10 w.heap.size v' (ini ++ [z] ++ [⟨(j : Int), (j : Int) + 1, s⟩]) := by
              unfold Spans
              rw [List.length_append, rowS_append, hlen]
              exact hs10
            have HS11 := Lib.hid hs11
            have HG11 := Lib.hid hg11
            clear hs10 hg10 hs11 hg11 R1 C1 hmx
            go_wp2_with fail
            go_roundw
            case rel => exact ⟨j + 1, hlt, by simp, by rw [HCT2.out]; exact HS11.out, HG11.out⟩
            case measure => exact meas hlt
    · have hjR : j = l.length := Nat.le_antisymm hj hge
      subst hjR
      rw [List.take_length] at hsp
      obtain ⟨lA, lc, rfl, _⟩ := own_slice hsp
      have HSP := Lib.hid hsp
      have HF := Lib.hid hgr
      clear hsp hgr
      go_wp2_with fail
      go_ret
      exact ⟨lA, lc, rfl, HSP.out, HF.out⟩
end Go.Proofs.Ytijpienjejfmiaa

namespace Go.Proofs.Ytijpienjejfmiaa
open Go Go.RowKit

set_option maxHeartbeats 1000000 in
theorem sameone_walk (x : Sp) (w : World) : Calls Try.prog 41 #[spanV x, spanV x] w fun e w' => e = .returned (.bool true) ∧ w.grownBy w' none := by
  have b1 : (x.a == x.a) = true := by simp
  have b2 : (x.b == x.b) = true := by simp
  have b3 : (x.k == x.k) = true := by simp
  go_enter Try.func41, Try.ntmps41
  go_upto_region 1 with (fail)
  have hA : ((w.alloc (spO x)).alloc (spO x)).heap[w.heap.size]? = some (spO x) := by
    rw [Below.heap_alloc _ _ _ (by simp)]
    exact heap_new _ _
  have hB : ((w.alloc (spO x)).alloc (spO x)).heap[w.heap.size + 1]? = some (spO x) := heap_new' _ _ (by simp)
  have HG := Lib.hid (grownBy_alloc (grownBy_alloc (grownBy_refl w none) (spO x)) (spO x))
  generalize hw2 : (w.alloc (spO x)).alloc (spO x) = w2 at *
  generalize hsz : w.heap.size = sz at *
  have a0 := cell_of_heap hA 0
  have a1 := cell_of_heap hA 1
  have a2 := cell_of_heap hA 2
  have c0 := cell_of_heap hB 0
  have c1 := cell_of_heap hB 1
  have c2 := cell_of_heap hB 2
  clear hA hB hw2 hsz
  go_wp2_with fail
  go_ret
  exact ⟨rfl, HG.out⟩

/-- The comparing loop. -/
def SmRel (L : List Sp) (w : World) (iv : Value) (wr : World) : Prop :=
  ∃ j : Nat, j ≤ L.length ∧ iv = .int .i64 (j : Int) ∧ w.grownBy wr none

set_option maxRecDepth 100000 in
set_option maxHeartbeats 2000000 in
theorem same21_walk {A1 A2 : Option Addr} {c1 c2 : Nat} {L : List Sp} {w : World} (hl : L.length ≤ 2147483648) (h1 : Sl w 3 A1 L.length (rowS L)) (h2 : Sl w 3 A2 L.length (rowS L)) :
    Calls Try.prog 24 #[.slice A1 L.length c1, .slice A2 L.length c2] w fun e w' => e = .returned (.bool true) ∧ w.grownBy w' none := by
  have H1 := Lib.hid h1
  have H2 := Lib.hid h2
  clear h1 h2
  have b0 : ((L.length : Int) != (L.length : Int)) = false := by simp
  go_enter Try.func24, Try.ntmps24
  go_wp2_with fail
  go_loopw [5] (fun iv wr => SmRel L w iv wr) (fun iv _ => L.length - (RowKit.intOf iv).toNat)
  case atStart => exact ⟨0, Nat.zero_le _, rfl, grownBy_refl _ _⟩
  case round =>
    obtain ⟨j, hj, rfl, hgr⟩ := hrel
    rcases Nat.lt_or_ge j L.length with hlt | hge
    · have hltI : (j : Int) < (L.length : Int) := Int.ofNat_lt.2 hlt
      obtain ⟨p1, o1, rfl, hc1⟩ := (H1.out.kept hgr nofun).2.2 (by omega)
      obtain ⟨p2, o2, rfl, hc2⟩ := (H2.out.kept hgr nofun).2.2 (by omega)
      obtain ⟨r1, r2, r3⟩ := rowS_at L j hlt
      have x0 := hc1 _ _ r1
      have x1 := hc1 _ _ r2
      have x2 := hc1 _ _ r3
      have y0 := hc2 _ _ r1
      have y1 := hc2 _ _ r2
      have y2 := hc2 _ _ r3
      rw [← Nat.add_assoc] at x1 x2 y1 y2
      have hsm := fun w => sameone_walk L[j] w
      generalize L[j] = s at *
      have X0 : wr.drew.cell? ⟨p1, o1 + j * 3, none⟩ = _ := x0
      have X1 : wr.drew.cell? ⟨p1, o1 + j * 3 + 1, none⟩ = _ := x1
      have X2 : wr.drew.cell? ⟨p1, o1 + j * 3 + 2, none⟩ = _ := x2
      have Y0 : wr.drew.cell? ⟨p2, o2 + j * 3, none⟩ = _ := y0
      have Y1 : wr.drew.cell? ⟨p2, o2 + j * 3 + 1, none⟩ = _ := y1
      have Y2 : wr.drew.cell? ⟨p2, o2 + j * 3 + 2, none⟩ = _ := y2
      have HGD := Lib.hid (grownBy_drew hgr)
      clear hc1 hc2 r1 r2 r3
      go_upto_region 6 with (fail)
      go_still_tail 8, (by kernel_rfl)
      change wpList _ _ _ _ _ wr.drew
      clear x0 x1 x2 y0 y1 y2 hgr
      go_wp2_with fail
      refine (hsm _).mono ?_
      rintro e w2 ⟨rfl, hg2⟩
      have HG2 := Lib.hid (grownBy_trans HGD.out hg2 nofun)
      clear hg2 X0 X1 X2 Y0 Y1 Y2
      go_wp2_with fail
      go_roundw
      case rel => exact ⟨j + 1, hlt, by simp, HG2.out⟩
      case measure => exact meas hlt
    · have hb : ¬ (j : Int) < (L.length : Int) := by omega
      have HF := Lib.hid hgr
      clear hgr
      go_wp2_with fail
      go_ret
      exact ⟨rfl, HF.out⟩
end Go.Proofs.Ytijpienjejfmiaa
