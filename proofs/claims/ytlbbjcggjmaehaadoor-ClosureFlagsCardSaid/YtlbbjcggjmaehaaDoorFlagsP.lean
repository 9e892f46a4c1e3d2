/-
  Layer 13's law ClosureFlags: the plain part: which forms there are. No conditions beyond those that each lemma names.
-/
import Derived.Test.YtlbbjcggjmaehaaDoorCountsP
namespace Go.Proofs.YtlbbjcggjmaehaaDoor
open Go Go.RowKit Go.Maps

def abcF : Wd := [97, 98, 99, 100, 101, 102, 103, 104, 105, 106]
def digsF : Wd := [48, 49, 50, 51, 52, 53, 54, 55, 56, 57]
def flagR (cross : Bool) (C : Option Addr) (k i : Nat) : Ru := ⟨false, 97 + (i : Int), cross, [], (digsF.take (i + 1)).drop i, C, k, [anyIt]⟩
def flagsR (cross : Bool) (C : Option Addr) (k n : Nat) : List Ru := (List.range n).map (flagR cross C k)
def digB (i : Nat) : UInt8 := UInt8.ofNat (48 + i)

theorem flagsR_snoc (cross : Bool) (C : Option Addr) (k n : Nat) : flagsR cross C k (n + 1) = flagsR cross C k n ++ [flagR cross C k n] := by
  unfold flagsR; rw [List.range_succ, List.map_append]; rfl
theorem flagsR_len (cross : Bool) (C : Option Addr) (k n : Nat) : (flagsR cross C k n).length = n := by simp [flagsR]

set_option maxRecDepth 100000 in
theorem flags_table : ∀ m ∈ List.range 10, ∀ i ∈ List.range 10, ∀ cross ∈ [true, false], applyS (flagR cross none 0 i) (abcF.take (1 + m)) = some (abcF.take (1 + m) ++ [digB i]) := by decide +kernel

theorem flag_apply {m i : Nat} (hm : m < 10) (hi : i < 10) (cross : Bool) (C : Option Addr) (k : Nat) : applyS (flagR cross C k i) (abcF.take (1 + m)) = some (abcF.take (1 + m) ++ [digB i]) :=
  flags_table m (List.mem_range.2 hm) i (List.mem_range.2 hi) cross (by cases cross <;> simp)

/-- The numbers that are flags. -/
def onF (fl : List Int) : List Nat := (List.range 10).filter fun i => fl.contains (97 + (i : Int))

def listF (w : Wd) (fl : List Int) : List Wd := w :: (onF fl).map fun i => w ++ [digB i]

theorem lt_app (c : UInt8) : ∀ w : Wd, w < w ++ [c]
  | [] => List.nil_lt_cons _ _
  | b :: w => by rw [List.cons_append, lt_cons_iff]; exact .inr ⟨rfl, lt_app c w⟩

theorem app_lt {c d : UInt8} (h : c < d) : ∀ w : Wd, w ++ [c] < w ++ [d]
  | [] => by rw [List.nil_append, List.nil_append, lt_cons_iff]; exact .inl h
  | b :: w => by rw [List.cons_append, List.cons_append, lt_cons_iff]; exact .inr ⟨rfl, app_lt h w⟩

theorem digB_lt : ∀ i ∈ List.range 10, ∀ j ∈ List.range 10, i < j → digB i < digB j := by decide

theorem listF_rise (w : Wd) (fl : List Int) : Rise (listF w fl) := by
  unfold listF Rise
  refine List.pairwise_cons.2 ⟨fun y hy => ?_, ?_⟩
  · obtain ⟨i, _, rfl⟩ := List.mem_map.1 hy
    exact lt_app _ w
  · rw [List.pairwise_map]
    have h : (onF fl).Pairwise (· < ·) := List.Pairwise.sublist List.filter_sublist List.pairwise_lt_range
    exact h.imp_of_mem fun {i j} hi hj hij => app_lt (digB_lt i (List.mem_filter.1 hi).1 j (List.mem_filter.1 hj).1 hij) w

theorem flags_forms {m : Nat} (hm : m < 10) (cross : Bool) (C : Option Addr) (k : Nat) (F : Option Addr) (fc : Nat) (fl : List Int) :
    canon (formsQ (flagsR cross C k 10) ⟨abcF.take (1 + m), F, fc, fl⟩) = listF (abcF.take (1 + m)) fl := by
  refine rise_unique (canon_rise _) (listF_rise _ _) fun s => ?_
  rw [mem_canon, mem_formsQ]
  unfold listF onF
  simp only [List.mem_cons, List.mem_map, List.mem_filter]
  constructor
  · rintro (h | ⟨r, hr, hf, h⟩ | ⟨p, hp, x, hx, hf, hg, h⟩)
    · exact .inl h
    · obtain ⟨i, hi, rfl⟩ := List.mem_map.1 hr
      rw [flag_apply hm (List.mem_range.1 hi)] at h
      exact .inr ⟨i, ⟨hi, hf⟩, Option.some.inj h⟩
    · obtain ⟨i, _, rfl⟩ := List.mem_map.1 hp
      have := (bothS_some h).2.2.1
      cases this
  · rintro (h | ⟨i, ⟨hi, hf⟩, rfl⟩)
    · exact .inl h
    · exact .inr (.inl ⟨flagR cross C k i, List.mem_map.2 ⟨i, hi, rfl⟩, hf, flag_apply hm (List.mem_range.1 hi) cross C k⟩)

theorem listF_len (w : Wd) (fl : List Int) : (listF w fl).length = 1 + (onF fl).length := by simp [listF, Nat.add_comm]

theorem listF_none (w : Wd) : listF w [] = [w] := by
  have : onF [] = [] := by decide
  unfold listF; rw [this]; rfl

/-- One flag more. -/
theorem onF_add {fl : List Int} {j : Nat} (hj : j < 10) : (onF (fl ++ [97 + (j : Int)])).length = (onF fl).length + (if fl.contains (97 + (j : Int)) then 0 else 1) := by
  have hc : ∀ i : Nat, (fl ++ [97 + (j : Int)]).contains (97 + (i : Int)) = (fl.contains (97 + (i : Int)) || decide (i = j)) := fun i => by
    rw [Bool.eq_iff_iff, List.contains_iff_mem, List.mem_append, Bool.or_eq_true, List.contains_iff_mem, List.mem_singleton, decide_eq_true_eq]
    exact or_congr_right ⟨fun h => by omega, fun h => by rw [h]⟩
  have key : ∀ (l : List Nat), l.Nodup → (l.filter fun (i : Nat) => (fl ++ [97 + (j : Int)]).contains (97 + (i : Int))).length = (l.filter fun (i : Nat) => fl.contains (97 + (i : Int))).length + (if j ∈ l ∧ fl.contains (97 + (j : Int)) = false then 1 else 0) := by
    intro l
    induction l with
    | nil => simp
    | cons i l ih =>
      intro hn
      have h1 := List.nodup_cons.1 hn
      have ih := ih h1.2
      rw [List.filter_cons, List.filter_cons]
      by_cases hij : i = j
      · subst hij
        have hl : ¬ i ∈ l := h1.1
        rw [if_pos (by rw [hc]; simp), List.length_cons, ih, if_neg (fun h => hl h.1)]
        by_cases hf : fl.contains (97 + (i : Int)) = true
        · rw [if_pos hf, List.length_cons, if_neg (by rw [hf]; simp)]
        · rw [if_neg hf, if_pos ⟨List.mem_cons_self, by simpa using hf⟩]
      · have e : (fl ++ [97 + (j : Int)]).contains (97 + (i : Int)) = fl.contains (97 + (i : Int)) := by rw [hc, decide_eq_false hij, Bool.or_false]
        have e2 : (j ∈ i :: l) = (j ∈ l) := by
          apply propext
          rw [List.mem_cons]
          exact ⟨fun h => h.resolve_left (fun h => hij h.symm), .inr⟩
        simp only [e, e2]
        by_cases hf : fl.contains (97 + (i : Int)) = true
        · rw [if_pos hf, if_pos hf, List.length_cons, List.length_cons, ih]; omega
        · rw [if_neg hf, if_neg hf, ih]
  unfold onF
  rw [key _ List.nodup_range]
  congr 1
  have hjm : j ∈ List.range 10 := List.mem_range.2 hj
  by_cases hf : fl.contains (97 + (j : Int)) = true
  · rw [if_pos hf, if_neg (by rw [hf]; simp)]
  · rw [if_neg hf, if_pos ⟨hjm, by simpa using hf⟩]
end Go.Proofs.YtlbbjcggjmaehaaDoor
