/-
  Layer 13's law ClosureGrows: the plain part: a rule more, never fewer forms. No conditions beyond those that each lemma names.
-/
import Derived.Test.YtlbbjcggjmaehaaDoorAwake13
namespace Go.Proofs.YtlbbjcggjmaehaaDoor
open Go Go.RowKit Go.Maps

/-- A rule without where its condition lies. -/
def nbR (r : Ru) : Ru := ⟨r.pre, r.flag, r.cross, r.strip, r.add, none, 0, r.cond⟩
def nbE (e : En) : En := ⟨e.word, none, 0, e.flags⟩

theorem formsR_nb (rules : List Ru) (e : En) : formsR (rules.map nbR) (nbE e) = formsR rules e := by
  have h2 : ∀ (l : List Ru) (r : Ru), oneR (l.map nbR) (nbE e) (nbR r) = oneR l e r := fun l r => by
    unfold oneR
    rw [List.flatMap_map]
    rfl
  unfold formsR
  rw [List.flatMap_map]
  congr 1
  exact congrArg (fun f => rules.flatMap f) (funext fun r => h2 rules r)

def digsC : Wd := [49, 50, 51, 52, 53, 54, 55, 56, 57, 48]
def anyIt : It := ⟨true, false, none, 0, []⟩
def sufC (cross : Bool) (C : Option Addr) (k i : Nat) : Ru := ⟨false, 83, cross, [], (digsC.take (i + 1)).drop i, C, k, [anyIt]⟩
def preC (C : Option Addr) (k i : Nat) : Ru := ⟨true, 80, true, [], (digsC.take (i + 1)).drop i, C, k, [anyIt]⟩
def sufsC (cross : Bool) (C : Option Addr) (k n : Nat) : List Ru := (List.range n).map (sufC cross C k)
def presC (C : Option Addr) (k n : Nat) : List Ru := (List.range n).map (preC C k)

def wantC (a b : Nat) (cross : Bool) : Nat := if cross then 1 + a + b + a * b else 1 + a + b

set_option maxRecDepth 100000 in
theorem counts_table : ∀ a ∈ List.range 8, ∀ b ∈ List.range 8, ∀ cross ∈ [true, false],
    (putAll (formsR (sufsC cross none 0 a ++ presC none 0 b) ⟨[119, 111, 114, 100], none, 0, [80, 83]⟩)).length = wantC a b cross ∧
    (putAll (formsR (sufsC cross none 0 a ++ presC none 0 b) ⟨[119, 111, 114, 100], none, 0, [80]⟩)).length = 1 + b := by decide +kernel

theorem sufs_nb (cross : Bool) (C : Option Addr) (k a b : Nat) : (sufsC cross C k a ++ presC C k b).map nbR = sufsC cross none 0 a ++ presC none 0 b := by
  rw [List.map_append]
  unfold sufsC presC
  rw [List.map_map, List.map_map]
  rfl

theorem counts_one {a b : Nat} (ha : a < 8) (hb : b < 8) (cross : Bool) (C : Option Addr) (k : Nat) (F : Option Addr) (fc : Nat) :
    (canon (formsQ (sufsC cross C k a ++ presC C k b) ⟨[119, 111, 114, 100], F, fc, [80, 83]⟩)).length = wantC a b cross ∧
    (canon (formsQ (sufsC cross C k a ++ presC C k b) ⟨[119, 111, 114, 100], F, fc, [80]⟩)).length = 1 + b := by
  have h := counts_table a (List.mem_range.2 ha) b (List.mem_range.2 hb) cross (by cases cross <;> simp)
  rw [forms_canon, forms_canon, ← formsR_nb, ← formsR_nb (e := ⟨[119, 111, 114, 100], F, fc, [80]⟩), sufs_nb]
  exact h

theorem sufs_snoc (cross : Bool) (C : Option Addr) (k n : Nat) : sufsC cross C k (n + 1) = sufsC cross C k n ++ [sufC cross C k n] := by
  unfold sufsC; rw [List.range_succ, List.map_append]; rfl
theorem pres_snoc (C : Option Addr) (k n : Nat) : presC C k (n + 1) = presC C k n ++ [preC C k n] := by
  unfold presC; rw [List.range_succ, List.map_append]; rfl
theorem sufs_len (cross : Bool) (C : Option Addr) (k n : Nat) : (sufsC cross C k n).length = n := by simp [sufsC]
theorem pres_len (C : Option Addr) (k n : Nat) : (presC C k n).length = n := by simp [presC]

theorem rise_next {L : List Wd} (h : Rise L) {i : Nat} {x y : Wd} (hx : L[i]? = some x) (hy : L[i + 1]? = some y) : x < y := by
  have h1 := (List.getElem?_eq_some_iff.1 hx)
  have h2 := (List.getElem?_eq_some_iff.1 hy)
  obtain ⟨a, rfl⟩ := h1
  obtain ⟨b, rfl⟩ := h2
  exact List.pairwise_iff_getElem.1 h i (i + 1) a b (by omega)
end Go.Proofs.YtlbbjcggjmaehaaDoor

namespace Go.Proofs.YtlbbjcggjmaehaaDoor
open Go Go.RowKit Go.Maps

def digsD : Wd := [48, 49, 50, 51, 52, 53, 54, 55, 56, 57]
def dig1 (v : Nat) : Wd := (digsD.take (v + 1)).drop v
def digD (v : Nat) : Wd := if v < 10 then dig1 v else dig1 (v / 10) ++ dig1 (v % 10)

set_option maxRecDepth 100000 in
set_option maxHeartbeats 1000000 in
theorem digits_low (v : Nat) (w : World) (hv : v < 10) : Calls Tryd.prog 20 #[.int .i64 (v : Int)] w fun e w' => e = .returned (.string ⟨(dig1 v).toArray⟩) ∧ w' = w := by
  have e1 : ¬ (v : Int) ≤ -10 := by omega
  have e2 : ¬ (v : Int) < 0 := by omega
  have e3 : (v : Int) < 10 := by omega
  have l1 : (v : Int) + 1 ≤ 10 := by omega
  have l2 : (v : Int) ≤ (v : Int) + 1 := by omega
  have wi : IntKind.i64.wrap (v : Int) = (v : Int) := by rw [IntKind.wrap_i64]; omega
  have wi1 : IntKind.i64.wrap ((v : Int) + 1) = (v : Int) + 1 := by rw [IntKind.wrap_i64]; omega
  have zi : (0 : Int) ≤ (v : Int) + 1 := by omega
  have hex := slice_wd digsD v (v + 1)
  obtain ⟨X, hX⟩ : ∃ X, (digsD.take (v + 1)).drop v = X := ⟨_, rfl⟩
  rw [hX] at hex
  unfold digsD at hex
  have e : dig1 v = X := hX
  rw [e]
  clear hX e
  go_enter Tryd.func20, Tryd.ntmps20
  go_wp2_with fail
  go_ret
  exact ⟨rfl, rfl⟩

set_option maxRecDepth 100000 in
set_option maxHeartbeats 1000000 in
theorem digits_walk (v : Nat) (w : World) (hv : v < 20) : Calls Tryd.prog 20 #[.int .i64 (v : Int)] w fun e w' => e = .returned (.string ⟨(digD v).toArray⟩) ∧ ∃ q, w' = w.drewN q := by
  rcases Nat.lt_or_ge v 10 with h | h
  · unfold digD
    rw [if_pos h]
    exact (digits_low v w h).mono fun e w' hh => ⟨hh.1, 0, hh.2⟩
  · unfold digD
    rw [if_neg (by omega)]
    obtain ⟨k, hk⟩ : ∃ k, v % 10 = k := ⟨_, rfl⟩
    have hq : v / 10 = 1 := by omega
    rw [hk, hq]
    have hk10 : k < 10 := by omega
    have e1 : ¬ (v : Int) ≤ -10 := by omega
    have e2 : ¬ (v : Int) < 0 := by omega
    have e3 : ¬ (v : Int) < 10 := by omega
    have q1 : (v : Int).tdiv 10 = 1 := by rw [Int.tdiv_eq_ediv_of_nonneg (by omega)]; omega
    have q1b : (v : Int) / 10 = 1 := by omega
    have q2 : (v : Int).tmod 10 = (k : Int) := by rw [Int.tmod_eq_emod_of_nonneg (by omega)]; omega
    have q2b : (v : Int) % 10 = (k : Int) := by omega
    have l1 : (k : Int) + 1 ≤ 10 := by omega
    have l2 : (k : Int) ≤ (k : Int) + 1 := by omega
    have wi : IntKind.i64.wrap (k : Int) = (k : Int) := by rw [IntKind.wrap_i64]; omega
    have wi1 : IntKind.i64.wrap ((k : Int) + 1) = (k : Int) + 1 := by rw [IntKind.wrap_i64]; omega
    have zi : (0 : Int) ≤ (k : Int) + 1 := by omega
    have hex := slice_wd digsD k (k + 1)
    obtain ⟨X, hX⟩ : ∃ X, (digsD.take (k + 1)).drop k = X := ⟨_, rfl⟩
    rw [hX] at hex
    unfold digsD at hex
    have e : dig1 k = X := hX
    rw [e]
    have hXl : X.length ≤ 10 := by rw [← hX, List.length_drop, List.length_take]; show min (k + 1) 10 - k ≤ 10; omega
    have hd := fun u => digits_low 1 u (by omega)
    obtain ⟨Y, hY⟩ : ∃ Y, dig1 1 = Y := ⟨_, rfl⟩
    have hYl : Y.length ≤ 10 := by rw [← hY]; decide
    rw [hY] at hd ⊢
    have hcat := cat_wd Y X
    obtain ⟨Z, hZ⟩ : ∃ Z, Y ++ X = Z := ⟨_, rfl⟩
    rw [hZ] at hcat ⊢
    have hll : ¬ 9223372036854775807 < Y.length + X.length := by omega
    have HD := Lib.hid hd
    clear hX e hd hY hZ h hq hk
    go_enter Tryd.func20, Tryd.ntmps20
    go_upto_region 8 with (fail)
    go_quiet (first | (go_at_call 20; exact Calls.quiet_of_same (HD.out _)))
    go_wp2_with fail
    go_ret
    exact ⟨rfl, _, rfl⟩
end Go.Proofs.YtlbbjcggjmaehaaDoor

namespace Go.Proofs.YtlbbjcggjmaehaaDoor
open Go Go.RowKit Go.Maps

theorem nodup_sub : ∀ {k l : List Wd}, k.Nodup → (∀ x ∈ k, x ∈ l) → k.length ≤ l.length
  | [], _, _, _ => by simp
  | a :: k, l, hn, hs => by
    have h1 := List.nodup_cons.1 hn
    have ha : a ∈ l := hs a (by simp)
    have h2 := nodup_sub (k := k) (l := l.erase a) h1.2 (fun x hx => by
      have hxl := hs x (by simp [hx])
      refine (List.mem_erase_of_ne (fun e => h1.1 (by rw [← e]; exact hx))).2 hxl)
    rw [List.length_erase_of_mem ha] at h2
    have h3 : 0 < l.length := List.length_pos_of_mem ha
    rw [List.length_cons]; omega

theorem rise_nodup {L : List Wd} (h : Rise L) : L.Nodup := by
  unfold Rise at h
  exact h.imp fun {a b} hab e => by rw [e] at hab; exact List.lt_irrefl _ hab

theorem canon_sub {k l : List Wd} (h : ∀ x ∈ k, x ∈ l) : (canon k).length ≤ (canon l).length :=
  nodup_sub (rise_nodup (canon_rise k)) fun x hx => mem_canon.2 (h x (mem_canon.1 hx))

theorem forms_mono (rs : List Ru) (r : Ru) (e : En) : ∀ x ∈ formsQ rs e, x ∈ formsQ (rs ++ [r]) e := fun x hx => by
  rw [mem_formsQ] at hx ⊢
  rcases hx with h | ⟨r', hr, hf, h⟩ | ⟨p, hp, y, hy, hf, hg, h⟩
  · exact .inl h
  · exact .inr (.inl ⟨r', List.mem_append.2 (.inl hr), hf, h⟩)
  · exact .inr (.inr ⟨p, List.mem_append.2 (.inl hp), y, List.mem_append.2 (.inl hy), hf, hg, h⟩)

theorem all_mono (rs : List Ru) (r : Ru) (es : List En) : (canon (es.flatMap (formsQ rs))).length ≤ (canon (es.flatMap (formsQ (rs ++ [r])))).length :=
  canon_sub fun x hx => by
    obtain ⟨e, he, hx⟩ := List.mem_flatMap.1 hx
    exact List.mem_flatMap.2 ⟨e, he, forms_mono rs r e x hx⟩

theorem word_in {rs : List Ru} {es : List En} {e : En} (he : e ∈ es) : e.word ∈ canon (es.flatMap (formsQ rs)) :=
  mem_canon.2 (List.mem_flatMap.2 ⟨e, he, mem_formsQ.2 (.inl rfl)⟩)

theorem some_in {rs : List Ru} {es : List En} (he : 0 < es.length) : 0 < (canon (es.flatMap (formsQ rs))).length := by
  obtain ⟨e, he⟩ := List.exists_mem_of_length_pos he
  exact List.length_pos_of_mem (word_in (rs := rs) he)

theorem entry_info : (Tryd.prog.info? 25).map (fun i => (i.zero, i.size, i.bytes)) = some (some (.agg #[.string ⟨#[]⟩, .slice none 0 0]), 2, 40) := by kernel_rfl

theorem enCells_snoc (l : List En) (e : En) : enCells (l ++ [e]) = enCells l ++ e.row := by simp [enCells]
theorem enCells_one (l : List En) : ∀ x ∈ enCells l, x.oneCell' = true := by
  intro x hx
  simp only [enCells, List.mem_flatMap] at hx
  obtain ⟨r, _, hx⟩ := hx
  simp only [En.row, List.mem_cons, List.not_mem_nil, or_false] at hx
  rcases hx with rfl | rfl <;> rfl
end Go.Proofs.YtlbbjcggjmaehaaDoor
