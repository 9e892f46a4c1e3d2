/-
  The law RegionTyped: one run, typed in, taken away. No conditions beyond those that each law names.
-/
import Derived.Test.YtijpienjejfmiaaRg5
namespace Go.Proofs.Ytijpienjejfmiaa
open Go Go.RowKit

theorem far_none {C : List Sp} (h : ∀ x ∈ C, x.b ≤ 1099511627776) : remL (farL C) C = C := by
  have : farL C = [] := List.filter_eq_nil_iff.2 fun x hx => by
    have := h x hx
    simp
    omega
  rw [this]
  rfl

theorem cutI_id {v : Int} (h : 0 ≤ v ∧ v ≤ 1099511627776) : cutI v = v := by unfold cutI; omega

theorem place_low {A D I p : Int} (h : 0 ≤ p ∧ p ≤ 1099511627776) (h1 : p ≤ A) : placeI A D I p = p := by
  unfold placeI
  rw [cutI_id h, if_pos h1]
theorem place_mid {A D I p : Int} (h : 0 ≤ p ∧ p ≤ 1099511627776) (h1 : A < p) (h2 : p < A + D) : placeI A D I p = A + I := by
  unfold placeI
  rw [cutI_id h, if_neg (by omega), if_pos h2]
theorem place_high {A D I p : Int} (h : 0 ≤ p ∧ p ≤ 1099511627776) (h1 : A < p) (h2 : A + D ≤ p) : placeI A D I p = p + I - D := by
  unfold placeI
  rw [cutI_id h, if_neg (by omega), if_neg (by omega)]

/-- One run that a change lies over. -/
theorem even_one {A D I : Int} {x y : Sp} (h1 : x.a ≤ max A (A + D - 1)) (h2 : A + 1 ≤ x.b) (hy : clipI A D I x = (y, true)) (hb : y.b ≤ 1099511627776) : evenE A D I [x] = [y] := by
  have hX : evenX A D [x] = [x] := by
    unfold evenX overS
    rw [List.filter_cons_of_pos (by simp only [Bool.and_eq_true, decide_eq_true_eq]; exact ⟨h1, h2⟩)]
    rfl
  have hA : evenA A D [x] = [] := by unfold evenA; rw [hX]; show remS x [x] = []; exact remS_self x
  have hC : evenC A D I [x] = [y] := by
    unfold evenC evenB
    rw [hX, hA]
    show (if (clipI A D I x).2 then insS (clipI A D I x).1 (tailS _ _ []) else tailS _ _ []) = [y]
    rw [hy]
    rfl
  unfold evenE
  rw [hC, far_none (fun z hz => by rw [List.mem_singleton.1 hz]; exact hb)]

/-- .. that goes with it. -/
theorem even_gone {A D I : Int} {x z : Sp} (h1 : x.a ≤ max A (A + D - 1)) (h2 : A + 1 ≤ x.b) (hy : clipI A D I x = (z, false)) : evenE A D I [x] = [] := by
  have hX : evenX A D [x] = [x] := by
    unfold evenX overS
    rw [List.filter_cons_of_pos (by simp only [Bool.and_eq_true, decide_eq_true_eq]; exact ⟨h1, h2⟩)]
    rfl
  have hA : evenA A D [x] = [] := by unfold evenA; rw [hX]; show remS x [x] = []; exact remS_self x
  have hC : evenC A D I [x] = [] := by
    unfold evenC evenB
    rw [hX, hA]
    show (if (clipI A D I x).2 then insS (clipI A D I x).1 (tailS _ _ []) else tailS _ _ []) = []
    rw [hy]
    rfl
  unfold evenE
  rw [hC]
  rfl

/-- .. that lies ahead of it. -/
theorem even_ahead {A D I : Int} {x : Sp} (h2 : x.b ≤ A) (h3 : x.a < A + 1) (hb : x.b ≤ 1099511627776) : evenE A D I [x] = [x] := by
  have hX : evenX A D [x] = [] := by
    unfold evenX overS
    rw [List.filter_cons_of_neg (by simp only [Bool.and_eq_true, decide_eq_true_eq]; omega)]
    rfl
  have hA : evenA A D [x] = [x] := by unfold evenA; rw [hX]; rfl
  have hC : evenC A D I [x] = [x] := by
    unfold evenC evenB
    rw [hX, hA]
    show tailS _ _ [x] = [x]
    exact tailS_none (fun z hz => by rw [List.mem_singleton.1 hz]; omega)
  unfold evenE
  rw [hC, far_none (fun z hz => by rw [List.mem_singleton.1 hz]; exact hb)]

theorem at_one (x : Sp) (p : Int) : atL [x] p = if x.a ≤ p ∧ p < x.b then x.k / 2 else 0 := by
  unfold atL overQ
  by_cases h : x.a ≤ p ∧ p < x.b
  · rw [if_pos h, List.filter_cons_of_pos (by simp only [Bool.and_eq_true, decide_eq_true_eq]; omega)]
    rfl
  · rw [if_neg h, List.filter_cons_of_neg (by simp only [Bool.and_eq_true, decide_eq_true_eq]; omega)]
    rfl

theorem set_none {f t g : Int} (h : f < t) (hg : 0 < g) : setL f t g [] = [⟨f, t, g * 2⟩] := by
  show putL f t (g * 2) [] = _
  unfold putL
  rw [if_pos ⟨h, by omega⟩]
  rfl

theorem typed_first {a k q c m : Int} (ha : 0 ≤ a ∧ a < 100) (hk : 1 ≤ k ∧ k ≤ 100) (hq : 0 ≤ q ∧ q ≤ k) (hc : 1 ≤ c ∧ c ≤ 50) : evenE (cutI (a + q)) (cutI 0) (cutI c) [⟨a, a + k, m⟩] = [⟨a, if a + q = a + k then a + k else a + k + c, m⟩] := by
  rw [cutI_id (v := a + q) (by omega), cutI_id (v := 0) (by omega), cutI_id (v := c) (by omega)]
  by_cases h : a + q = a + k
  · rw [if_pos h]
    exact even_ahead (by show a + k ≤ a + q; omega) (by show a < a + q + 1; omega) (by show a + k ≤ _; omega)
  · rw [if_neg h]
    refine even_one (by show a ≤ max (a + q) (a + q + 0 - 1); omega) (by show a + q + 1 ≤ a + k; omega) ?_ (by show a + k + c ≤ _; omega)
    unfold clipI
    simp only
    rw [place_low (p := a) (by omega) (by omega), place_high (p := a + k) (by omega) (by omega) (by omega), if_neg (by omega)]
    simp

theorem typed_gone {a k c t m : Int} (ha : 0 ≤ a ∧ a < 100) (hk : 1 ≤ k ∧ k ≤ 100) (hc : 1 ≤ c ∧ c ≤ 50) (ht : a < t ∧ t ≤ a + k + c) : evenE (cutI 0) (cutI (a + k + c)) (cutI 0) [⟨a, t, m⟩] = [] := by
  rw [cutI_id (v := a + k + c) (by omega), cutI_id (v := 0) (by omega)]
  refine even_gone (z := ⟨0, 0, 0⟩) (by show a ≤ max 0 (0 + (a + k + c) - 1); omega) (by show 0 + 1 ≤ t; omega) ?_
  have e1 : placeI 0 (a + k + c) 0 a = 0 := by
    by_cases h : a = 0
    · rw [place_low (by omega) (by omega)]; exact h
    · rw [place_mid (by omega) (by omega) (by omega)]; rfl
  have e2 : placeI 0 (a + k + c) 0 t = 0 := by
    by_cases h : t < 0 + (a + k + c)
    · rw [place_mid (by omega) (by omega) h]; rfl
    · rw [place_high (by omega) (by omega) (by omega)]; omega
  unfold clipI
  simp only
  rw [e1, e2, if_pos (by omega)]
end Go.Proofs.Ytijpienjejfmiaa
