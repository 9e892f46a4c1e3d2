/-
  slices.Compact over offers. Conditions: a row of at most 2^31 offers.
-/
import Derived.Test.YtdcdhcgfhapbnaaDoorSgE
namespace Go.Proofs.YtdcdhcgfhapbnaaDoor.Sg
open Go Go.RowKit

theorem once_cons {a b : Of} {l : List Of} : onceO (a :: b :: l) = if a = b then onceO (b :: l) else a :: onceO (b :: l) := by
  rw [onceO]

theorem once_snoc (y x : Of) : ∀ m : List Of, onceO (m ++ [y, x]) = if y = x then onceO (m ++ [y]) else onceO (m ++ [y]) ++ [x]
  | [] => by
    show onceO (y :: x :: []) = _
    rw [once_cons]
    split
    · rename_i h; rw [h]; rfl
    · rfl
  | [a] => by
    show onceO (a :: y :: x :: []) = if y = x then onceO (a :: y :: []) else onceO (a :: y :: []) ++ [x]
    rw [once_cons, once_cons (a := a), once_cons (a := y)]
    by_cases h1 : y = x
    · subst h1
      simp only [if_true]
    · rw [if_neg h1, if_neg h1]
      split <;> rfl
  | a :: b :: m => by
    have ih := once_snoc y x (b :: m)
    show onceO (a :: b :: (m ++ [y, x])) = if y = x then onceO (a :: b :: (m ++ [y])) else onceO (a :: b :: (m ++ [y])) ++ [x]
    rw [once_cons, once_cons]
    change onceO (b :: (m ++ [y, x])) = if y = x then onceO (b :: (m ++ [y])) else onceO (b :: (m ++ [y])) ++ [x] at ih
    rw [ih]
    by_cases h1 : y = x
    · rw [if_pos h1, if_pos h1]
    · rw [if_neg h1, if_neg h1]
      split
      · rfl
      · rfl

theorem once_take {l : List Of} {p : Nat} (h1 : 1 ≤ p) (hp : p < l.length) : onceO (l.take (p + 1)) = if l[p - 1] = l[p] then onceO (l.take p) else onceO (l.take p) ++ [l[p]] := by
  obtain ⟨q, rfl⟩ : ∃ q, p = q + 1 := ⟨p - 1, by omega⟩
  have e1 : l.take (q + 1 + 1) = l.take q ++ [l[q], l[q + 1]] := by
    rw [List.take_succ_eq_append_getElem hp, List.take_succ_eq_append_getElem (by omega), List.append_assoc]
    rfl
  have e2 : l.take (q + 1) = l.take q ++ [l[q]] := List.take_succ_eq_append_getElem (by omega)
  rw [e1, once_snoc, ← e2]
  rfl

theorem once_none {l : List Of} : ∀ {k : Nat}, k ≤ l.length → (∀ j (h : j < l.length), 1 ≤ j → j < k → l[j - 1] ≠ l[j]) → onceO (l.take k) = l.take k
  | 0, _, _ => rfl
  | 1, h, _ => by
    match l, h with
    | a :: l, _ => rfl
  | k + 2, h, hd => by
    rw [once_take (by omega) (by omega), if_neg (hd (k + 1) (by omega) (by omega) (by omega)), once_none (by omega) fun j hj h1 h2 => hd j hj h1 (by omega), ← List.take_succ_eq_append_getElem (by omega)]

theorem of_cases (a b : Of) : a = b ∨ a.1 ≠ b.1 ∨ (a.1 = b.1 ∧ ((a.2 : Int)) ≠ (b.2 : Int)) := by
  obtain ⟨x, m⟩ := a
  obtain ⟨y, n⟩ := b
  by_cases h1 : x = y
  · by_cases h2 : m = n
    · exact .inl (by rw [h1, h2])
    · exact .inr (.inr ⟨h1, fun h => h2 (Int.ofNat.inj h)⟩)
  · exact .inr (.inl h1)

def CmpRel (l : List Of) (w : World) (kv : Value) (wr : World) : Prop :=
  ∃ k : Nat, 1 ≤ k ∧ k ≤ l.length ∧ kv = .int .i64 (k : Int) ∧ (∀ j (h : j < l.length), 1 ≤ j → j < k → l[j - 1] ≠ l[j]) ∧ w.grownBy wr none

structure CmpIn (l : List Of) (g cap base k0 : Nat) (w : World) (kv iv : Value) (wr : World) : Prop where
  out : ∃ (kw p : Nat) (C : List Of), kw + 1 ≤ p ∧ k0 + 1 ≤ p ∧ p ≤ l.length ∧ kv = .int .i64 (kw : Int) ∧ iv = .int .i64 ((p - k0 : Nat) : Int) ∧ C.length = l.length ∧ C.take kw = onceO (l.take p) ∧ C.drop (p - 1) = l.drop (p - 1) ∧
    Offs wr base (.slice (some ⟨g, 0, none⟩) l.length cap) C ∧ w.grownBy wr (some g)

set_option maxRecDepth 100000 in
set_option maxHeartbeats 2000000 in
theorem compact_walk {base : Nat} {v : Value} (l : List Of) (w : World) (hl : l.length ≤ 2147483648) (h : Offs w base v l) :
    Calls Tryd.prog 33 #[v] w fun e w' => ∃ A c, e = .returned (.slice A (onceO l).length c) ∧ Offs w' base (.slice A (onceO l).length c) (onceO l) ∧ w.grownBy w' v.ownBlock := by
  obtain ⟨A, c, rfl, hsl⟩ := offs_slice h
  have H := Lib.hid h
  clear h hsl
  by_cases hn2 : l.length < 2
  · have HK := Lib.hid (show onceO l = l by
      match l, hn2 with
      | [], _ => rfl
      | [x], _ => rfl)
    have hb : (l.length : Int) < 2 := by omega
    go_enter Tryd.func33, Tryd.ntmps33
    go_wp2_with fail
    go_ret
    rw [HK.out]
    exact ⟨A, c, rfl, H.out, grownBy_refl _ _⟩
  · have hb : ¬ (l.length : Int) < 2 := by omega
    obtain ⟨g, rfl, hnc, hbg, hgw, cur, hh, hs⟩ := own_row H.out (by omega)
    clear hh hs cur
    go_enter Tryd.func33, Tryd.ntmps33
    go_wp2_with fail
    go_loopw [3] (fun kv wr => CmpRel l w kv wr) (fun kv _ => l.length - (RowKit.intOf kv).toNat)
    case atStart => exact ⟨1, Nat.le_refl _, by omega, rfl, fun j _ h1 h2 => by omega, grownBy_refl _ _⟩
    case round =>
      obtain ⟨k, hk1, hkl, rfl, hdif, hgr⟩ := hrel
      have hown := ownsRow_kept H.out hgr (own_none _)
      rcases Nat.lt_or_ge k l.length with hlt | hge
      · have hltI : (k : Int) < (l.length : Int) := Int.ofNat_lt.2 hlt
        obtain ⟨K, hK⟩ : ∃ K, k = K + 1 := ⟨k - 1, by omega⟩
        have hKl : K < l.length := by omega
        obtain ⟨r0, r1⟩ := rowO_at l k hlt
        obtain ⟨s0, s1⟩ := rowO_at l K hKl
        have x0 := hown.cells (g := g) rfl _ _ r0
        have x1 := hown.cells (g := g) rfl _ _ r1
        have y0 := hown.cells (g := g) rfl _ _ s0
        have y1 := hown.cells (g := g) rfl _ _ s1
        rw [Addr.add_lit, Nat.zero_add] at x0 x1 y0 y1
        have hkK : (k : Int) - 1 = (K : Int) := by omega
        have hwK : IntKind.i64.wrap (K : Int) = (K : Int) := by rw [IntKind.wrap_i64]; omega
        have hKI : (K : Int) < (l.length : Int) := by omega
        have HK := Lib.hid hK
        have HOWN := Lib.hid hown
        have HGR := Lib.hid hgr
        have HDIF := Lib.hid hdif
        have hKk : ∀ h : k - 1 < l.length, l[k - 1] = l[K] := fun h => by
          have : k - 1 = K := by omega
          simp only [this]
        have HKK := Lib.hid hKk
        have hwk : IntKind.i64.wrap ((k : Int) + 1) = (k : Int) + 1 := by rw [IntKind.wrap_i64]; omega
        clear hown hgr hK hdif r0 r1 s0 s1 hKk
        rcases of_cases l[k] l[K] with heq | hne | ⟨heq1, hne⟩
        · have HEQ := Lib.hid heq
          rw [heq] at x0 x1
          obtain ⟨a, ha⟩ : ∃ a : Of, l[K] = a := ⟨_, rfl⟩
          rw [ha] at x0 x1 y0 y1
          clear heq ha
          have hci : ¬ (c = k) := by omega
          have hkc : (k : Int) ≤ (c : Int) := by omega
          have hkl2 : (k : Int) ≤ (l.length : Int) := by omega
          go_upto_region 6 with (fail)
          go_quiet (fail)
          have HO8 := Lib.hid (ownsRow_drewN HOWN.out nq)
          have HG8 := Lib.hid (grownBy_drewN HGR.out nq)
          generalize hw8 : wr.drewN nq = w8 at *
          clear hw8 x0 x1 y0 y1 HOWN HGR
          obtain ⟨M, hM⟩ : ∃ M, l.length - k = M := ⟨_, rfl⟩
          go_wp2_with fail
          go_loopw [3, 5] (fun kv iv wr => CmpIn l g c base k w kv iv wr) (fun _ iv _ => M - (RowKit.intOf iv).toNat)
          case atStart => 
            refine ⟨k, k + 1, l, Nat.le_refl _, Nat.le_refl _, hlt, rfl, by rw [show k + 1 - k = 1 by omega]; rfl, rfl, ?_, rfl, HO8.out, grownBy_trans (grownBy_refl w (some g)) HG8.out nofun⟩
            rw [once_take hk1 hlt, if_pos (by rw [HKK.out, HEQ.out]), once_none (by omega) HDIF.out]
          case round =>
            clear HDIF HEQ HKK HO8 HG8
            obtain ⟨kw, p, C, h1, h2, h3, rfl, rfl, hC, hCk, hCp, hof, hgr⟩ := hrel.out
            have hown : wr.ownsRow base 41 2 (.slice (some ⟨g, 0, none⟩) l.length c) l.length (rowO C) := by
              have h5 := hof
              unfold Offs at h5
              rw [hC] at h5
              exact h5
            obtain ⟨t, ht⟩ : ∃ t, p - k = t := ⟨_, rfl⟩
            rw [ht]
            rcases Nat.lt_or_ge p l.length with hlp | hgp
            · obtain ⟨t1, ht1⟩ : ∃ t1, t = t1 + 1 := ⟨t - 1, by omega⟩
              obtain ⟨P, hP⟩ : ∃ P, p = P + 1 := ⟨p - 1, by omega⟩
              have hPl : P < l.length := by omega
              have hpC : p < C.length := by omega
              have hPC : P < C.length := by omega
              have hget : ∀ j, P ≤ j → ∀ (h : j < C.length) (h' : j < l.length), C[j] = l[j] := fun j hj h h' => by
                have h5 : (C.drop (p - 1))[j - P]? = (l.drop (p - 1))[j - P]? := by rw [hCp]
                rw [List.getElem?_drop, List.getElem?_drop, show p - 1 + (j - P) = j by omega, List.getElem?_eq_getElem h, List.getElem?_eq_getElem h'] at h5
                exact Option.some.inj h5
              obtain ⟨r0, r1⟩ := rowO_at C p hpC
              obtain ⟨s0, s1⟩ := rowO_at C P hPC
              rw [hget p (by omega) hpC hlp] at r0 r1
              rw [hget P (Nat.le_refl _) hPC hPl] at s0 s1
              have x0 := hown.cells (g := g) rfl _ _ r0
              have x1 := hown.cells (g := g) rfl _ _ r1
              have y0 := hown.cells (g := g) rfl _ _ s0
              have y1 := hown.cells (g := g) rfl _ _ s1
              have ep : p * 2 = k * 2 + t * 2 := by omega
              have eP : P * 2 = k * 2 + t1 * 2 := by omega
              rw [Addr.add_lit, Nat.zero_add] at x0 x1 y0 y1
              rw [ep] at x0 x1
              rw [eP] at y0 y1
              have htI : (t : Int) < (M : Int) := by omega
              have ht1I : (t1 : Int) < (M : Int) := by omega
              have htt : (t : Int) - 1 = (t1 : Int) := by omega
              have hwt1 : IntKind.i64.wrap (t1 : Int) = (t1 : Int) := by rw [IntKind.wrap_i64]; omega
              have hwt : IntKind.i64.wrap ((t : Int) + 1) = (t : Int) + 1 := by rw [IntKind.wrap_i64]; omega
              have hwkw : IntKind.i64.wrap ((kw : Int) + 1) = (kw : Int) + 1 := by rw [IntKind.wrap_i64]; omega
              have hkwI : (kw : Int) < (l.length : Int) := by omega
              have hPp : ∀ h : p - 1 < l.length, l[p - 1] = l[P] := fun h => by
                have : p - 1 = P := by omega
                simp only [this]
              have hot := once_take (l := l) (by omega : 1 ≤ p) hlp
              rw [hPp (by omega)] at hot
              have hCp1 : C.drop (p + 1 - 1) = l.drop (p + 1 - 1) := by
                rw [show p + 1 - 1 = p - 1 + 1 by omega, ← List.drop_drop, ← List.drop_drop, hCp]
              have HB := Lib.hid (And.intro h1 (And.intro h2 (And.intro h3 (And.intro ht (And.intro ht1 (And.intro hP (And.intro hC hM)))))))
              have HCK := Lib.hid hCk
              have HCP := Lib.hid hCp1
              have HOWN := Lib.hid hown
              have HGR := Lib.hid hgr
              have hkwC : kw < C.length := by omega
              have hset := rowO_set C kw l[p] hkwC
              have HSET := Lib.hid hset
              have hmm : M - (RowKit.intOf (Value.int .i64 ((t : Int) + 1))).toNat < M - (RowKit.intOf (Value.int .i64 (t : Int))).toNat := meas (by omega)
              clear hown hgr hCk hCp hCp1 hget r0 r1 s0 s1 hof hP ht ht1 h1 h2 h3 ep eP hPp hset hpC hPC hkwC
              rcases of_cases l[p] l[P] with heq | hne | ⟨heq0, hne⟩
              · have HOT := Lib.hid (show onceO (l.take (p + 1)) = onceO (l.take p) by rw [hot, if_pos heq.symm])
                rw [heq] at x0 x1
                generalize l[P] = a at *
                clear hot heq
                go_upto_region 11 with (fail)
                go_quiet (fail)
                have HO8 := Lib.hid (ownsRow_drewN HOWN.out nq)
                have HG8 := Lib.hid (grownBy_drewN HGR.out nq)
                clear x0 x1 y0 y1 HOWN HGR
                go_wp2_with fail
                go_roundw
                case rel =>
                  obtain ⟨h1, h2, h3, ht, ht1, hP, hC, hM⟩ := HB.out
                  exact ⟨kw, p + 1, C, by omega, by omega, hlp, rfl, by rw [show p + 1 - k = t + 1 by omega]; simp, hC, by rw [HOT.out]; exact HCK.out, HCP.out, by have h5 := HO8.out; unfold Offs; rw [hC]; exact h5, HG8.out⟩
                case measure => exact hmm
              · have HOT := Lib.hid (show onceO (l.take (p + 1)) = onceO (l.take p) ++ [l[p]] by rw [hot, if_neg (fun h => hne (by rw [h]))])
                generalize l[P] = b at *
                generalize l[p] = a at *
                clear hot
                go_upto_region 11 with (fail)
                go_quiet (fail)
                have ho8 := ownsRow_drewN HOWN.out nq
                have hg8 := grownBy_drewN HGR.out nq
                have X0 : (wr.drewN nq).cell? ⟨g, k * 2 + t * 2, none⟩ = _ := x0
                have X1 : (wr.drewN nq).cell? ⟨g, k * 2 + t * 2 + 1, none⟩ = _ := x1
                generalize hw8 : wr.drewN nq = w8 at *
                clear hw8 x0 x1 y0 y1 HOWN HGR
                obtain ⟨_, e, _, _, _, cur9, hh9, hs9⟩ := own_row ho8 (by omega)
                cases e
                have f0 := frozen_of_heap hh9 (kw * 2)
                have f1 := frozen_of_heap hh9 (kw * 2 + 1)
                obtain ⟨u0, y0⟩ : ∃ u, w8.cell? ⟨g, kw * 2, none⟩ = some u := ⟨_, by rw [cell_of_heap hh9, Array.getElem?_eq_getElem (by rw [hs9]; omega)]⟩
                obtain ⟨u1, y1⟩ : ∃ u, w8.cell? ⟨g, kw * 2 + 1, none⟩ = some u := ⟨_, by rw [cell_of_heap hh9, Array.getElem?_eq_getElem (by rw [hs9]; omega)]⟩
                have hst := own_set (own_set ho8 (kw * 2) (by omega) (.string ⟨a.1.toArray⟩)) (kw * 2 + 1) (by omega) (.int .i64 (a.2 : Int))
                rw [HSET.out] at hst
                have hgs := grownBy_setCell (grownBy_setCell hg8 g (kw * 2) (.string ⟨a.1.toArray⟩) (.inl rfl)) g (kw * 2 + 1) (.int .i64 (a.2 : Int)) (.inl rfl)
                have HST := Lib.hid hst
                have HGS := Lib.hid hgs
                clear ho8 hg8 hh9 hs9 hst hgs
                go_wp2_with fail
                go_roundw
                case rel =>
                  obtain ⟨h1, h2, h3, ht, ht1, hP, hC, hM⟩ := HB.out
                  exact ⟨kw + 1, p + 1, C.set kw a, by omega, by omega, hlp, by simp, by rw [show p + 1 - k = t + 1 by omega]; simp, by rw [List.length_set]; exact hC, by
                    rw [HOT.out, ← HCK.out, List.take_add_one, List.take_set_of_le (Nat.le_refl _), List.getElem?_set_self (by omega)]
                    rfl, by
                    rw [List.drop_set_of_lt (by omega)]
                    exact HCP.out, by have h5 := HST.out; unfold Offs; rw [List.length_set, hC]; exact h5, HGS.out⟩
                case measure => exact hmm
              · have heq1 := heq0.symm
                clear heq0
                have HOT := Lib.hid (show onceO (l.take (p + 1)) = onceO (l.take p) ++ [l[p]] by rw [hot, if_neg (fun h => hne (by rw [h]))])
                generalize l[P] = b at *
                generalize l[p] = a at *
                clear hot
                go_upto_region 11 with (fail)
                go_quiet (fail)
                have ho8 := ownsRow_drewN HOWN.out nq
                have hg8 := grownBy_drewN HGR.out nq
                have X0 : (wr.drewN nq).cell? ⟨g, k * 2 + t * 2, none⟩ = _ := x0
                have X1 : (wr.drewN nq).cell? ⟨g, k * 2 + t * 2 + 1, none⟩ = _ := x1
                generalize hw8 : wr.drewN nq = w8 at *
                clear hw8 x0 x1 y0 y1 HOWN HGR
                obtain ⟨_, e, _, _, _, cur9, hh9, hs9⟩ := own_row ho8 (by omega)
                cases e
                have f0 := frozen_of_heap hh9 (kw * 2)
                have f1 := frozen_of_heap hh9 (kw * 2 + 1)
                obtain ⟨u0, y0⟩ : ∃ u, w8.cell? ⟨g, kw * 2, none⟩ = some u := ⟨_, by rw [cell_of_heap hh9, Array.getElem?_eq_getElem (by rw [hs9]; omega)]⟩
                obtain ⟨u1, y1⟩ : ∃ u, w8.cell? ⟨g, kw * 2 + 1, none⟩ = some u := ⟨_, by rw [cell_of_heap hh9, Array.getElem?_eq_getElem (by rw [hs9]; omega)]⟩
                have hst := own_set (own_set ho8 (kw * 2) (by omega) (.string ⟨a.1.toArray⟩)) (kw * 2 + 1) (by omega) (.int .i64 (a.2 : Int))
                rw [HSET.out] at hst
                have hgs := grownBy_setCell (grownBy_setCell hg8 g (kw * 2) (.string ⟨a.1.toArray⟩) (.inl rfl)) g (kw * 2 + 1) (.int .i64 (a.2 : Int)) (.inl rfl)
                have HST := Lib.hid hst
                have HGS := Lib.hid hgs
                clear ho8 hg8 hh9 hs9 hst hgs
                go_wp2_with fail
                go_roundw
                case rel =>
                  obtain ⟨h1, h2, h3, ht, ht1, hP, hC, hM⟩ := HB.out
                  exact ⟨kw + 1, p + 1, C.set kw a, by omega, by omega, hlp, by simp, by rw [show p + 1 - k = t + 1 by omega]; simp, by rw [List.length_set]; exact hC, by
                    rw [HOT.out, ← HCK.out, List.take_add_one, List.take_set_of_le (Nat.le_refl _), List.getElem?_set_self (by omega)]
                    rfl, by
                    rw [List.drop_set_of_lt (by omega)]
                    exact HCP.out, by have h5 := HST.out; unfold Offs; rw [List.length_set, hC]; exact h5, HGS.out⟩
                case measure => exact hmm
            · have hpl : p = l.length := by omega
              have hb3 : ¬ (t : Int) < (M : Int) := by omega
              have hall : onceO (l.take p) = onceO l := by rw [hpl, List.take_length]
              rw [hall] at hCk
              have hkl : (onceO l).length = kw := by rw [← hCk, List.length_take]; omega
              have hkwl : kw < l.length := by omega
              have hci2 : ¬ (c = kw) := by omega
              have hkwc : (kw : Int) ≤ (c : Int) := by omega
              have hkwI : (kw : Int) ≤ (l.length : Int) := by omega
              obtain ⟨w11, hcl, hof2, hg2⟩ := clear_tail hown hkwl (c - kw)
              rw [hCk] at hof2
              have HIL := Lib.hid hkl
              have HOF := Lib.hid hof2
              have HGG := Lib.hid (grownBy_trans hgr hg2 (fun _ h => .inl h))
              clear hof2 hg2 hown hgr hof hCk hCp hall hkl h1 h2 hC ht
              go_wp2_with fail
              go_ret
              refine ⟨some ⟨g, 0, none⟩, c, by rw [HIL.out]; rfl, ?_, HGG.out⟩
              unfold Offs
              rw [HIL.out]
              exact HOF.out
        · skip
          have HNE := Lib.hid (show l[k] ≠ l[K] from fun h => hne (by rw [h]))
          have hdn : ∀ j (h : j < l.length), 1 ≤ j → j < k + 1 → l[j - 1] ≠ l[j] := fun j hj h1 h2 => by
            rcases Nat.lt_or_ge j k with h3 | h3
            · exact HDIF.out j hj h1 h3
            · obtain rfl : j = k := by omega
              rw [HKK.out]
              exact fun h => HNE.out h.symm
          have HDN := Lib.hid hdn
          clear hdn
          generalize hA : l[k] = a at *
          generalize hB : l[K] = b at *
          clear hA hB
          go_upto_region 6 with (fail)
          go_quiet (fail)
          have HG8 := Lib.hid (grownBy_drewN HGR.out nq)
          clear x0 x1 y0 y1
          go_wp2_with fail
          go_roundw
          case rel => exact ⟨k + 1, by omega, hlt, by simp, HDN.out, HG8.out⟩
          case measure => exact meas hlt
        · skip
          have HNE := Lib.hid (show l[k] ≠ l[K] from fun h => hne (by rw [h]))
          have hdn : ∀ j (h : j < l.length), 1 ≤ j → j < k + 1 → l[j - 1] ≠ l[j] := fun j hj h1 h2 => by
            rcases Nat.lt_or_ge j k with h3 | h3
            · exact HDIF.out j hj h1 h3
            · obtain rfl : j = k := by omega
              rw [HKK.out]
              exact fun h => HNE.out h.symm
          have HDN := Lib.hid hdn
          clear hdn
          generalize hA : l[k] = a at *
          generalize hB : l[K] = b at *
          clear hA hB
          go_upto_region 6 with (fail)
          go_quiet (fail)
          have HG8 := Lib.hid (grownBy_drewN HGR.out nq)
          clear x0 x1 y0 y1
          go_wp2_with fail
          go_roundw
          case rel => exact ⟨k + 1, by omega, hlt, by simp, HDN.out, HG8.out⟩
          case measure => exact meas hlt
      · have hkl2 : k = l.length := by omega
        have hb2 : ¬ (k : Int) < (l.length : Int) := by omega
        have HK := Lib.hid (show onceO l = l by
          have h5 := once_none (Nat.le_refl l.length) (fun j hj h1 h2 => hdif j hj h1 (by omega))
          rw [List.take_length] at h5
          exact h5)
        have HOWN := Lib.hid hown
        have HGR := Lib.hid (grownBy_trans (grownBy_refl w (some g)) hgr nofun)
        clear hown hgr hdif hkl2
        go_wp2_with fail
        go_ret
        rw [HK.out]
        exact ⟨_, c, rfl, HOWN.out, HGR.out⟩
end Go.Proofs.YtdcdhcgfhapbnaaDoor.Sg
