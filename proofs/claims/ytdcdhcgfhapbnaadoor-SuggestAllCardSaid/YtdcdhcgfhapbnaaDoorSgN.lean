/-
  dist.Far, dist.Near: how far two lists of codes are, by three rows: the walk. Conditions: at most 1000 codes each.
-/
import Derived.Test.YtdcdhcgfhapbnaaDoorWalkLaw
import Derived.Test.YtdcdhcgfhapbnaaDoorWalkR
import Derived.Test.YtdcdhcgfhapbnaaDoorSgD
import Derived.Deep.OwnRows
import Derived.Deep.CutBlock
namespace Go.Proofs.YtdcdhcgfhapbnaaDoor.Sg
open Go Go.RowKit Go.Maps

/-- The table, turned over. -/
theorem farD_symm (a b : List Int) : ∀ (n i k : Nat), i + k ≤ n → i ≤ a.length → k ≤ b.length → farD a b i k = farD b a k i
  | 0, i, k, h, hi, hk => by
    obtain rfl : i = 0 := by omega
    obtain rfl : k = 0 := by omega
    rw [farD_left (Nat.zero_le _), farD_left (Nat.zero_le _)]
  | n + 1, 0, k, h, hi, hk => by rw [farD_top hk, farD_left hk]
  | n + 1, i + 1, 0, h, hi, hk => by rw [farD_left hi, farD_top hi]
  | n + 1, i + 1, k + 1, h, hi, hk => by
    rw [farD_cell (by omega) (by omega), farD_cell (a := b) (b := a) (by omega) (by omega)]
    rw [farD_symm a b n i (k + 1) (by omega) (by omega) hk, farD_symm a b n (i + 1) k (by omega) hi (by omega), farD_symm a b n i k (by omega) (by omega) (by omega)]
    have e0 : (a.getD i 0 = b.getD k 0) ↔ (b.getD k 0 = a.getD i 0) := ⟨Eq.symm, Eq.symm⟩
    have e1 : (0 < i ∧ 0 < k ∧ a.getD i 0 = b.getD (k - 1) 0 ∧ a.getD (i - 1) 0 = b.getD k 0) ↔ (0 < k ∧ 0 < i ∧ b.getD k 0 = a.getD (i - 1) 0 ∧ b.getD (k - 1) 0 = a.getD i 0) :=
      ⟨fun h => ⟨h.2.1, h.1, h.2.2.2.symm, h.2.2.1.symm⟩, fun h => ⟨h.2.1, h.1, h.2.2.2.symm, h.2.2.1.symm⟩⟩
    simp only [e0, e1]
    rw [Nat.min_comm (farD b a (k + 1) i + 1) (farD b a k (i + 1) + 1)]
    split
    · rename_i hc
      rw [farD_symm a b n (i - 1) (k - 1) (by omega) (by omega) (by omega)]
    · rfl

theorem farC_symm (a b : List Int) : farC a b = farC b a := by
  rw [← farD_far, ← farD_far]
  exact farD_symm a b _ _ _ (Nat.le_refl _) (Nat.le_refl _) (Nat.le_refl _)

/-- Three rows under way. -/
structure FR (fb : Nat) (q : Nat → Nat) (c : Nat → Array Value) (m : Nat) (w wr : World) : Prop where
  fobj : wr.heap[fb]? = some (.cells #[.slice (some ⟨q 0, 0, none⟩) (m + 1) (m + 1), .slice (some ⟨q 1, 0, none⟩) (m + 1) (m + 1), .slice (some ⟨q 2, 0, none⟩) (m + 1) (m + 1)] 131 (0, 0))
  rows : ∀ j, j < 3 → wr.heap[q j]? = some (.cells (c j) 3 (0, 0)) ∧ (c j).size = m + 1
  ne : q 0 ≠ q 1 ∧ q 0 ≠ q 2 ∧ q 1 ≠ q 2 ∧ fb ≠ q 0 ∧ fb ≠ q 1 ∧ fb ≠ q 2
  ge : w.heap.size ≤ fb ∧ w.heap.size ≤ q 0 ∧ w.heap.size ≤ q 1 ∧ w.heap.size ≤ q 2
  grown : w.grownBy wr none

def updC (c : Nat → Array Value) (j k : Nat) (v : Value) : Nat → Array Value := fun x => if x = j then (c j).setIfInBounds k v else c x

def RowIs (a b : List Int) (c : Array Value) (i K : Nat) : Prop := ∀ k, k < K → c[k]? = some (.int .i64 (farD a b i k : Nat))

section
variable {fb m : Nat} {q : Nat → Nat} {c : Nat → Array Value} {w wr : World}

theorem three_cases {j : Nat} (h : j < 3) : j = 0 ∨ j = 1 ∨ j = 2 := by omega

theorem FR.qne (h : FR fb q c m w wr) {i j : Nat} (hi : i < 3) (hj : j < 3) (hij : i ≠ j) : q i ≠ q j := by
  have hn := h.ne
  rcases three_cases hi with rfl | rfl | rfl <;> rcases three_cases hj with rfl | rfl | rfl
  all_goals first | exact absurd rfl hij | exact hn.1 | exact hn.2.1 | exact hn.2.2.1 | exact fun e => hn.1 e.symm | exact fun e => hn.2.1 e.symm | exact fun e => hn.2.2.1 e.symm

theorem FR.qge (h : FR fb q c m w wr) {j : Nat} (hj : j < 3) : w.heap.size ≤ q j ∧ fb ≠ q j := by
  rcases three_cases hj with rfl | rfl | rfl
  · exact ⟨h.ge.2.1, h.ne.2.2.2.1⟩
  · exact ⟨h.ge.2.2.1, h.ne.2.2.2.2.1⟩
  · exact ⟨h.ge.2.2.2, h.ne.2.2.2.2.2⟩

theorem FR.arr (h : FR fb q c m w wr) {j : Nat} (hj : j < 3) : wr.cell? ⟨fb, j, none⟩ = some (.slice (some ⟨q j, 0, none⟩) (m + 1) (m + 1)) := by
  rw [cell_of_heap h.fobj]
  rcases three_cases hj with rfl | rfl | rfl <;> rfl

theorem FR.cell (h : FR fb q c m w wr) {j k : Nat} {v : Value} (hj : j < 3) (hv : (c j)[k]? = some v) : wr.cell? ⟨q j, k, none⟩ = some v := by
  rw [cell_of_heap (h.rows j hj).1, hv]

theorem FR.any (h : FR fb q c m w wr) {j k : Nat} (hj : j < 3) (hk : k ≤ m) : (∃ v, wr.cell? ⟨q j, k, none⟩ = some v) ∧ wr.frozen? ⟨q j, k, none⟩ = false := by
  obtain ⟨h1, h2⟩ := h.rows j hj
  exact ⟨⟨_, by rw [cell_of_heap h1, Array.getElem?_eq_getElem (by omega)]⟩, frozen_of_heap h1 k⟩

theorem FR.drewN (h : FR fb q c m w wr) (z : Nat) : FR fb q c m w (wr.drewN z) := ⟨h.fobj, h.rows, h.ne, h.ge, grownBy_drewN h.grown z⟩
theorem FR.drew (h : FR fb q c m w wr) : FR fb q c m w wr.drew := ⟨h.fobj, h.rows, h.ne, h.ge, grownBy_drew h.grown⟩

theorem FR.put (h : FR fb q c m w wr) {j : Nat} (hj : j < 3) (k : Nat) (v : Value) : FR fb q (updC c j k v) m w (wr.setCell ⟨q j, k, none⟩ v) := by
  obtain ⟨h1, h2⟩ := h.rows j hj
  refine ⟨?_, fun x hx => ?_, h.ne, h.ge, grownBy_setCell h.grown _ _ _ (.inr (h.qge hj).1)⟩
  · rw [Below.heap_setCell _ _ _ _ (h.qge hj).2]
    exact h.fobj
  · unfold updC
    by_cases e : x = j
    · subst e
      rw [if_pos rfl]
      exact ⟨heap_setCell h1 k v, by rw [Array.size_setIfInBounds]; exact h2⟩
    · rw [if_neg e, Below.heap_setCell _ _ _ _ (h.qne hx hj e)]
      exact h.rows x hx
end

theorem row_put {a b : List Int} {c : Nat → Array Value} {j i k m : Nat} {v : Value} (hs : (c j).size = m + 1) (hk : k ≤ m) (h : RowIs a b (c j) i k) (hv : v = .int .i64 (farD a b i k : Nat)) : RowIs a b (updC c j k v j) i (k + 1) := fun x hx => by
  unfold updC
  rw [if_pos rfl]
  rcases Nat.lt_or_ge x k with h1 | h1
  · rw [Array.getElem?_setIfInBounds_ne (by omega)]
    exact h x h1
  · obtain rfl : x = k := by omega
    rw [hv]
    exact Array.getElem?_setIfInBounds_self_of_lt (by omega)

theorem row_other {a b : List Int} {c : Nat → Array Value} {j j' i K k : Nat} {v : Value} (hne : j' ≠ j) (h : RowIs a b (c j') i K) : RowIs a b (updC c j k v j') i K := by
  unfold updC
  rw [if_neg hne]
  exact h

theorem row_keep {a b : List Int} {c : Nat → Array Value} {j i k : Nat} {v : Value} (h : RowIs a b (c j) i k) : RowIs a b (updC c j k v j) i k := fun x hx => by
  unfold updC
  rw [if_pos rfl, Array.getElem?_setIfInBounds_ne (by omega)]
  exact h x hx

theorem FR.of {fb m : Nat} {q : Nat → Nat} {c : Nat → Array Value} {w wr wx : World} (h : FR fb q c m w wr) (e : wx.heap = wr.heap) (g : wr.grownBy wx none) : FR fb q c m w wx :=
  ⟨by rw [e]; exact h.fobj, fun j hj => by rw [e]; exact h.rows j hj, h.ne, h.ge, grownBy_trans h.grown g nofun⟩

/-- The rows are made. -/
structure MakeRel (fb m : Nat) (w : World) (iv : Value) (wr : World) : Prop where
  out : ∃ (i : Nat) (q : Nat → Nat), i ≤ 3 ∧ iv = .int .i64 (i : Int) ∧
    wr.heap[fb]? = some (.cells #[if 0 < i then .slice (some ⟨q 0, 0, none⟩) (m + 1) (m + 1) else .slice none 0 0, if 1 < i then .slice (some ⟨q 1, 0, none⟩) (m + 1) (m + 1) else .slice none 0 0, if 2 < i then .slice (some ⟨q 2, 0, none⟩) (m + 1) (m + 1) else .slice none 0 0] 131 (0, 0)) ∧
    (∀ j, j < i → wr.heap[q j]? = some (.cells (madeCells #[.int .i64 0] (m + 1)) 3 (0, 0)) ∧ fb < q j) ∧ (∀ j j', j < j' → j' < i → q j < q j') ∧ w.heap.size ≤ fb ∧ w.grownBy wr none

theorem make_step {fb m i : Nat} {q : Nat → Nat} {w wr : World} (hi : i < 3)
    (h1 : wr.heap[fb]? = some (.cells #[if 0 < i then .slice (some ⟨q 0, 0, none⟩) (m + 1) (m + 1) else .slice none 0 0, if 1 < i then .slice (some ⟨q 1, 0, none⟩) (m + 1) (m + 1) else .slice none 0 0, if 2 < i then .slice (some ⟨q 2, 0, none⟩) (m + 1) (m + 1) else .slice none 0 0] 131 (0, 0)))
    (h2 : ∀ j, j < i → wr.heap[q j]? = some (.cells (madeCells #[.int .i64 0] (m + 1)) 3 (0, 0)) ∧ fb < q j) (h3 : ∀ j j', j < j' → j' < i → q j < q j') (h4 : w.heap.size ≤ fb) (h5 : w.grownBy wr none) :
    MakeRel fb m w (.int .i64 ((i : Int) + 1)) ((wr.alloc (.cells (madeCells #[.int .i64 0] (m + 1)) 3)).setCell ⟨fb, i, none⟩ (.slice (some ⟨wr.heap.size, 0, none⟩) (m + 1) (m + 1))) := by
  have hfb : fb < wr.heap.size := heap_lt h1
  have hnew : (wr.alloc (.cells (madeCells #[.int .i64 0] (m + 1)) 3)).heap[wr.heap.size]? = some (.cells (madeCells #[.int .i64 0] (m + 1)) 3 (0, 0)) := heap_new _ _
  have h1' := (Below.heap_alloc wr (.cells (madeCells #[.int .i64 0] (m + 1)) 3) _ hfb).trans h1
  refine ⟨i + 1, fun x => if x = i then wr.heap.size else q x, by omega, by simp, ?_, fun j hj => ?_, fun j j' hj hj' => ?_, h4, grownBy_setCell (grownBy_alloc h5 _) _ _ _ (.inr h4)⟩
  · rw [heap_setCell h1' i _]
    rcases three_cases hi with rfl | rfl | rfl <;> rfl
  · by_cases e : j = i
    · simp only [if_pos e]
      rw [Below.heap_setCell _ _ _ _ (by show wr.heap.size ≠ fb; omega)]
      exact ⟨hnew, hfb⟩
    · simp only [if_neg e]
      obtain ⟨k1, k2⟩ := h2 j (by omega)
      rw [Below.heap_setCell _ _ _ _ (by show q j ≠ fb; omega), Below.heap_alloc _ _ _ (heap_lt k1)]
      exact ⟨k1, k2⟩
  · by_cases e : j' = i
    · simp only [if_pos e, if_neg (show ¬ j = i by omega)]
      exact heap_lt (h2 j (by omega)).1
    · simp only [if_neg e, if_neg (show ¬ j = i by omega)]
      exact h3 j j' hj (by omega)

structure FirstRel (a b : List Int) (fb m : Nat) (w : World) (kv : Value) (wr : World) : Prop where
  out : ∃ (k : Nat) (q : Nat → Nat) (c : Nat → Array Value), k ≤ m + 1 ∧ kv = .int .i64 (k : Int) ∧ FR fb q c m w wr ∧ RowIs a b (c 0) 0 k

structure OuterRel (a b : List Int) (fb n m : Nat) (w : World) (iv : Value) (wr : World) : Prop where
  out : ∃ (i : Nat) (q : Nat → Nat) (c : Nat → Array Value), 1 ≤ i ∧ i ≤ n + 1 ∧ iv = .int .i64 (i : Int) ∧ FR fb q c m w wr ∧ RowIs a b (c ((i - 1) % 3)) (i - 1) (m + 1) ∧ (2 ≤ i → RowIs a b (c ((i + 1) % 3)) (i - 2) (m + 1))

structure InnerRel (a b : List Int) (fb : Nat) (q : Nat → Nat) (i m : Nat) (w : World) (kv : Value) (wr : World) : Prop where
  out : ∃ (k : Nat) (c : Nat → Array Value), 1 ≤ k ∧ k ≤ m + 1 ∧ kv = .int .i64 (k : Int) ∧ FR fb q c m w wr ∧ RowIs a b (c (i % 3)) i k ∧ RowIs a b (c ((i - 1) % 3)) (i - 1) (m + 1) ∧ (2 ≤ i → RowIs a b (c ((i + 1) % 3)) (i - 2) (m + 1))

set_option maxRecDepth 100000 in
set_option maxHeartbeats 8000000 in
theorem dfar_walk (a b : List Int) (A B : Option Addr) (n m ca cb : Nat) (w : World) (hn : a.length = n) (hm : b.length = m) (hn2 : n ≤ 1000) (hm2 : m ≤ 1000) (hA : Sl w 1 A n (intCells a)) (hB : Sl w 1 B m (intCells b)) :
    Calls Tryd.prog 46 #[.slice A n ca, .slice B m cb] w fun e w' => e = .returned (.int .i64 (farC a b : Nat)) ∧ w.grownBy w' none := by
  obtain ⟨i0, hi0, hz0, hz1, hz2⟩ := info_parts int_info
  have hmk : ∀ w : World, (Instr.makeSlice 36 (.int .i64 ((m : Int) + 1)) (.int .i64 ((m : Int) + 1))).run Tryd.prog w = .ok (.slice (some ⟨w.heap.size, 0, none⟩) (m + 1) (m + 1)) (w.alloc (.cells (madeCells #[.int .i64 0] (m + 1)) 3)) := by
    intro w
    have h := run_make (P := Tryd.prog) w 36 3 i0 _ Tryd.underlying36 hi0 hz0 .i64 .i64 ((m : Int) + 1) ((m : Int) + 1) (by omega) (Int.le_refl _) (by rw [hz2]; omega) (by omega)
    rw [show ((m : Int) + 1).toNat = m + 1 by omega, hz1, Nat.mul_one] at h
    exact h
  have hwm : IntKind.i64.wrap ((m : Int) + 1) = (m : Int) + 1 := by rw [IntKind.wrap_i64]; omega
  have HA := Lib.hid hA
  have HB := Lib.hid hB
  have HN := Lib.hid hn
  have HM := Lib.hid hm
  clear hA hB hn hm
  go_enter Tryd.func46, Tryd.ntmps46
  go_wp2_with fail
  have hF : (w.alloc (Obj.cells #[.slice none 0 0, .slice none 0 0, .slice none 0 0] 131)).heap[w.heap.size]? = some (.cells #[.slice none 0 0, .slice none 0 0, .slice none 0 0] 131 (0, 0)) := by
    exact heap_new _ _
  have hg2 := grownBy_alloc (grownBy_refl w none) (Obj.cells #[.slice none 0 0, .slice none 0 0, .slice none 0 0] 131)
  generalize hw2 : w.alloc (Obj.cells #[.slice none 0 0, .slice none 0 0, .slice none 0 0] 131) = w2 at *
  have hfb : w.heap.size ≤ w.heap.size := Nat.le_refl _
  have HF := Lib.hid hF
  have HG2 := Lib.hid hg2
  clear hF hg2 hw2
  go_loopw [14] (fun iv wr => MakeRel w.heap.size m w iv wr) (fun iv _ => 3 - (RowKit.intOf iv).toNat)
  case atStart => exact ⟨0, fun _ => 0, by omega, rfl, HF.out, fun j h => absurd h (by omega), fun j j' _ h => absurd h (by omega), Nat.le_refl _, HG2.out⟩
  case round =>
    obtain ⟨i, q, hi, rfl, h1, h2, h3, h4, h5⟩ := hrel.out
    rcases Nat.lt_or_ge i 3 with hlt | hge
    · have HS := Lib.hid (make_step hlt h1 h2 h3 h4 h5)
      have hiI : (i : Int) < 3 := by omega
      have hwi : IntKind.i64.wrap ((i : Int) + 1) = (i : Int) + 1 := by rw [IntKind.wrap_i64]; omega
      have hfl := heap_lt h1
      have x0 : ∃ v, (wr.alloc (.cells (madeCells #[.int .i64 0] (m + 1)) 3)).cell? ⟨w.heap.size, i, none⟩ = some v := by
        rcases three_cases hlt with rfl | rfl | rfl <;> exact ⟨_, by rw [cell_of_heap ((Below.heap_alloc wr (.cells (madeCells #[.int .i64 0] (m + 1)) 3) _ hfl).trans h1)]; rfl⟩
      have f0 : (wr.alloc (.cells (madeCells #[.int .i64 0] (m + 1)) 3)).frozen? ⟨w.heap.size, i, none⟩ = false := frozen_of_heap ((Below.heap_alloc wr (.cells (madeCells #[.int .i64 0] (m + 1)) 3) _ hfl).trans h1) i
      obtain ⟨v0, x0⟩ := x0
      clear h1 h2 h3 h4 h5 hfl
      go_wp2_with fail
      go_roundw
      case rel => exact HS.out
      case measure => exact meas hlt
    · have hi3 : i = 3 := by omega
      subst hi3
      have hFR : FR w.heap.size q (fun _ => madeCells #[.int .i64 0] (m + 1)) m w wr := by
        refine ⟨h1, fun j hj => ⟨(h2 j hj).1, by simp [madeCells]⟩, ?_, ⟨h4, ?_, ?_, ?_⟩, h5⟩
        · have := h3 0 1 (by omega) (by omega)
          have := h3 1 2 (by omega) (by omega)
          have := (h2 0 (by omega)).2
          omega
        · have := (h2 0 (by omega)).2; omega
        · have := (h2 1 (by omega)).2; omega
        · have := (h2 2 (by omega)).2; omega
      have r0 := hFR.arr (j := 0) (by omega)
      have HR := Lib.hid hFR
      clear h1 h2 h3 h4 h5 hFR HF HG2 hmk
      go_wp2_with fail
      go_loopw [27] (fun kv wr => FirstRel a b w.heap.size m w kv wr) (fun kv _ => m + 1 - (RowKit.intOf kv).toNat)
      case atStart => exact ⟨0, q, _, Nat.zero_le _, rfl, HR.out, fun k h => absurd h (by omega)⟩
      case round =>
        obtain ⟨k, q2, c, hk, rfl, hfr, hrow⟩ := hrel.out
        rcases Nat.lt_or_ge k (m + 1) with hlt | hge
        · have hkI : (k : Int) < (m : Int) + 1 := by omega
          have hwk : IntKind.i64.wrap ((k : Int) + 1) = (k : Int) + 1 := by rw [IntKind.wrap_i64]; omega
          have r0 := hfr.arr (j := 0) (by omega)
          obtain ⟨⟨u0, x0⟩, f0⟩ := hfr.any (j := 0) (k := k) (by omega) (by omega)
          have HP := Lib.hid (hfr.put (j := 0) (by omega) k (.int .i64 (k : Int)))
          have HW := Lib.hid (row_put (a := a) (b := b) (c := c) (j := 0) (i := 0) (k := k) (m := m) (v := .int .i64 (k : Int)) (hfr.rows 0 (by omega)).2 (by omega) hrow (by rw [farD_top (by rw [HM.out]; omega)]))
          clear hfr hrow
          go_wp2_with fail
          go_roundw
          case rel => exact ⟨k + 1, q2, _, hlt, by simp, HP.out, HW.out⟩
          case measure => exact meas hlt
        · have hkm : k = m + 1 := by omega
          subst hkm
          have hkI : ¬ ((m : Int) + 1) < (m : Int) + 1 := by omega
          have HP := Lib.hid hfr
          have HW := Lib.hid hrow
          clear hfr hrow HR r0
          go_wp2_with fail
          go_loopw [8] (fun iv wr => OuterRel a b w.heap.size n m w iv wr) (fun iv _ => n + 1 - (RowKit.intOf iv).toNat)
          case atStart => exact ⟨1, q2, c, Nat.le_refl _, by omega, rfl, HP.out, HW.out, fun h => absurd h (by omega)⟩
          case round =>
            obtain ⟨i, q3, c3, hi1, hi, rfl, hfr, hr1, hr2⟩ := hrel.out
            rcases Nat.lt_or_ge n i with hgt | hle
            · have hin : i = n + 1 := by omega
              subst hin
              obtain ⟨J, hJ⟩ : ∃ J, n % 3 = J := ⟨_, rfl⟩
              rw [show n + 1 - 1 = n by omega, hJ] at hr1
              have hJ3 : J < 3 := by omega
              have r0 := hfr.arr hJ3
              have x0 := hfr.cell (k := m) hJ3 (hr1 m (by omega))
              have hfc : farD a b n m = farC a b := by rw [← HN.out, ← HM.out]; exact farD_far a b
              rw [hfc] at x0
              have j1 : (n : Int).tmod 3 = (J : Int) := by rw [Int.tmod_eq_emod_of_nonneg (by omega)]; omega
              have j2 : IntKind.i64.wrap (J : Int) = (J : Int) := by rw [IntKind.wrap_i64]; omega
              have j3 : (J : Int) < 3 := by omega
              have j4 : ¬ (n : Int) + 1 ≤ (n : Int) := by omega
              have j5 : (m : Int) < (m : Int) + 1 := by omega
              have HG := Lib.hid hfr.grown
              clear hfr hr1 hr2 hJ hfc HP HW
              go_wp2_with fail
              go_ret
              exact ⟨rfl, HG.out⟩
            · obtain ⟨i1, hi1'⟩ : ∃ i1, i = i1 + 1 := ⟨i - 1, by omega⟩
              obtain ⟨I0, hI0⟩ : ∃ I0, i % 3 = I0 := ⟨_, rfl⟩
              obtain ⟨I1, hI1⟩ : ∃ I1, (i - 1) % 3 = I1 := ⟨_, rfl⟩
              obtain ⟨I2, hI2⟩ : ∃ I2, (i + 1) % 3 = I2 := ⟨_, rfl⟩
              rw [hI1] at hr1
              rw [hI2] at hr2
              have hI03 : I0 < 3 := by omega
              have hI13 : I1 < 3 := by omega
              have hI23 : I2 < 3 := by omega
              have n01 : I0 ≠ I1 := by omega
              have n02 : I0 ≠ I2 := by omega
              have n12 : I1 ≠ I2 := by omega
              have r0 := hfr.arr hI03
              have r1 := hfr.arr hI13
              have r2 := hfr.arr hI23
              have j0 : (i : Int).tmod 3 = (I0 : Int) := by rw [Int.tmod_eq_emod_of_nonneg (by omega)]; omega
              have j1 : (i1 : Int).tmod 3 = (I1 : Int) := by rw [Int.tmod_eq_emod_of_nonneg (by omega)]; omega
              have j2 : ((i : Int) + 1).tmod 3 = (I2 : Int) := by rw [Int.tmod_eq_emod_of_nonneg (by omega)]; omega
              have ji : (i : Int) - 1 = (i1 : Int) := by omega
              have jw0 : IntKind.i64.wrap (I0 : Int) = (I0 : Int) := by rw [IntKind.wrap_i64]; omega
              have jw1 : IntKind.i64.wrap (I1 : Int) = (I1 : Int) := by rw [IntKind.wrap_i64]; omega
              have jw2 : IntKind.i64.wrap (I2 : Int) = (I2 : Int) := by rw [IntKind.wrap_i64]; omega
              have jwi : IntKind.i64.wrap (i1 : Int) = (i1 : Int) := by rw [IntKind.wrap_i64]; omega
              have jwp : IntKind.i64.wrap ((i : Int) + 1) = (i : Int) + 1 := by rw [IntKind.wrap_i64]; omega
              have l0 : (I0 : Int) < 3 := by omega
              have l1 : (I1 : Int) < 3 := by omega
              have l2 : (I2 : Int) < 3 := by omega
              have hin : (i : Int) ≤ (n : Int) := by omega
              have hm0 : (0 : Int) < (m : Int) + 1 := by omega
              have HII := Lib.hid (And.intro hi1' (And.intro hI0 (And.intro hI1 hI2)))
              have HFR := Lib.hid hfr
              have HR1 := Lib.hid hr1
              have HR2 := Lib.hid hr2
              clear hfr hr1 hr2 hi1' hI0 hI1 hI2 HP HW
              go_upto_region 15 with (fail)
              go_quiet (fail)
              have hf8 := HFR.out.drewN nq
              generalize hw8 : wr.drewN nq = w8 at *
              obtain ⟨⟨u0, x0⟩, f0⟩ := hf8.any (j := I0) (k := 0) hI03 (Nat.zero_le _)
              have hf9 := hf8.put hI03 0 (.int .i64 (i : Int))
              have hrw := row_put (a := a) (b := b) (c := c3) (j := I0) (i := i) (k := 0) (m := m) (v := .int .i64 (i : Int)) (hf8.rows I0 hI03).2 (Nat.zero_le _) (fun k h => absurd h (by omega)) (by rw [farD_left (by rw [HN.out]; omega)])
              have HF9 := Lib.hid hf9
              have HRW := Lib.hid hrw
              have HNE := Lib.hid (And.intro n01 (And.intro n02 n12))
              clear hf8 hf9 hrw hw8 r0 r1 r2 n01 n02 n12
              go_wp2_with fail
              go_loopw [12] (fun kv wr => InnerRel a b w.heap.size q3 i m w kv wr) (fun kv _ => m + 1 - (RowKit.intOf kv).toNat)
              case atStart => exact ⟨1, _, Nat.le_refl _, by omega, rfl, HF9.out, by rw [HII.out.2.1]; exact HRW.out, by rw [HII.out.2.2.1]; exact row_other (fun e => HNE.out.1 e.symm) HR1.out, fun h => by rw [HII.out.2.2.2]; exact row_other (fun e => HNE.out.2.1 e.symm) (HR2.out h)⟩
              case round =>
                obtain ⟨k, c4, hk1, hkm, rfl, hfr, hrow, hr1, hr2⟩ := hrel.out
                rw [HII.out.2.1] at hrow
                rw [HII.out.2.2.1] at hr1
                rw [HII.out.2.2.2] at hr2
                rcases Nat.lt_or_ge m k with hgt | hle
                · have j4 : ¬ (k : Int) ≤ (m : Int) := by omega
                  have hkm' : k = m + 1 := by omega
                  subst hkm'
                  have HF := Lib.hid hfr
                  have HRO := Lib.hid hrow
                  have HRI := Lib.hid hr1
                  clear hfr hrow hr1 hr2 HF9 HRW HFR HR1 HR2
                  go_wp2_with fail
                  go_roundw
                  case rel => exact ⟨i + 1, q3, c4, by omega, by omega, by simp, HF.out, by rw [Nat.add_sub_cancel, HII.out.2.1]; exact HRO.out, fun _ => by rw [show (i + 1 + 1) % 3 = (i - 1) % 3 by omega, HII.out.2.2.1, show i + 1 - 2 = i - 1 by omega]; exact HRI.out⟩
                  case measure =>
                    simp only [RowKit.intOf]
                    omega
                · obtain ⟨k1, hk1'⟩ : ∃ k1, k = k1 + 1 := ⟨k - 1, by omega⟩
                  have hkI : (k : Int) ≤ (m : Int) := by omega
                  have hkk : (k : Int) - 1 = (k1 : Int) := by omega
                  have wk1 : IntKind.i64.wrap (k1 : Int) = (k1 : Int) := by rw [IntKind.wrap_i64]; omega
                  have wkp : IntKind.i64.wrap ((k : Int) + 1) = (k : Int) + 1 := by rw [IntKind.wrap_i64]; omega
                  have hi1e := HII.out.1
                  have hii : i - 1 = i1 := by omega
                  rw [hii] at hr1
                  have g1 := hr1 k (by omega)
                  have g2 := hrow k1 (by omega)
                  have g3 := hr1 k1 (by omega)
                  have z1 := farD_le (a := a) (b := b) (i := i1) (k := k) (by rw [HN.out]; omega) (by rw [HM.out]; omega)
                  have z2 := farD_le (a := a) (b := b) (i := i) (k := k1) (by rw [HN.out]; omega) (by rw [HM.out]; omega)
                  have z3 := farD_le (a := a) (b := b) (i := i1) (k := k1) (by rw [HN.out]; omega) (by rw [HM.out]; omega)
                  have hcell := farD_cell (a := a) (b := b) (i := i1) (k := k1) (by rw [HN.out]; omega) (by rw [HM.out]; omega)
                  rw [← hk1', ← hi1e] at hcell
                  obtain ⟨x1, hx1⟩ : ∃ x1, farD a b i1 k = x1 := ⟨_, rfl⟩
                  obtain ⟨x2, hx2⟩ : ∃ x2, farD a b i k1 = x2 := ⟨_, rfl⟩
                  obtain ⟨x3, hx3⟩ : ∃ x3, farD a b i1 k1 = x3 := ⟨_, rfl⟩
                  rw [hx1] at g1 z1 hcell
                  rw [hx2] at g2 z2 hcell
                  rw [hx3] at g3 z3 hcell
                  obtain ⟨ab, ao, eA, ha⟩ := int_cell (HA.out.kept hfr.grown nofun) HN.out (by omega)
                  cases eA
                  obtain ⟨bb, bo, eB, hb⟩ := int_cell (HB.out.kept hfr.grown nofun) HM.out (by omega)
                  cases eB
                  have y1 := ha i1 (by omega)
                  have y2 := hb k1 (by omega)
                  obtain ⟨ai, hai⟩ : ∃ ai, a.getD i1 0 = ai := ⟨_, rfl⟩
                  obtain ⟨bk, hbk⟩ : ∃ bk, b.getD k1 0 = bk := ⟨_, rfl⟩
                  rw [hai] at y1
                  rw [hbk] at y2
                  rw [hai, hbk] at hcell
                  obtain ⟨cc, hcc⟩ : ∃ cc : Nat, (if ai = bk then 0 else 1) = cc := ⟨_, rfl⟩
                  rw [hcc] at hcell
                  have hcc1 : cc ≤ 1 := by rw [← hcc]; split <;> omega
                  have hi1I : (i1 : Int) < (n : Int) := by omega
                  have hk1I : (k1 : Int) < (m : Int) := by omega
                  have hk1J : (k1 : Int) < (m : Int) + 1 := by omega
                  have hkJ : (k : Int) < (m : Int) + 1 := by omega
                  have HKK := Lib.hid (And.intro hk1' (And.intro hai (And.intro hbk hcc)))
                  have HHA := Lib.hid ha
                  have HHB := Lib.hid hb
                  have HF4 := Lib.hid hfr
                  have HRO := Lib.hid hrow
                  have HRI := Lib.hid hr1
                  have HRL := Lib.hid hr2
                  have HG := Lib.hid (And.intro g1 (And.intro g2 g3))
                  have HCELL := Lib.hid hcell
                  clear hfr hrow hr1 hr2 g1 g2 g3 ha hb hai hbk hx1 hx2 hx3 hcc hcell hk1' hi1e hii HF9 HRW HFR HR1 HR2 j0 j1 j2 jw0 jw1 jw2 jwp l0 l1 l2 hin hm0
                  go_upto_region 21 with (fail)
                  go_quiet (fail)
                  go_upto_if 75 with (fail)
                  go_cut [13] from 59 to 143 (fun v wx => v = .int .i64 (cc : Int) ∧ wx.heap = wr.heap ∧ wr.grownBy wx none)
                  case first =>
                    have hcc := HKK.out.2.2.2
                    by_cases hab : ai = bk
                    · rw [if_pos hab] at hcc
                      subst hcc
                      go_wp2_with fail
                      go_meet
                      exact ⟨by first | rfl | trivial, by first | rfl, by first | exact grownBy_refl _ none | exact grownBy_drewN (grownBy_refl _ none) _ | exact grownBy_drewN (grownBy_drewN (grownBy_refl _ none) _) _ | exact grownBy_drew (grownBy_refl _ none)⟩
                    · rw [if_neg hab] at hcc
                      subst hcc
                      go_wp2_with fail
                      go_meet
                      exact ⟨by first | rfl | trivial, by first | rfl, by first | exact grownBy_refl _ none | exact grownBy_drewN (grownBy_refl _ none) _ | exact grownBy_drewN (grownBy_drewN (grownBy_refl _ none) _) _ | exact grownBy_drew (grownBy_refl _ none)⟩
                  case rest =>
                    obtain ⟨rfl, hhz, hgz⟩ := hcut
                    have hf5 := (HF4.out.of hhz hgz).drew
                    have e1 : wc.drew.cell? ⟨q3 I1, k, none⟩ = some (.int .i64 (x1 : Int)) := hf5.cell hI13 HG.out.1
                    have e2 : wc.drew.cell? ⟨q3 I0, k1, none⟩ = some (.int .i64 (x2 : Int)) := hf5.cell hI03 HG.out.2.1
                    have e3 : wc.drew.cell? ⟨q3 I1, k1, none⟩ = some (.int .i64 (x3 : Int)) := hf5.cell hI13 HG.out.2.2
                    obtain ⟨⟨u1, e4⟩, f4⟩ := hf5.any (j := I0) (k := k) hI03 hle
                    obtain ⟨d0, hd0⟩ : ∃ d0, min (min (x1 + 1) (x2 + 1)) (x3 + cc) = d0 := ⟨_, rfl⟩
                    have hmin : ∀ (ts : Array TypeId) (t : TypeId) (w : World), (Builtin.min_ ts t #[.int .i64 ((x1 : Int) + 1), .int .i64 ((x2 : Int) + 1), .int .i64 ((x3 : Int) + (cc : Int))]).run Tryd.prog w = .ok (.int .i64 (d0 : Int)) w := by
                      intro ts t w
                      rw [run_min_int3]; congr 2; rw [← hd0]; split <;> split <;> omega
                    have hd0b : d0 ≤ 2002 := by omega
                    have v1 : IntKind.i64.wrap ((x1 : Int) + 1) = (x1 : Int) + 1 := by rw [IntKind.wrap_i64]; omega
                    have v2 : IntKind.i64.wrap ((x2 : Int) + 1) = (x2 : Int) + 1 := by rw [IntKind.wrap_i64]; omega
                    have v3 : IntKind.i64.wrap ((x3 : Int) + (cc : Int)) = (x3 : Int) + (cc : Int) := by rw [IntKind.wrap_i64]; omega
                    have HD0 := Lib.hid hd0
                    have hf6 := (HF4.out.of hhz hgz).put hI03 k (.int .i64 (d0 : Int))
                    have hk6 : RowIs a b (updC c4 I0 k (.int .i64 (d0 : Int)) I0) i k := row_keep HRO.out
                    have HF6 := Lib.hid hf6
                    have HK6 := Lib.hid hk6
                    have HS5 := Lib.hid (hf5.rows I0 hI03).2
                    clear hf5 hd0 hf6 hk6 y1 y2
                    go_upto_region 23 with (fail)
                    refine region_pre 22 (fun u => u = wc.drew) (by kernel_rfl) rfl (fun hHeld => ?_)
                    go_simp
                    refine pre_free 0 (v := ?_) rfl (by kernel_rfl) (by kernel_rfl) (by kernel_rfl) (by kernel_rfl) (fun _ _ _ h => h) (by rfl) (fun u => ?_) (by assumption) ?_
                    rotate_left
                    focus (go_simp; (try with_reducible rfl); done)
                    try simp only [Act.put, List.setIfInBounds_toArray, List.set_cons_zero, List.set_cons_succ]
                    refine pre_free 1 (v := ?_) rfl (by kernel_rfl) (by kernel_rfl) (by kernel_rfl) (by kernel_rfl) (fun _ _ _ h => h) (by rfl) (fun u => ?_) (by assumption) ?_
                    rotate_left
                    focus (go_simp; (try with_reducible rfl); done)
                    try simp only [Act.put, List.setIfInBounds_toArray, List.set_cons_zero, List.set_cons_succ]
                    refine pre_free 2 (v := ?_) rfl (by kernel_rfl) (by kernel_rfl) (by kernel_rfl) (by kernel_rfl) (fun _ _ _ h => h) (by rfl) (fun u => ?_) (by assumption) ?_
                    rotate_left
                    focus (go_simp; (try with_reducible rfl); done)
                    try simp only [Act.put, List.setIfInBounds_toArray, List.set_cons_zero, List.set_cons_succ]
                    refine pre_free 3 (v := ?_) rfl (by kernel_rfl) (by kernel_rfl) (by kernel_rfl) (by kernel_rfl) (fun _ _ _ h => h) (by rfl) (fun u => ?_) (by assumption) ?_
                    rotate_left
                    focus (go_simp; (try with_reducible rfl); done)
                    try simp only [Act.put, List.setIfInBounds_toArray, List.set_cons_zero, List.set_cons_succ]
                    refine pre_free 4 (v := ?_) rfl (by kernel_rfl) (by kernel_rfl) (by kernel_rfl) (by kernel_rfl) (fun _ _ _ h => h) (by rfl) (fun u => ?_) (by assumption) ?_
                    rotate_left
                    focus (go_simp; (try with_reducible rfl); done)
                    try simp only [Act.put, List.setIfInBounds_toArray, List.set_cons_zero, List.set_cons_succ]
                    refine pre_load 5 (v := ?_) rfl (by kernel_rfl) (by kernel_rfl) (by kernel_rfl) (by kernel_rfl) (fun _ _ _ h => h) (by rfl) (fun u hu => ?_) (by assumption) ?_
                    rotate_left
                    focus ((try dsimp only at hu); subst hu; go_simp; (try with_reducible rfl); done)
                    try simp only [Act.put, List.setIfInBounds_toArray, List.set_cons_zero, List.set_cons_succ]
                    refine pre_free 6 (v := ?_) rfl (by kernel_rfl) (by kernel_rfl) (by kernel_rfl) (by kernel_rfl) (fun _ _ _ h => h) (by rfl) (fun u => ?_) (by assumption) ?_
                    rotate_left
                    focus (go_simp; (try with_reducible rfl); done)
                    try simp only [Act.put, List.setIfInBounds_toArray, List.set_cons_zero, List.set_cons_succ]
                    refine pre_free 7 (v := ?_) rfl (by kernel_rfl) (by kernel_rfl) (by kernel_rfl) (by kernel_rfl) (fun _ _ _ h => h) (by rfl) (fun u => ?_) (by assumption) ?_
                    rotate_left
                    focus (go_simp; (try with_reducible rfl); done)
                    try simp only [Act.put, List.setIfInBounds_toArray, List.set_cons_zero, List.set_cons_succ]
                    refine pre_free 8 (v := ?_) rfl (by kernel_rfl) (by kernel_rfl) (by kernel_rfl) (by kernel_rfl) (fun _ _ _ h => h) (by rfl) (fun u => ?_) (by assumption) ?_
                    rotate_left
                    focus (go_simp; (try with_reducible rfl); done)
                    try simp only [Act.put, List.setIfInBounds_toArray, List.set_cons_zero, List.set_cons_succ]
                    refine pre_free 9 (v := ?_) rfl (by kernel_rfl) (by kernel_rfl) (by kernel_rfl) (by kernel_rfl) (fun _ _ _ h => h) (by rfl) (fun u => ?_) (by assumption) ?_
                    rotate_left
                    focus (go_simp; (try with_reducible rfl); done)
                    try simp only [Act.put, List.setIfInBounds_toArray, List.set_cons_zero, List.set_cons_succ]
                    refine pre_free 10 (v := ?_) rfl (by kernel_rfl) (by kernel_rfl) (by kernel_rfl) (by kernel_rfl) (fun _ _ _ h => h) (by rfl) (fun u => ?_) (by assumption) ?_
                    rotate_left
                    focus (go_simp; (try with_reducible rfl); done)
                    try simp only [Act.put, List.setIfInBounds_toArray, List.set_cons_zero, List.set_cons_succ]
                    refine pre_load 11 (v := ?_) rfl (by kernel_rfl) (by kernel_rfl) (by kernel_rfl) (by kernel_rfl) (fun _ _ _ h => h) (by rfl) (fun u hu => ?_) (by assumption) ?_
                    rotate_left
                    focus ((try dsimp only at hu); subst hu; go_simp; (try with_reducible rfl); done)
                    try simp only [Act.put, List.setIfInBounds_toArray, List.set_cons_zero, List.set_cons_succ]
                    refine pre_free 12 (v := ?_) rfl (by kernel_rfl) (by kernel_rfl) (by kernel_rfl) (by kernel_rfl) (fun _ _ _ h => h) (by rfl) (fun u => ?_) (by assumption) ?_
                    rotate_left
                    focus (go_simp; (try with_reducible rfl); done)
                    try simp only [Act.put, List.setIfInBounds_toArray, List.set_cons_zero, List.set_cons_succ]
                    refine pre_free 13 (v := ?_) rfl (by kernel_rfl) (by kernel_rfl) (by kernel_rfl) (by kernel_rfl) (fun _ _ _ h => h) (by rfl) (fun u => ?_) (by assumption) ?_
                    rotate_left
                    focus (go_simp; (try with_reducible rfl); done)
                    try simp only [Act.put, List.setIfInBounds_toArray, List.set_cons_zero, List.set_cons_succ]
                    refine pre_free 14 (v := ?_) rfl (by kernel_rfl) (by kernel_rfl) (by kernel_rfl) (by kernel_rfl) (fun _ _ _ h => h) (by rfl) (fun u => ?_) (by assumption) ?_
                    rotate_left
                    focus (go_simp; (try with_reducible rfl); done)
                    try simp only [Act.put, List.setIfInBounds_toArray, List.set_cons_zero, List.set_cons_succ]
                    refine pre_free 15 (v := ?_) rfl (by kernel_rfl) (by kernel_rfl) (by kernel_rfl) (by kernel_rfl) (fun _ _ _ h => h) (by rfl) (fun u => ?_) (by assumption) ?_
                    rotate_left
                    focus (go_simp; (try with_reducible rfl); done)
                    try simp only [Act.put, List.setIfInBounds_toArray, List.set_cons_zero, List.set_cons_succ]
                    refine pre_free 16 (v := ?_) rfl (by kernel_rfl) (by kernel_rfl) (by kernel_rfl) (by kernel_rfl) (fun _ _ _ h => h) (by rfl) (fun u => ?_) (by assumption) ?_
                    rotate_left
                    focus (go_simp; (try with_reducible rfl); done)
                    try simp only [Act.put, List.setIfInBounds_toArray, List.set_cons_zero, List.set_cons_succ]
                    refine pre_load 17 (v := ?_) rfl (by kernel_rfl) (by kernel_rfl) (by kernel_rfl) (by kernel_rfl) (fun _ _ _ h => h) (by rfl) (fun u hu => ?_) (by assumption) ?_
                    rotate_left
                    focus ((try dsimp only at hu); subst hu; go_simp; (try with_reducible rfl); done)
                    try simp only [Act.put, List.setIfInBounds_toArray, List.set_cons_zero, List.set_cons_succ]
                    refine pre_free 18 (v := ?_) rfl (by kernel_rfl) (by kernel_rfl) (by kernel_rfl) (by kernel_rfl) (fun _ _ _ h => h) (by rfl) (fun u => ?_) (by assumption) ?_
                    rotate_left
                    focus (go_simp; (try with_reducible rfl); done)
                    try simp only [Act.put, List.setIfInBounds_toArray, List.set_cons_zero, List.set_cons_succ]
                    refine pre_free 19 (v := ?_) rfl (by kernel_rfl) (by kernel_rfl) (by kernel_rfl) (by kernel_rfl) (fun _ _ _ h => h) (by rfl) (fun u => ?_) (by assumption) ?_
                    rotate_left
                    focus (go_simp; (try with_reducible rfl); done)
                    try simp only [Act.put, List.setIfInBounds_toArray, List.set_cons_zero, List.set_cons_succ]
                    refine pre_free 20 (v := ?_) rfl (by kernel_rfl) (by kernel_rfl) (by kernel_rfl) (by kernel_rfl) (fun _ _ _ h => h) (by rfl) (fun u => ?_) (by assumption) ?_
                    rotate_left
                    focus (go_simp; (try with_reducible rfl); done)
                    try simp only [Act.put, List.setIfInBounds_toArray, List.set_cons_zero, List.set_cons_succ]
                    refine pre_free 21 (v := ?_) rfl (by kernel_rfl) (by kernel_rfl) (by kernel_rfl) (by kernel_rfl) (fun _ _ _ h => h) (by rfl) (fun u => ?_) (by assumption) ?_
                    rotate_left
                    focus (go_simp; (try with_reducible rfl); done)
                    try simp only [Act.put, List.setIfInBounds_toArray, List.set_cons_zero, List.set_cons_succ]
                    refine pre_last (by kernel_rfl) rfl (fun K hK => ?_)
                    go_simp
                    refine hK.out _ _ ?_
                    clear hK K
                    try simp only [Act.put, List.setIfInBounds_toArray, List.set_cons_zero, List.set_cons_succ]
                    refine aw_done (by kernel_rfl) ?_
                    generalize hw6 : wc.setCell ⟨q3 I0, k, none⟩ (.int .i64 (d0 : Int)) = w6 at *
                    clear e1 e2 e3 e4 f4 hmin v1 v2 v3 hw6 u1 hHeld
                    have hi1e := HII.out.1
                    have hk1e := HKK.out.1
                    rcases Nat.eq_zero_or_pos i1 with h1 | h1
                    · have j1 : decide ((1 : Int) < (i : Int)) = false := decide_eq_false (by omega)
                      have HFC := Lib.hid (show farD a b i k = d0 by
                        have h5 := HCELL.out
                        rw [if_neg (by omega), HD0.out] at h5
                        exact h5)
                      clear h1 hi1e hk1e
                      go_upto_region 24 with (fail)
                      go_quiet (fail)
                      have HFZ := Lib.hid (HF6.out.drewN (1 + nq))
                      go_wp2_with fail
                      go_roundw
                      case rel =>
                        have h5 := row_put (a := a) (b := b) (c := c4) (j := I0) (i := i) (k := k) (m := m) (v := .int .i64 (d0 : Int)) HS5.out hle HRO.out (by rw [HFC.out])
                        exact ⟨k + 1, _, by omega, by omega, by simp, HFZ.out, by rw [HII.out.2.1]; exact h5, by rw [HII.out.2.2.1, show i - 1 = i1 by have := HII.out.1; omega]; exact row_other (fun e => HNE.out.1 e.symm) HRI.out, fun h => by rw [HII.out.2.2.2]; exact row_other (fun e => HNE.out.2.1 e.symm) (HRL.out h)⟩
                      case measure =>
                        simp only [RowKit.intOf]
                        omega
                    · have j1 : decide ((1 : Int) < (i : Int)) = true := decide_eq_true (by omega)
                      rcases Nat.eq_zero_or_pos k1 with h2 | h2
                      · have j2 : decide ((1 : Int) < (k : Int)) = false := decide_eq_false (by omega)
                        have HFC := Lib.hid (show farD a b i k = d0 by
                          have h5 := HCELL.out
                          rw [if_neg (by omega), HD0.out] at h5
                          exact h5)
                        clear h1 h2 hi1e hk1e
                        go_upto_region 24 with (fail)
                        go_quiet (fail)
                        have HFZ := Lib.hid (HF6.out.drewN (1 + nq))
                        go_wp2_with fail
                        go_roundw
                        case rel =>
                          have h5 := row_put (a := a) (b := b) (c := c4) (j := I0) (i := i) (k := k) (m := m) (v := .int .i64 (d0 : Int)) HS5.out hle HRO.out (by rw [HFC.out])
                          exact ⟨k + 1, _, by omega, by omega, by simp, HFZ.out, by rw [HII.out.2.1]; exact h5, by rw [HII.out.2.2.1, show i - 1 = i1 by have := HII.out.1; omega]; exact row_other (fun e => HNE.out.1 e.symm) HRI.out, fun h => by rw [HII.out.2.2.2]; exact row_other (fun e => HNE.out.2.1 e.symm) (HRL.out h)⟩
                        case measure =>
                          simp only [RowKit.intOf]
                          omega
                      · have j2 : decide ((1 : Int) < (k : Int)) = true := decide_eq_true (by omega)
                        obtain ⟨i2, hi2⟩ : ∃ i2, i1 - 1 = i2 := ⟨_, rfl⟩
                        obtain ⟨k2, hk2⟩ : ∃ k2, k1 - 1 = k2 := ⟨_, rfl⟩
                        have ii2 : (i : Int) - 2 = (i2 : Int) := by omega
                        have ik2 : (k : Int) - 2 = (k2 : Int) := by omega
                        have wi2 : IntKind.i64.wrap (i2 : Int) = (i2 : Int) := by rw [IntKind.wrap_i64]; omega
                        have wk2 : IntKind.i64.wrap (k2 : Int) = (k2 : Int) := by rw [IntKind.wrap_i64]; omega
                        have li2 : (i2 : Int) < (n : Int) := by omega
                        have lk2 : (k2 : Int) < (m : Int) := by omega
                        have lk3 : (k2 : Int) < (m : Int) + 1 := by omega
                        obtain ⟨_, _, eA, ha6⟩ := int_cell (HA.out.kept HF6.out.grown nofun) HN.out (by omega)
                        cases eA
                        obtain ⟨_, _, eB, hb6⟩ := int_cell (HB.out.kept HF6.out.grown nofun) HM.out (by omega)
                        cases eB
                        have y1 := ha6 i1 (by omega)
                        have y2 := hb6 k1 (by omega)
                        have y3 := ha6 i2 (by omega)
                        have y4 := hb6 k2 (by omega)
                        rw [HKK.out.2.1] at y1
                        rw [HKK.out.2.2.1] at y2
                        obtain ⟨a0, ha0⟩ : ∃ a0, a.getD i2 0 = a0 := ⟨_, rfl⟩
                        obtain ⟨b0, hb0⟩ : ∃ b0, b.getD k2 0 = b0 := ⟨_, rfl⟩
                        rw [ha0] at y3
                        rw [hb0] at y4
                        have hcell := HCELL.out
                        rw [hi2, hk2, ha0, hb0, HD0.out] at hcell
                        have HCL := Lib.hid hcell
                        have HH := Lib.hid (And.intro h1 (And.intro h2 (And.intro hi2 hk2)))
                        clear ha6 hb6 ha0 hb0 hcell hi2 hk2
                        by_cases h3 : ai = b0
                        · by_cases h4 : a0 = bk
                          · have hmi := HRL.out (by omega)
                            have hge := hmi k2 (by have := HH.out.2.2.2; omega)
                            have z4 := farD_le (a := a) (b := b) (i := i - 2) (k := k2) (by rw [HN.out]; omega) (by rw [HM.out]; omega)
                            have hcl2 := HCL.out
                            rw [if_pos ⟨h1, h2, h3, h4⟩] at hcl2
                            rw [show i2 = i - 2 by have := HH.out.2.2.1; have := HII.out.1; omega] at hcl2
                            obtain ⟨x4, hx4⟩ : ∃ x4, farD a b (i - 2) k2 = x4 := ⟨_, rfl⟩
                            rw [hx4] at hge z4 hcl2
                            obtain ⟨d1, hd1⟩ : ∃ d1, min d0 (x4 + 1) = d1 := ⟨_, rfl⟩
                            have hd1b : d1 ≤ 2002 := by omega
                            have HFC := Lib.hid (show farD a b i k = d1 by rw [hcl2]; exact hd1)
                            have hmin : ∀ (ts : Array TypeId) (t : TypeId) (w : World), (Builtin.min_ ts t #[.int .i64 (d0 : Int), .int .i64 ((x4 : Int) + 1)]).run Tryd.prog w = .ok (.int .i64 (d1 : Int)) w := by
                              intro ts t w
                              rw [run_min_int2]; congr 2; rw [← hd1]; split <;> omega
                            have v4 : IntKind.i64.wrap ((x4 : Int) + 1) = (x4 : Int) + 1 := by rw [IntKind.wrap_i64]; omega
                            have HGE := Lib.hid (show (updC c4 I0 k (.int .i64 (d0 : Int)) I2)[k2]? = some (.int .i64 (x4 : Int)) by
                              unfold updC
                              rw [if_neg (fun e => HNE.out.2.1 e.symm)]
                              exact hge)
                            have HG0 := Lib.hid (show (updC c4 I0 k (.int .i64 (d0 : Int)) I0)[k]? = some (.int .i64 (d0 : Int)) by
                              unfold updC
                              rw [if_pos rfl]
                              exact Array.getElem?_setIfInBounds_self_of_lt (by rw [HS5.out]; omega))
                            clear h1 h2 hmi hge hcl2 hx4 hd1 hi1e hk1e
                            go_upto_region 24 with (fail)
                            go_quiet (fail)
                            clear y1 y2 y3 y4
                            have hf7 : FR w.heap.size q3 (updC c4 I0 k (.int .i64 (d0 : Int))) m w (w6.drew.drewN nq) := HF6.out.drew.drewN nq
                            have hf8 : FR w.heap.size q3 (updC c4 I0 k (.int .i64 (d0 : Int))) m w (w6.drew.drewN nq).drew := hf7.drew
                            have e1 : (w6.drew.drewN nq).drew.cell? ⟨q3 I2, k2, none⟩ = some (.int .i64 (x4 : Int)) := hf8.cell hI23 HGE.out
                            have e2 : (w6.drew.drewN nq).drew.cell? ⟨q3 I0, k, none⟩ = some (.int .i64 (d0 : Int)) := hf8.cell hI03 HG0.out
                            have f4 := (hf8.any (j := I0) (k := k) hI03 hle).2
                            have HF9 := Lib.hid (hf8.put hI03 k (.int .i64 (d1 : Int)))
                            have hsz := (hf8.rows I0 hI03).2
                            have hrp := row_put (a := a) (b := b) (c := updC c4 I0 k (.int .i64 (d0 : Int))) (j := I0) (i := i) (k := k) (m := m) (v := .int .i64 (d1 : Int)) hsz hle HK6.out (by rw [HFC.out])
                            have HRP := Lib.hid hrp
                            clear hf7 hf8 hsz hrp
                            generalize hw7 : w6.drew.drewN nq = w7 at *
                            go_upto_region 25 with (fail)
                            refine region_pre 14 (fun u => u = w7.drew) (by kernel_rfl) rfl (fun hHeld => ?_)
                            go_simp
                            refine pre_free 0 (v := ?_) rfl (by kernel_rfl) (by kernel_rfl) (by kernel_rfl) (by kernel_rfl) (fun _ _ _ h => h) (by rfl) (fun u => ?_) (by assumption) ?_
                            rotate_left
                            focus (go_simp; (try with_reducible rfl); done)
                            try simp only [Act.put, List.setIfInBounds_toArray, List.set_cons_zero, List.set_cons_succ]
                            refine pre_free 1 (v := ?_) rfl (by kernel_rfl) (by kernel_rfl) (by kernel_rfl) (by kernel_rfl) (fun _ _ _ h => h) (by rfl) (fun u => ?_) (by assumption) ?_
                            rotate_left
                            focus (go_simp; (try with_reducible rfl); done)
                            try simp only [Act.put, List.setIfInBounds_toArray, List.set_cons_zero, List.set_cons_succ]
                            refine pre_free 2 (v := ?_) rfl (by kernel_rfl) (by kernel_rfl) (by kernel_rfl) (by kernel_rfl) (fun _ _ _ h => h) (by rfl) (fun u => ?_) (by assumption) ?_
                            rotate_left
                            focus (go_simp; (try with_reducible rfl); done)
                            try simp only [Act.put, List.setIfInBounds_toArray, List.set_cons_zero, List.set_cons_succ]
                            refine pre_free 3 (v := ?_) rfl (by kernel_rfl) (by kernel_rfl) (by kernel_rfl) (by kernel_rfl) (fun _ _ _ h => h) (by rfl) (fun u => ?_) (by assumption) ?_
                            rotate_left
                            focus (go_simp; (try with_reducible rfl); done)
                            try simp only [Act.put, List.setIfInBounds_toArray, List.set_cons_zero, List.set_cons_succ]
                            refine pre_free 4 (v := ?_) rfl (by kernel_rfl) (by kernel_rfl) (by kernel_rfl) (by kernel_rfl) (fun _ _ _ h => h) (by rfl) (fun u => ?_) (by assumption) ?_
                            rotate_left
                            focus (go_simp; (try with_reducible rfl); done)
                            try simp only [Act.put, List.setIfInBounds_toArray, List.set_cons_zero, List.set_cons_succ]
                            refine pre_load 5 (v := ?_) rfl (by kernel_rfl) (by kernel_rfl) (by kernel_rfl) (by kernel_rfl) (fun _ _ _ h => h) (by rfl) (fun u hu => ?_) (by assumption) ?_
                            rotate_left
                            focus ((try dsimp only at hu); subst hu; go_simp; (try with_reducible rfl); done)
                            try simp only [Act.put, List.setIfInBounds_toArray, List.set_cons_zero, List.set_cons_succ]
                            refine pre_free 6 (v := ?_) rfl (by kernel_rfl) (by kernel_rfl) (by kernel_rfl) (by kernel_rfl) (fun _ _ _ h => h) (by rfl) (fun u => ?_) (by assumption) ?_
                            rotate_left
                            focus (go_simp; (try with_reducible rfl); done)
                            try simp only [Act.put, List.setIfInBounds_toArray, List.set_cons_zero, List.set_cons_succ]
                            refine pre_free 7 (v := ?_) rfl (by kernel_rfl) (by kernel_rfl) (by kernel_rfl) (by kernel_rfl) (fun _ _ _ h => h) (by rfl) (fun u => ?_) (by assumption) ?_
                            rotate_left
                            focus (go_simp; (try with_reducible rfl); done)
                            try simp only [Act.put, List.setIfInBounds_toArray, List.set_cons_zero, List.set_cons_succ]
                            refine pre_free 8 (v := ?_) rfl (by kernel_rfl) (by kernel_rfl) (by kernel_rfl) (by kernel_rfl) (fun _ _ _ h => h) (by rfl) (fun u => ?_) (by assumption) ?_
                            rotate_left
                            focus (go_simp; (try with_reducible rfl); done)
                            try simp only [Act.put, List.setIfInBounds_toArray, List.set_cons_zero, List.set_cons_succ]
                            refine pre_free 9 (v := ?_) rfl (by kernel_rfl) (by kernel_rfl) (by kernel_rfl) (by kernel_rfl) (fun _ _ _ h => h) (by rfl) (fun u => ?_) (by assumption) ?_
                            rotate_left
                            focus (go_simp; (try with_reducible rfl); done)
                            try simp only [Act.put, List.setIfInBounds_toArray, List.set_cons_zero, List.set_cons_succ]
                            refine pre_load 10 (v := ?_) rfl (by kernel_rfl) (by kernel_rfl) (by kernel_rfl) (by kernel_rfl) (fun _ _ _ h => h) (by rfl) (fun u hu => ?_) (by assumption) ?_
                            rotate_left
                            focus ((try dsimp only at hu); subst hu; go_simp; (try with_reducible rfl); done)
                            try simp only [Act.put, List.setIfInBounds_toArray, List.set_cons_zero, List.set_cons_succ]
                            refine pre_free 11 (v := ?_) rfl (by kernel_rfl) (by kernel_rfl) (by kernel_rfl) (by kernel_rfl) (fun _ _ _ h => h) (by rfl) (fun u => ?_) (by assumption) ?_
                            rotate_left
                            focus (go_simp; (try with_reducible rfl); done)
                            try simp only [Act.put, List.setIfInBounds_toArray, List.set_cons_zero, List.set_cons_succ]
                            refine pre_free 12 (v := ?_) rfl (by kernel_rfl) (by kernel_rfl) (by kernel_rfl) (by kernel_rfl) (fun _ _ _ h => h) (by rfl) (fun u => ?_) (by assumption) ?_
                            rotate_left
                            focus (go_simp; (try with_reducible rfl); done)
                            try simp only [Act.put, List.setIfInBounds_toArray, List.set_cons_zero, List.set_cons_succ]
                            refine pre_free 13 (v := ?_) rfl (by kernel_rfl) (by kernel_rfl) (by kernel_rfl) (by kernel_rfl) (fun _ _ _ h => h) (by rfl) (fun u => ?_) (by assumption) ?_
                            rotate_left
                            focus (go_simp; (try with_reducible rfl); done)
                            try simp only [Act.put, List.setIfInBounds_toArray, List.set_cons_zero, List.set_cons_succ]
                            refine pre_last (by kernel_rfl) rfl (fun K hK => ?_)
                            go_simp
                            refine hK.out _ _ ?_
                            clear hK K
                            try simp only [Act.put, List.setIfInBounds_toArray, List.set_cons_zero, List.set_cons_succ]
                            refine aw_done (by kernel_rfl) ?_
                            have HF10 : Hid (FR w.heap.size q3 (updC (updC c4 I0 k (.int .i64 (d0 : Int))) I0 k (.int .i64 (d1 : Int))) m w ((w7.setCell ⟨q3 I0, k, none⟩ (.int .i64 (d1 : Int))).drew)) := Lib.hid HF9.out
                            clear e1 e2 f4 HF9 hHeld hw7
                            go_wp2_with fail
                            go_roundw
                            case rel =>
                              exact ⟨k + 1, _, by omega, by omega, by simp, HF10.out, by rw [HII.out.2.1]; exact HRP.out, by rw [HII.out.2.2.1, show i - 1 = i1 by have := HII.out.1; omega]; exact row_other (fun e => HNE.out.1 e.symm) (row_other (fun e => HNE.out.1 e.symm) HRI.out), fun h => by rw [HII.out.2.2.2]; exact row_other (fun e => HNE.out.2.1 e.symm) (row_other (fun e => HNE.out.2.1 e.symm) (HRL.out h))⟩
                            case measure =>
                              simp only [RowKit.intOf]
                              omega
                          · have h4b : (a0 == bk) = false := by rw [beq_eq_false_iff_ne]; exact h4
                            have HFC := Lib.hid (show farD a b i k = d0 by
                              have h5 := HCL.out
                              rw [if_neg (fun h => h4 h.2.2.2)] at h5
                              exact h5)
                            clear h1 h2 hi1e hk1e
                            go_wp2_with fail
                            go_quiet (fail)
                            have HFZ := Lib.hid (HF6.out.drewN (1 + nq))
                            go_wp2_with fail
                            go_roundw
                            case rel =>
                              have h5 := row_put (a := a) (b := b) (c := c4) (j := I0) (i := i) (k := k) (m := m) (v := .int .i64 (d0 : Int)) HS5.out hle HRO.out (by rw [HFC.out])
                              exact ⟨k + 1, _, by omega, by omega, by simp, HFZ.out, by rw [HII.out.2.1]; exact h5, by rw [HII.out.2.2.1, show i - 1 = i1 by have := HII.out.1; omega]; exact row_other (fun e => HNE.out.1 e.symm) HRI.out, fun h => by rw [HII.out.2.2.2]; exact row_other (fun e => HNE.out.2.1 e.symm) (HRL.out h)⟩
                            case measure =>
                              simp only [RowKit.intOf]
                              omega
                        · have h3b : (ai == b0) = false := by rw [beq_eq_false_iff_ne]; exact h3
                          have HFC := Lib.hid (show farD a b i k = d0 by
                            have h5 := HCL.out
                            rw [if_neg (fun h => h3 h.2.2.1)] at h5
                            exact h5)
                          clear h1 h2 hi1e hk1e
                          go_wp2_with fail
                          go_quiet (fail)
                          have HFZ := Lib.hid (HF6.out.drewN (1 + nq))
                          go_wp2_with fail
                          go_roundw
                          case rel =>
                            have h5 := row_put (a := a) (b := b) (c := c4) (j := I0) (i := i) (k := k) (m := m) (v := .int .i64 (d0 : Int)) HS5.out hle HRO.out (by rw [HFC.out])
                            exact ⟨k + 1, _, by omega, by omega, by simp, HFZ.out, by rw [HII.out.2.1]; exact h5, by rw [HII.out.2.2.1, show i - 1 = i1 by have := HII.out.1; omega]; exact row_other (fun e => HNE.out.1 e.symm) HRI.out, fun h => by rw [HII.out.2.2.2]; exact row_other (fun e => HNE.out.2.1 e.symm) (HRL.out h)⟩
                          case measure =>
                            simp only [RowKit.intOf]
                            omega
end Go.Proofs.YtdcdhcgfhapbnaaDoor.Sg
