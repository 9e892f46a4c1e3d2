/-
  Region's Set: the walk. No conditions beyond those that each law names.
-/
import Derived.Test.YtijpienjejfmiaaRg1
namespace Go.Proofs.Ytijpienjejfmiaa
open Go Go.RowKit

/-- One run that a new one lies over: what is left of it. -/
def cutL (f t : Int) (L : List Sp) (s : Sp) : List Sp := putL t s.b s.k (putL s.a f s.k (remS s L))
def cutAll (f t : Int) (R L : List Sp) : List Sp := R.foldl (cutL f t) L
def setL (f t g : Int) (L : List Sp) : List Sp := putL f t (g * 2) (cutAll f t (overQ f t L) L)

theorem cutAll_take {f t : Int} {R : List Sp} {j : Nat} (hj : j < R.length) (L : List Sp) : cutAll f t (R.take (j + 1)) L = cutL f t (cutAll f t (R.take j) L) R[j] := by
  unfold cutAll
  rw [List.take_succ_eq_append_getElem hj, List.foldl_append]
  rfl

theorem putL_length (f t k : Int) (L : List Sp) : (putL f t k L).length ≤ L.length + 1 := by
  unfold putL
  split
  · exact insS_length _ _
  · omega

theorem cutAll_length (f t : Int) : ∀ (R L : List Sp), (cutAll f t R L).length ≤ L.length + 2 * R.length
  | [], L => by show L.length ≤ _; omega
  | s :: R, L => by
    show (cutAll f t R (cutL f t L s)).length ≤ _
    have h1 := cutAll_length f t R (cutL f t L s)
    have h2 := putL_length t s.b s.k (putL s.a f s.k (remS s L))
    have h3 := putL_length s.a f s.k (remS s L)
    have h4 := remS_length s L
    unfold cutL at h1
    simp only [List.length_cons]
    unfold cutL
    omega

/-- over's answer, its row held. -/
theorem MN.overH {mb : Nat} {K : List (Nat × Obj)} {L0 : List Sp} {w wk : World} (h : MN mb K L0 [] w wk) (f t : Int) (hf : -9223372036854775808 ≤ f ∧ f ≤ 9223372036854775807) (ht : -9223372036854775808 ≤ t ∧ t ≤ 9223372036854775807) : Calls Try.prog 16 #[.pointer (some ⟨mb, 0, none⟩), .int .i64 f, .int .i64 t] wk fun e w' => ∃ A c, e = .returned (.slice A (overQ f t L0).length c) ∧
    ((overQ f t L0 = [] ∧ MN mb K L0 [] w w') ∨ ∃ q cur, A = some ⟨q, 0, none⟩ ∧ cur.toList.take ((overQ f t L0).length * 3) = rowS (overQ f t L0) ∧ MN mb ((q, .cells cur 25 (0, 0)) :: K) L0 [] w w') := by
  have ho := h.ord.1
  obtain ⟨B, q1, q2, q3, q4⟩ := h
  have hlt := q1.lt
  refine (over_all f t hf ht wk q1).mono ?_
  rintro e w' ⟨v, rfl, p1, p2, p3⟩
  rw [show overQ f t ([] : List Sp) = [] from rfl, List.append_nil, sortS_ord (l := overQ f t L0) (ho.filter _)] at p1
  have hgr := Only.toGrown q3 p3 q2
  have hK : ∀ p ∈ K, w'.heap[p.1]? = some p.2 ∧ p.1 ∉ B := fun p hp => ⟨p3.heap (q4 p hp).1 (q4 p hp).2, (q4 p hp).2⟩
  rcases p1.2 with ⟨rfl, h0⟩ | ⟨q, cap, cur, rfl, hb, hh, _, _, _, htk⟩
  · exact ⟨none, 0, by rw [h0], .inl ⟨List.eq_nil_of_length_eq_zero h0, B, p2, q2, hgr, hK⟩⟩
  · refine ⟨some ⟨q, 0, none⟩, cap, rfl, .inr ⟨q, cur, rfl, htk, B, p2, q2, hgr, fun p hp => ?_⟩⟩
    rcases List.mem_cons.1 hp with rfl | hp
    · exact ⟨hh, fun hm => by have := hlt _ hm; omega⟩
    · exact hK p hp

/-- A held row's cells. -/
theorem held_row {mb q : Nat} {cur : Array Value} {K : List (Nat × Obj)} {L0 L1 R : List Sp} {w wk : World} (h : MN mb K L0 L1 w wk) (hp : (q, Obj.cells cur 25 (0, 0)) ∈ K) (ht : cur.toList.take (R.length * 3) = rowS R) : ∀ i u, (rowS R)[i]? = some u → wk.cell? ⟨q, i, none⟩ = some u := fun i u hu => by
  have h1 := cell_of_heap (h.held hp) i
  rw [h1]
  rw [← ht] at hu
  rw [List.getElem?_take] at hu
  split at hu
  · rw [← Array.getElem?_toList]; exact hu
  · cases hu

/-- Set's loop. -/
def SetRel (rb mb : Nat) (K : List (Nat × Obj)) (f t : Int) (R L : List Sp) (w : World) (iv : Value) (wr : World) : Prop :=
  ∃ j : Nat, j ≤ R.length ∧ iv = .int .i64 (j : Int) ∧ RN rb mb K (cutAll f t (R.take j) L) w wr

/-- A held row behind the region's own block. -/
theorem RN.swap {rb mb : Nat} {p : Nat × Obj} {K : List (Nat × Obj)} {L : List Sp} {w wk : World} (h : MN mb (p :: (rb, rgO mb) :: K) L [] w wk) : RN rb mb (p :: K) L w wk := by
  obtain ⟨B, h1, h2, h3, h4⟩ := h
  exact ⟨B, h1, h2, h3, fun x hx => h4 x (by
    rcases List.mem_cons.1 hx with rfl | hx
    · simp
    · rcases List.mem_cons.1 hx with rfl | hx
      · simp
      · simp [hx])⟩
theorem RN.drop {rb mb : Nat} {p : Nat × Obj} {K : List (Nat × Obj)} {L : List Sp} {w wk : World} (h : RN rb mb (p :: K) L w wk) : RN rb mb K L w wk := by
  obtain ⟨B, h1, h2, h3, h4⟩ := h
  exact ⟨B, h1, h2, h3, fun x hx => h4 x (by
    rcases List.mem_cons.1 hx with rfl | hx
    · simp
    · simp [hx])⟩
end Go.Proofs.Ytijpienjejfmiaa
