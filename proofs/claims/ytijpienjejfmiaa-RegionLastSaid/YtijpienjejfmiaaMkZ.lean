/-
  Marks' less: spans less: the walk. No conditions beyond those that each law names.
-/
import Derived.Test.YtijpienjejfmiaaMkU
namespace Go.Proofs.Ytijpienjejfmiaa
open Go Go.RowKit

theorem Sl.only {w w' : World} {size n : Nat} {A : Option Addr} {cs : List Value} {B : List Nat} (h : Sl w size A n cs) (g : Only B w w') (hd : 0 < n → ∀ a, A = some a → a.block ∉ B) : Sl w' size A n cs := by
  refine ⟨h.1, h.2.1, fun hn => ?_⟩
  obtain ⟨b, o, rfl, hc⟩ := h.2.2 hn
  refine ⟨b, o, rfl, fun j u hu => ?_⟩
  have h1 := hc j u hu
  exact (World.cell?_of_block (g.block b (World.block_lt_of_cell? w ⟨b, o + j, none⟩ h1) (hd hn _ rfl))).trans h1

/-- All of these less. -/
def remL (X L : List Sp) : List Sp := X.foldl (fun l s => remS s l) L

theorem remL_nil (L : List Sp) : remL [] L = L := rfl
theorem remL_take {X : List Sp} {j : Nat} (hj : j < X.length) (L : List Sp) : remL (X.take (j + 1)) L = remS X[j] (remL (X.take j) L) := by
  unfold remL
  rw [List.take_succ_eq_append_getElem hj, List.foldl_append]
  rfl

theorem remL_eq : ∀ (X L : List Sp), remL X L = L.filter fun x => !decide (x ∈ X)
  | [], L => by
    rw [List.filter_eq_self.2 (fun x _ => by simp)]; rfl
  | s :: X, L => by
    show remL X (remS s L) = _
    rw [remL_eq X, remS, List.filter_filter]
    apply List.filter_congr
    intro x _
    by_cases h1 : x = s <;> by_cases h2 : x ∈ X <;> simp [h1, h2]

theorem rowS_at : ∀ (l : List Sp) (j : Nat) (hj : j < l.length), (rowS l)[j * 3]? = some (.int .i64 l[j].a) ∧ (rowS l)[j * 3 + 1]? = some (.int .i64 l[j].b) ∧ (rowS l)[j * 3 + 2]? = some (.int .i64 l[j].k)
  | [], j, h => by simp at h
  | s :: l, 0, _ => ⟨rfl, rfl, rfl⟩
  | s :: l, j + 1, h => by
    have := rowS_at l j (by simpa using h)
    rw [show (j + 1) * 3 = j * 3 + 1 + 1 + 1 by omega]
    exact this

/-- less' loop. -/
def LessRel (mb tb0 tb1 : Nat) (B : List Nat) (i : Bool) (X L0 L1 : List Sp) (w : World) (iv : Value) (wr : World) : Prop :=
  ∃ j : Nat, j ≤ X.length ∧ iv = .int .i64 (j : Int) ∧ (∃ B', MkT wr mb tb0 tb1 B' (two i (remL (X.take j) L0) L0) (two i L1 (remL (X.take j) L1)) ∧ ∀ x ∈ B', x ∈ B ∨ w.heap.size ≤ x) ∧ Only B w wr

set_option maxRecDepth 100000 in
set_option maxHeartbeats 1000000 in
theorem less_walk {mb tb0 tb1 : Nat} {B : List Nat} {L0 L1 : List Sp} (X : List Sp) (A : Option Addr) (cap : Nat) (i : Bool) (hi : ∀ s ∈ X, s.k % 2 = if i then 1 else 0) (hX : X.length ≤ 1099511627776) (w : World) (h : MkT w mb tb0 tb1 B L0 L1) (hs : Sl w 3 A X.length (rowS X)) (ho : 0 < X.length → ∀ a, A = some a → a.block ∉ B) :
    Calls Try.prog 45 #[.pointer (some ⟨mb, 0, none⟩), .slice A X.length cap] w fun e w' => e = .returned (.tuple #[]) ∧ MkResT mb tb0 tb1 B (two i (remL X L0) L0) (two i L1 (remL X L1)) w w' := by
  have HS := Lib.hid hs
  have HH := Lib.hid h
  clear hs h
  go_enter Try.func45, Try.ntmps45
  go_wp2_with fail
  go_loopw [8] (fun iv wr => LessRel mb tb0 tb1 B i X L0 L1 w iv wr) (fun iv _ => X.length - (RowKit.intOf iv).toNat)
  case atStart =>
    refine ⟨0, Nat.zero_le _, rfl, ⟨B, ?_, fun x hx => .inl hx⟩, Only.refl _ _⟩
    have := HH.out
    cases i <;> exact this
  case round =>
    obtain ⟨j, hj, rfl, ⟨B', hm, hB'⟩, hO⟩ := hrel
    rcases Nat.lt_or_ge j X.length with hlt | hge
    · obtain ⟨r1, r2, r3⟩ := rowS_at X j hlt
      obtain ⟨b, o, rfl, hc⟩ := (HS.out.only hO ho).2.2 (by omega)
      have hc0 := hc (j * 3) _ r1
      have hc1 := hc (j * 3 + 1) _ r2
      have hc2 := hc (j * 3 + 2) _ r3
      rw [← Nat.add_assoc] at hc1 hc2
      have HM := Lib.hid hm
      have HO := Lib.hid hO
      have HB := Lib.hid hB'
      have hdec : ((j : Int) < (X.length : Int)) := by omega
      have hw1 : IntKind.i64.wrap ((j : Int) + 1) = (j : Int) + 1 := wrap_fit (by omega)
      have hw2 : wrap64 ((j : Int) + 1) = (j : Int) + 1 := by unfold wrap64; omega
      clear hm hO hB' hc r1 r2 r3
      go_upto_region 3 with (fail)
      have hA := heap_new wr (Obj.cells #[Value.int IntKind.i64 X[j].a, Value.int IntKind.i64 X[j].b, Value.int IntKind.i64 X[j].k] 25)
      have a0 := cell_of_heap hA 0
      have a1 := cell_of_heap hA 1
      have a2 := cell_of_heap hA 2
      have hoa := (Only.refl [] wr).alloc (Obj.cells #[Value.int IntKind.i64 X[j].a, Value.int IntKind.i64 X[j].b, Value.int IntKind.i64 X[j].k] 25)
      have HM2 := Lib.hid (HM.out.only hoa (fun _ _ => by simp))
      have HO2 := Lib.hid (HO.out.trans hoa (fun x hx => absurd hx (by simp)))
      have HZ := Lib.hid hoa.size
      clear hA hoa hc0 hc1 hc2
      generalize wr.alloc (Obj.cells #[Value.int IntKind.i64 X[j].a, Value.int IntKind.i64 X[j].b, Value.int IntKind.i64 X[j].k] 25) = w2 at *
      go_wp2_with fail
      refine (mcut_walkT X[j] i (hi _ (List.getElem_mem hlt)) w2 HM2.out).mono ?_
      rintro e w3 ⟨rfl, ⟨B3, q1, q2⟩, q3⟩
      have hL0 : two i (remS X[j] (two i (remL (X.take j) L0) L0)) (two i (remL (X.take j) L0) L0) = two i (remL (X.take (j + 1)) L0) L0 := by
        rw [remL_take hlt]; cases i <;> rfl
      have hL1 : two i (two i L1 (remL (X.take j) L1)) (remS X[j] (two i L1 (remL (X.take j) L1))) = two i L1 (remL (X.take (j + 1)) L1) := by
        rw [remL_take hlt]; cases i <;> rfl
      rw [hL0, hL1] at q1
      have HQ1 := Lib.hid q1
      have HQ2 : Hid (∀ x ∈ B3, x ∈ B ∨ w.heap.size ≤ x) := Lib.hid (fun x hx => by
        rcases q2 x hx with h | h
        · exact HB.out x h
        · exact .inr (by have := HO2.out.size; omega))
      have HQ3 := Lib.hid (HO2.out.trans q3 HB.out)
      clear q1 q2 q3 hL0 hL1
      go_wp2_with fail
      go_roundw
      case rel => exact ⟨j + 1, by omega, by first | rfl | go_num | (simp; omega), ⟨B3, HQ1.out, HQ2.out⟩, HQ3.out⟩
      case measure => first | (simp [RowKit.intOf]; omega) | simp [RowKit.intOf]
    · have hj' : j = X.length := by omega
      subst hj'
      have HM := Lib.hid hm
      have HO := Lib.hid hO
      have HB := Lib.hid hB'
      clear hm hO hB'
      go_wp2_with fail
      go_end0
      have h1 := HM.out
      rw [List.take_length] at h1
      exact ⟨rfl, ⟨B', h1, HB.out⟩, HO.out⟩
end Go.Proofs.Ytijpienjejfmiaa
