/-
  Marks' Len, Height, less: the walks. No conditions beyond those that each law names.
-/
import Derived.Test.YtijpienjejfmiaaMkS
namespace Go.Proofs.Ytijpienjejfmiaa
open Go Go.RowKit

theorem tree0 (x y : Value) (u : World) : (Instr.index 53 (.agg #[x, y]) (.int .i64 0)).run Try.prog u = .ok x u := by
  unfold Instr.index
  simp [asIntOf, part]
theorem tree1 (x y : Value) (u : World) : (Instr.index 53 (.agg #[x, y]) (.int .i64 1)).run Try.prog u = .ok y u := by
  unfold Instr.index
  simp [asIntOf, part]

/-- A loop over the two trees: what is summed up so far. -/
def TwoRel (f : Int → Int → Int) (z a b : Int) (w : World) (nv iv : Value) (wr : World) : Prop :=
  ∃ i : Nat, i ≤ 2 ∧ iv = .int .i64 (i : Int) ∧ wr = w ∧ nv = .int .i64 (if i = 0 then z else if i = 1 then f z a else f (f z a) b)

set_option maxRecDepth 100000 in
set_option maxHeartbeats 1000000 in
theorem len_walk {mb : Nat} {B : List Nat} {L0 L1 : List Sp} (w : World) (h : Mk w mb B L0 L1) :
    Calls Try.prog 14 #[.pointer (some ⟨mb, 0, none⟩)] w fun e w' => e = .returned (.int .i64 ((L0.length : Int) + (L1.length : Int))) ∧ w' = w := by
  obtain ⟨tb0, tb1, T0, T1, st, hm, rfl, rfl, hB⟩ := h
  have hw1 : IntKind.i64.wrap 1 = 1 := by decide
  have hw2 : IntKind.i64.wrap 2 = 2 := by decide
  have e0 := hm.g0.tells.many
  have e1 := hm.g1.tells.many
  have f0 := hm.g0.few
  have f1 := hm.g1.few
  have m0 := cell_of_heap hm.m 0
  have m1 := cell_of_heap hm.m 1
  have t0 := cell_of_heap hm.t0 0
  have t1 := cell_of_heap hm.t1 0
  have hs0 := tree0 (.pointer (some ⟨tb0, 0, none⟩)) (.pointer (some ⟨tb1, 0, none⟩))
  have hs1 := tree1 (.pointer (some ⟨tb0, 0, none⟩)) (.pointer (some ⟨tb1, 0, none⟩))
  have ha : IntKind.i64.wrap (0 + manyT T0) = 0 + manyT T0 := wrap_fit (by omega)
  have hb : IntKind.i64.wrap (0 + manyT T0 + manyT T1) = 0 + manyT T0 + manyT T1 := wrap_fit (by omega)
  have ha2 : wrap64 (manyT T0) = manyT T0 := by unfold wrap64; omega
  have hb2 : wrap64 (manyT T0 + manyT T1) = manyT T0 + manyT T1 := by unfold wrap64; omega
  have HM := Lib.hid hm
  have HE0 := Lib.hid e0
  have HE1 := Lib.hid e1
  clear hm hB e0 e1
  go_enter Try.func14, Try.ntmps14
  go_wp2_with fail
  go_loopw [3, 10] (fun nv iv wr => TwoRel (fun x y => x + y) 0 (manyT T0) (manyT T1) w nv iv wr) (fun _ iv _ => 2 - (RowKit.intOf iv).toNat)
  case atStart => exact ⟨0, by omega, rfl, rfl, rfl⟩
  case round =>
    obtain ⟨i, hi, rfl, rfl, rfl⟩ := hrel
    rcases (show i = 0 ∨ i = 1 ∨ i = 2 by omega) with rfl | rfl | rfl
    · go_wp2_with fail
      refine (many_walk T0 wr HM.out.l0).mono ?_
      rintro e u1 ⟨rfl, eu⟩
      have eu := eu.symm
      subst eu
      go_wp2_with fail
      go_roundw
      case rel => exact ⟨1, by omega, by first | rfl | go_num, rfl, by first | rfl | (simp; first | exact ha2 | exact hb2)⟩
      case measure => simp [RowKit.intOf]
    · go_wp2_with fail
      refine (many_walk T1 wr HM.out.l1).mono ?_
      rintro e u1 ⟨rfl, eu⟩
      have eu := eu.symm
      subst eu
      go_wp2_with fail
      go_roundw
      case rel => exact ⟨2, by omega, by first | rfl | go_num, rfl, by first | rfl | (simp; first | exact ha2 | exact hb2)⟩
      case measure => simp [RowKit.intOf]
    · go_wp2_with fail
      go_ret
      exact ⟨by rw [← HE0.out, ← HE1.out]; first | rfl | simp, rfl⟩
set_option maxRecDepth 100000 in
set_option maxHeartbeats 1000000 in
theorem height_walk {mb : Nat} {B : List Nat} {L0 L1 : List Sp} (w : World) (h : Mk w mb B L0 L1) :
    Calls Try.prog 36 #[.pointer (some ⟨mb, 0, none⟩)] w fun e w' => ∃ z, e = .returned (.int .i64 z) ∧ w' = w ∧ (L0.length + L1.length = 1 → z = 1) := by
  obtain ⟨tb0, tb1, T0, T1, st, hm, rfl, rfl, hB⟩ := h
  have hw1 : IntKind.i64.wrap 1 = 1 := by decide
  have hw2 : IntKind.i64.wrap 2 = 2 := by decide
  have e0 := hm.g0.tells.many
  have e1 := hm.g1.tells.many
  have f0 := hm.g0.few
  have f1 := hm.g1.few
  have m0 := cell_of_heap hm.m 0
  have m1 := cell_of_heap hm.m 1
  have t0 := cell_of_heap hm.t0 0
  have t1 := cell_of_heap hm.t1 0
  have hs0 := tree0 (.pointer (some ⟨tb0, 0, none⟩)) (.pointer (some ⟨tb1, 0, none⟩))
  have hs1 := tree1 (.pointer (some ⟨tb0, 0, none⟩)) (.pointer (some ⟨tb1, 0, none⟩))
  have h0 := hm.g0.tells.high
  have h1 := hm.g1.tells.high
  have hone : (flat T0).length + (flat T1).length = 1 → max (max 0 (highT T0)) (highT T1) = 1 := fun h => by
    have l0 := hm.g0.tells.low
    have l1 := hm.g1.tells.low
    have k0 : (flat T0).length = 1 → 1 ≤ highT T0 := fun e => by
      cases T0 with
      | nil => simp [flat] at e
      | node b l r s hh c m w =>
        obtain ⟨p1, _, _, _, p2, p3⟩ := hm.g0.tells
        have := p2.high
        have := p3.high
        show 1 ≤ hh
        omega
    have k1 : (flat T1).length = 1 → 1 ≤ highT T1 := fun e => by
      cases T1 with
      | nil => simp [flat] at e
      | node b l r s hh c m w =>
        obtain ⟨p1, _, _, _, p2, p3⟩ := hm.g1.tells
        have := p2.high
        have := p3.high
        show 1 ≤ hh
        omega
    omega
  have hmaxa : ∀ (ts : Array TypeId) (t : TypeId) (w : World), (Builtin.max_ ts t #[.int .i64 0, .int .i64 (highT T0)]).run Try.prog w = .ok (.int .i64 (max 0 (highT T0))) w := by
    intro ts t w
    rw [run_max_int2]; congr 2; split <;> omega
  have hmaxb : ∀ (ts : Array TypeId) (t : TypeId) (w : World), (Builtin.max_ ts t #[.int .i64 (max 0 (highT T0)), .int .i64 (highT T1)]).run Try.prog w = .ok (.int .i64 (max (max 0 (highT T0)) (highT T1))) w := by
    intro ts t w
    rw [run_max_int2]; congr 2; split <;> omega
  have HONE := Lib.hid hone
  clear hone h0 h1
  have HM := Lib.hid hm
  clear hm hB e0 e1 f0 f1
  go_enter Try.func36, Try.ntmps36
  go_wp2_with fail
  go_loopw [3, 10] (fun nv iv wr => TwoRel (fun x y => max x y) 0 (highT T0) (highT T1) w nv iv wr) (fun _ iv _ => 2 - (RowKit.intOf iv).toNat)
  case atStart => exact ⟨0, by omega, rfl, rfl, rfl⟩
  case round =>
    obtain ⟨i, hi, rfl, rfl, rfl⟩ := hrel
    rcases (show i = 0 ∨ i = 1 ∨ i = 2 by omega) with rfl | rfl | rfl
    · go_wp2_with fail
      refine (high_walk T0 wr HM.out.l0).mono ?_
      rintro e u1 ⟨rfl, eu⟩
      have eu := eu.symm
      subst eu
      go_wp2_with fail
      go_roundw
      case rel => exact ⟨1, by omega, by first | rfl | go_num, rfl, by first | rfl | simp⟩
      case measure => simp [RowKit.intOf]
    · go_wp2_with fail
      refine (high_walk T1 wr HM.out.l1).mono ?_
      rintro e u1 ⟨rfl, eu⟩
      have eu := eu.symm
      subst eu
      go_wp2_with fail
      go_roundw
      case rel => exact ⟨2, by omega, by first | rfl | go_num, rfl, by first | rfl | simp⟩
      case measure => simp [RowKit.intOf]
    · go_wp2_with fail
      go_ret
      exact ⟨_, rfl, rfl, HONE.out⟩
end Go.Proofs.Ytijpienjejfmiaa
