/-
  Marks' All and Over: the walks. No conditions beyond those that each law names.
-/
import Derived.Test.YtijpienjejfmiaaMk2
namespace Go.Proofs.Ytijpienjejfmiaa
open Go Go.RowKit

/-- The spans that have places of a range. -/
def overQ (f t : Int) (l : List Sp) : List Sp := l.filter fun x => decide (x.a < t) && decide (f < x.b)

theorem overQ_append (f t : Int) (l r : List Sp) : overQ f t (l ++ r) = overQ f t l ++ overQ f t r := List.filter_append ..

theorem overS_all {l : List Sp} (h : ∀ x ∈ l, In x) : overS 9223372036854775807 0 l = l :=
  List.filter_eq_self.2 fun x hx => by have := h x hx; unfold In at this; simp; omega

theorem overS_Q {f t : Int} {l : List Sp} (h : ∀ x ∈ l, In x) : overS (t - 1) (max f (-1) + 1) l = overQ f t l := by
  refine List.filter_congr fun x hx => ?_
  have := h x hx
  unfold In at this
  have e1 : decide (x.a ≤ t - 1) = decide (x.a < t) := decide_eq_decide.2 (by omega)
  have e2 : decide (max f (-1) + 1 ≤ x.b) = decide (f < x.b) := decide_eq_decide.2 (by omega)
  rw [e1, e2]

theorem overQ_none {f t : Int} {l : List Sp} (h : ∀ x ∈ l, In x) (hn : t ≤ 0 ∨ f = 9223372036854775807) : overQ f t l = [] :=
  List.filter_eq_nil_iff.2 fun x hx => by
    have := h x hx
    unfold In at this
    simp
    omega

theorem sortS_nil : sortS [] = [] := by simp [sortS]

set_option maxRecDepth 100000 in
set_option maxHeartbeats 1000000 in
theorem all_walk {mb : Nat} {B : List Nat} {L0 L1 : List Sp} (w : World) (h : Mk w mb B L0 L1) :
    Calls Try.prog 17 #[.pointer (some ⟨mb, 0, none⟩)] w (WithinRes mb B L0 L1 (sortS (L0 ++ L1)) w) := by
  have hc := within_walk 9223372036854775807 0 (by omega) w h
  rw [overS_all h.good0.2, overS_all h.good1.2] at hc
  go_enter Try.func17, Try.ntmps17
  go_wp2_with fail
  refine hc.mono ?_
  rintro e w1 ⟨v, rfl, h1⟩
  have H1 := Lib.hid h1
  clear h1 hc
  go_wp2_with fail
  go_ret
  exact ⟨v, rfl, H1.out⟩

set_option maxRecDepth 100000 in
set_option maxHeartbeats 1000000 in
theorem over_all {mb : Nat} {B : List Nat} {L0 L1 : List Sp} (f t : Int) (hf : -9223372036854775808 ≤ f ∧ f ≤ 9223372036854775807) (ht : -9223372036854775808 ≤ t ∧ t ≤ 9223372036854775807) (w : World) (h : Mk w mb B L0 L1) :
    Calls Try.prog 16 #[.pointer (some ⟨mb, 0, none⟩), .int .i64 f, .int .i64 t] w (WithinRes mb B L0 L1 (sortS (overQ f t L0 ++ overQ f t L1)) w) := by
  by_cases hn : t ≤ 0 ∨ f = 9223372036854775807
  · have hz : WithinRes mb B L0 L1 (sortS (overQ f t L0 ++ overQ f t L1)) w (.returned (.slice none 0 0)) w := by
      rw [overQ_none h.good0.2 hn, overQ_none h.good1.2 hn]
      rw [show ([] : List Sp) ++ [] = [] from rfl, sortS_nil]
      exact ⟨_, rfl, World.ownsRow_nil _ _ _ _, h, Only.refl _ _⟩
    have HZ := Lib.hid hz
    clear hz
    by_cases h1 : t ≤ 0
    · clear hn
      go_enter Try.func16, Try.ntmps16
      go_wp2_with fail
      go_ret
      exact HZ.out
    · have h2 : f = 9223372036854775807 := by omega
      subst h2
      clear hn hf
      go_enter Try.func16, Try.ntmps16
      go_wp2_with fail
      go_ret
      exact HZ.out
  · have h1 : ¬ t ≤ 0 := fun e => hn (.inl e)
    have h2 : (f == 9223372036854775807) = false := by rw [beq_eq_false_iff_ne]; exact fun e => hn (.inr e)
    have hc := within_walk (t - 1) (max f (-1) + 1) (by omega) w h
    rw [overS_Q h.good0.2, overS_Q h.good1.2] at hc
    have hmax : ∀ (ts : Array TypeId) (ty : TypeId) (w : World), (Builtin.max_ ts ty #[.int .i64 f, .int .i64 (-1)]).run Try.prog w = .ok (.int .i64 (max f (-1))) w := by
      intro ts ty w
      rw [run_max_int2]; congr 2; split <;> omega
    have hw1 : IntKind.i64.wrap (t - 1) = t - 1 := wrap_fit (by omega)
    have hw2 : IntKind.i64.wrap (max f (-1) + 1) = max f (-1) + 1 := wrap_fit (by omega)
    have HC := Lib.hid hc
    generalize hmm : max f (-1) = mm at *
    clear hc hn hmm
    go_enter Try.func16, Try.ntmps16
    go_wp2_with fail
    refine HC.out.mono ?_
    rintro e w1 ⟨v, rfl, h1⟩
    have H1 := Lib.hid h1
    clear h1
    go_wp2_with fail
    go_ret
    exact ⟨v, rfl, H1.out⟩
end Go.Proofs.Ytijpienjejfmiaa
