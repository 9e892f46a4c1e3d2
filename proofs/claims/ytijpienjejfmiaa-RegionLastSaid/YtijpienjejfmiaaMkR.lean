/-
  Marks' trees whose numbers are small: nothing leaves int's range. No conditions beyond those that each lemma names.
-/
import Derived.Test.YtijpienjejfmiaaMkD
namespace Go.Proofs.Ytijpienjejfmiaa
open Go Go.RowKit

/-- All numbers of a tree are within K. -/
def Rg (K : Int) : Tr → Prop
  | .nil => True
  | .node _ l r s h c m w => (-K ≤ s.a ∧ s.a ≤ K) ∧ (-K ≤ s.b ∧ s.b ≤ K) ∧ (-K ≤ m ∧ m ≤ K) ∧ (-K ≤ w ∧ w ≤ K) ∧ (-K ≤ h ∧ h ≤ K) ∧ (-K ≤ c ∧ c ≤ K) ∧ Rg K l ∧ Rg K r

theorem Rg.mono {K K' : Int} (hk : K ≤ K') : ∀ {t : Tr}, Rg K t → Rg K' t
  | .nil, _ => trivial
  | .node b l r s h c m w, hh => by
    obtain ⟨h1, h2, h3, h4, h5, h6, h7, h8⟩ := hh
    exact ⟨by omega, by omega, by omega, by omega, by omega, by omega, h7.mono hk, h8.mono hk⟩

theorem Rg.move {K D d : Int} {t : Tr} (h : Rg K t) (hd : -D ≤ d ∧ d ≤ D) (hD : 0 ≤ D) : Rg (K + D) (moveT d t) := by
  cases t with
  | nil => exact trivial
  | node b l r s hh c m w =>
    obtain ⟨h1, h2, h3, h4, h5, h6, h7, h8⟩ := h
    refine ⟨?_, ?_, by omega, by omega, by omega, by omega, h7.mono (by omega), h8.mono (by omega)⟩
    · show -(K + D) ≤ s.a + d ∧ s.a + d ≤ K + D
      omega
    · show -(K + D) ≤ s.b + d ∧ s.b + d ≤ K + D
      omega

theorem wrap_fit {z : Int} (h : -9223372036854775808 ≤ z ∧ z ≤ 9223372036854775807) : IntKind.i64.wrap z = z := by rw [IntKind.wrap_i64]; omega

theorem Rg.fit {K d : Int} {t : Tr} (h : Rg K t) (hd : -K ≤ d ∧ d ≤ K) (hK : K ≤ 1152921504606846976) : MvFit d t := by
  cases t with
  | nil => exact trivial
  | node b l r s hh c m w =>
    obtain ⟨h1, h2, h3, h4, _⟩ := h
    exact ⟨wrap_fit (by omega), wrap_fit (by omega), wrap_fit (by omega), wrap_fit (by omega)⟩

theorem Rg.high {K : Int} {t : Tr} (h : Rg K t) (hK : 0 ≤ K) : -K ≤ highT t ∧ highT t ≤ K := by
  cases t with
  | nil => show -K ≤ 0 ∧ (0 : Int) ≤ K; omega
  | node b l r s hh c m w => exact h.2.2.2.2.1

theorem Rg.many {K : Int} {t : Tr} (h : Rg K t) (hK : 0 ≤ K) : -K ≤ manyT t ∧ manyT t ≤ K := by
  cases t with
  | nil => show -K ≤ 0 ∧ (0 : Int) ≤ K; omega
  | node b l r s hh c m w => exact h.2.2.2.2.2.1

theorem Rg.told {K : Int} {l r : Tr} (hl : Rg K l) (hr : Rg K r) (h0 : 0 ≤ K) (hK : K ≤ 1152921504606846976) : TdFit l r := by
  have a1 := hl.high h0
  have a2 := hr.high h0
  have a3 := hl.many h0
  have a4 := hr.many h0
  exact ⟨wrap_fit (by omega), wrap_fit (by omega), wrap_fit (by omega)⟩
end Go.Proofs.Ytijpienjejfmiaa
