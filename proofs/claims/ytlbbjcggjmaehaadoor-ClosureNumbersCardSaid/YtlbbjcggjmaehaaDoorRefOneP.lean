/-
  ref01.one: the unit that begins at a place of a text: the plain part. No conditions beyond those that each lemma names.
-/
import Derived.Test.YtlbbjcggjmaehaaDoorUnits
import Derived.Test.YtlbbjcggjmaehaaDoorWd
namespace Go.Proofs.YtlbbjcggjmaehaaDoor
open Go Go.RowKit Go.Lib

theorem load_unit {u : World} {k : Nat} {a b c : Int} {f : Nat × Nat} (h : u.heap[k]? = some (.cells #[.int .i64 a, .int .i64 b, .int .i64 c] 101 f)) : (loadVar 101 ⟨k, 0, none⟩).run Tryd.prog u = .ok (.agg #[.int .i64 a, .int .i64 b, .int .i64 c]) u := by
  have c0 := cell_of_heap h 0
  have c1 := cell_of_heap h 1
  have c2 := cell_of_heap h 2
  go_simp

theorem and192 : ∀ b ∈ List.range 256, bits BinOp.and IntKind.u8 (b : Int) 192 = ((b / 64 * 64 : Nat) : Int) := by decide +kernel
theorem and63 : ∀ b ∈ List.range 256, bits BinOp.and IntKind.u8 (b : Int) 63 = ((b % 64 : Nat) : Int) := by decide +kernel
theorem and31 : ∀ b ∈ List.range 256, bits BinOp.and IntKind.i64 (b : Int) 31 = ((b % 32 : Nat) : Int) := by decide +kernel
theorem and15 : ∀ b ∈ List.range 256, bits BinOp.and IntKind.i64 (b : Int) 15 = ((b % 16 : Nat) : Int) := by decide +kernel
theorem and7 : ∀ b ∈ List.range 256, bits BinOp.and IntKind.i64 (b : Int) 7 = ((b % 8 : Nat) : Int) := by decide +kernel

theorem or64 {a b : Nat} (ha : a < 1000000) (hb : b < 64) : bits BinOp.or IntKind.i64 ((a : Int) * 64) (b : Int) = (a : Int) * 64 + (b : Int) := by
  have e : ((a : Int) * 64) = ((a * 64 : Nat) : Int) := by omega
  have e2 : a * 64 ||| b = a * 64 + b := by
    have := Nat.shiftLeft_add_eq_or_of_lt (i := 6) (b := b) (by omega) a
    rw [Nat.shiftLeft_eq] at this
    exact this.symm
  rw [e]
  simp only [bits]
  show IntKind.i64.wrap ((BitVec.ofInt 64 ((a * 64 : Nat) : Int) ||| BitVec.ofInt 64 (b : Int)).toNat : Int) = _
  rw [BitVec.toNat_or, BitVec.toNat_ofInt, BitVec.toNat_ofInt]
  have h1 : (((a * 64 : Nat) : Int) % ((2 ^ 64 : Nat) : Int)).toNat = a * 64 := by omega
  have h2 : ((b : Int) % ((2 ^ 64 : Nat) : Int)).toNat = b := by omega
  rw [h1, h2, e2, IntKind.wrap_i64]
  omega

/-- The unit that a text begins with: its length. -/
def lenB (t : Wd) : Nat := if codeB t < 0 then 1 else (decB t).2

def valU (v1 : Nat) (t : Wd) : Nat → Nat
  | 0 => v1
  | k + 1 => valU v1 t k * 64 + (t.getD (k + 1) 0).toNat % 64

theorem valU_lt {v1 : Nat} {t : Wd} (h : v1 < 32) {k : Nat} (hk : k ≤ 2) : valU v1 t k < 1000000 := by
  have h1 : (t.getD 1 0).toNat % 64 < 64 := Nat.mod_lt _ (by decide)
  have h2 : (t.getD 2 0).toNat % 64 < 64 := Nat.mod_lt _ (by decide)
  rcases (show k = 0 ∨ k = 1 ∨ k = 2 by omega) with rfl | rfl | rfl
  · unfold valU; omega
  · unfold valU valU; omega
  · unfold valU valU valU; omega

/-- What 'one' answers. -/
def OneRes (t : Wd) (i : Nat) (w : World) (e : Ending) (w' : World) : Prop := e = .returned (.agg #[.int .i64 (i : Int), .int .i64 (lenB t : Int), .int .i64 (codeB t)]) ∧ w.grownBy w' none

theorem one_good {t : Wd} {c l : Nat} (h : Dec t.length (t.getD 0 0).toNat (t.getD 1 0).toNat (t.getD 2 0).toNat (t.getD 3 0).toNat c l) : codeB t = (c : Int) ∧ lenB t = l := by
  have e : decB t = (c, l) := of_dec h
  have hne := dec_ne h
  have e1 : codeB t = (c : Int) := by unfold codeB; rw [e, if_neg hne]
  refine ⟨e1, ?_⟩
  unfold lenB
  rw [e1, if_neg (by omega), e]

theorem one_bad {t : Wd} (h : ∀ c l, ¬ Dec t.length (t.getD 0 0).toNat (t.getD 1 0).toNat (t.getD 2 0).toNat (t.getD 3 0).toNat c l) : codeB t = -1 - ((t.getD 0 0).toNat : Int) ∧ lenB t = 1 := by
  have e : decB t = (65533, 1) := Decidable.byContradiction fun hne => h _ _ (dec_of hne)
  have e1 : codeB t = -1 - ((t.getD 0 0).toNat : Int) := by unfold codeB; rw [if_pos e]
  refine ⟨e1, ?_⟩
  unfold lenB
  rw [e1, if_pos (by omega)]

theorem drop_get {s : Wd} {i : Nat} (k : Nat) (h : i + k < s.length) : ∀ hh : i + k < (⟨s.toArray⟩ : ByteArray).size, (⟨s.toArray⟩ : ByteArray)[i + k] = (s.drop i).getD k 0 := by
  intro hh
  rw [List.getD_eq_getElem?_getD, List.getElem?_drop, List.getElem?_eq_getElem h]; rfl
end Go.Proofs.YtlbbjcggjmaehaaDoor
