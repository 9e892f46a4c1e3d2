/-
  Marks' trees in memory; a world that differs in some blocks alone. No conditions beyond those that each lemma names.
-/
import Derived.Test.YtijpienjejfmiaaMkP
import Derived.Test.YtijpienjejfmiaaHeap
namespace Go.Proofs.Ytijpienjejfmiaa
open Go Go.RowKit

/-- Of what was there only these blocks have turned. -/
structure Only (B : List Nat) (w w' : World) : Prop where
  os : w'.os = w.os
  tape : w'.tape = w.tape
  output : w'.output = w.output
  size : w.heap.size ≤ w'.heap.size
  block : ∀ k, k < w.heap.size → k ∉ B → w'.heap[k]? = w.heap[k]?

variable {B B' : List Nat} {w w' w1 w2 : World}

theorem Only.refl (B : List Nat) (w : World) : Only B w w := ⟨rfl, rfl, rfl, Nat.le_refl _, fun _ _ _ => rfl⟩
theorem Only.trans (h : Only B w w1) (k : Only B' w1 w2) (hs : ∀ b ∈ B', b ∈ B ∨ w.heap.size ≤ b) : Only B w w2 :=
  ⟨k.os.trans h.os, k.tape.trans h.tape, k.output.trans h.output, Nat.le_trans h.size k.size, fun i hi hn => (k.block i (Nat.lt_of_lt_of_le hi h.size) (fun hm => by rcases hs i hm with h2 | h2; exact hn h2; omega)).trans (h.block i hi hn)⟩
theorem Only.mono (h : Only B w w') (hs : ∀ b ∈ B, b ∈ B' ∨ w.heap.size ≤ b) : Only B' w w' :=
  ⟨h.os, h.tape, h.output, h.size, fun i hi hn => h.block i hi (fun hm => by rcases hs i hm with h2 | h2; exact hn h2; omega)⟩
theorem Only.grown {o : Option Nat} (h : w.grownBy w' o) (ho : ∀ b, o = some b → b ∈ B) : Only B w w' :=
  ⟨h.os, h.tape, h.output, h.size, fun k hk hn => h.block k hk (fun e => hn (ho k e.symm))⟩
theorem Only.setCell (h : Only B w w') {p : Addr} (hp : p.block ∈ B ∨ w.heap.size ≤ p.block) (v : Value) : Only B w (w'.setCell p v) :=
  ⟨h.os, h.tape, h.output, by simpa [World.setCell] using h.size, fun k hk hn => by
    rw [Below.heap_setCell _ _ _ _ (fun e => by rcases hp with h2 | h2; exact hn (e ▸ h2); omega)]
    exact h.block k hk hn⟩
theorem Only.alloc (h : Only B w w') (o : Obj) : Only B w (w'.alloc o) :=
  ⟨h.os, h.tape, h.output, by have := h.size; simp; omega, fun k hk hn => (Below.heap_alloc _ _ _ (Nat.lt_of_lt_of_le hk h.size)).trans (h.block k hk hn)⟩
theorem Only.drew (h : Only B w w') : Only B w w'.drew := ⟨h.os, h.tape, h.output, h.size, h.block⟩

/-- Blocks that are all new. -/
theorem Only.toGrown (g : w.grownBy w1 none) (h : Only B w1 w2) (hn : ∀ b ∈ B, w.heap.size ≤ b) : w.grownBy w2 none :=
  ⟨h.os.trans g.os, h.tape.trans g.tape, h.output.trans g.output, Nat.le_trans g.size h.size, fun k hk _ => (h.block k (Nat.lt_of_lt_of_le hk g.size) (fun hm => by have := hn k hm; omega)).trans (g.block k hk nofun)⟩

theorem Only.heap (h : Only B w w') {k : Nat} {o : Obj} (hk : w.heap[k]? = some o) (hn : k ∉ B) : w'.heap[k]? = some o :=
  (h.block k (heap_lt hk) hn).trans hk

/-! ### Trees in memory -/
def addrT : Tr → Option Addr
  | .nil => none
  | .node b _ _ _ _ _ _ _ => some ⟨b, 0, none⟩

abbrev ptrV (t : Tr) : Value := .pointer (addrT t)

def nodeC (l r : Tr) (s : Sp) (h c m wt : Int) : Array Value := #[.int .i64 s.a, .int .i64 s.b, .int .i64 s.k, ptrV l, ptrV r, .int .i64 h, .int .i64 c, .int .i64 m, .int .i64 wt]

/-- The tree lies so. -/
def Lay (w : World) : Tr → Prop
  | .nil => True
  | .node b l r s h c m wt => w.heap[b]? = some (.cells (nodeC l r s h c m wt) 71 (0, 0)) ∧ Lay w l ∧ Lay w r

theorem Lay.frame : ∀ {t : Tr}, Lay w t → (∀ b ∈ blks t, w'.heap[b]? = w.heap[b]?) → Lay w' t
  | .nil, _, _ => trivial
  | .node b l r s h c m wt, hh, hf => by
    obtain ⟨h1, h2, h3⟩ := hh
    refine ⟨(hf b (by simp [blks])).trans h1, h2.frame fun x hx => hf x (by simp [blks, hx]), h3.frame fun x hx => hf x (by simp [blks, hx])⟩

theorem Lay.lt : ∀ {t : Tr}, Lay w t → ∀ b ∈ blks t, b < w.heap.size
  | .nil, _, _, h => by cases h
  | .node b l r s h c m wt, hh, x, hx => by
    obtain ⟨h1, h2, h3⟩ := hh
    rcases List.mem_cons.1 hx with rfl | hx
    · exact heap_lt h1
    · rcases List.mem_append.1 hx with hx | hx
      · exact h2.lt x hx
      · exact h3.lt x hx

theorem Lay.only {t : Tr} (h : Lay w t) (g : Only B w w') (hd : ∀ b ∈ blks t, b ∉ B) : Lay w' t := h.frame fun b hb => g.block b (h.lt b hb) (hd b hb)
theorem Lay.kept {t : Tr} (h : Lay w t) (g : w.grownBy w' none) : Lay w' t := h.frame fun b hb => g.block b (h.lt b hb) nofun

/-- The pointer stays where a tree is moved, told. -/
theorem ptr_move (d : Int) (t : Tr) : ptrV (moveT d t) = ptrV t := by cases t <;> rfl
theorem addr_move (d : Int) (t : Tr) : addrT (moveT d t) = addrT t := by cases t <;> rfl
theorem ptr_told (t : Tr) : ptrV (toldT t) = ptrV t := by cases t <;> rfl
theorem ptr_down (t : Tr) : ptrV (downT t) = ptrV t := by cases t <;> rfl
end Go.Proofs.Ytijpienjejfmiaa
