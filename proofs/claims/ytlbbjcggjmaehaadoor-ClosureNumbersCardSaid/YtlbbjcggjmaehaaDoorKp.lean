/-
  What is left of memory by a call that writes a few old blocks: those of S alone. No conditions beyond those that each lemma names.
-/
import Derived.Test.YtlbbjcggjmaehaaDoorSl
import Derived.Test.YtlbbjcggjmaehaaDoorMap
namespace Go.Proofs.YtlbbjcggjmaehaaDoor
open Go Go.RowKit

/-- Of the blocks that there were, those of S alone may have turned. -/
structure Kp (S : Nat → Prop) (w w' : World) : Prop where
  os : w'.os = w.os
  tape : w'.tape = w.tape
  output : w'.output = w.output
  size : w.heap.size ≤ w'.heap.size
  block : ∀ k, k < w.heap.size → ¬ S k → w'.heap[k]? = w.heap[k]?

namespace Kp
variable {S T : Nat → Prop} {a b c : World}

theorem refl (S : Nat → Prop) (w : World) : Kp S w w := ⟨rfl, rfl, rfl, Nat.le_refl _, fun _ _ _ => rfl⟩

theorem trans (h : Kp S a b) (k : Kp T b c) (hT : ∀ i, i < a.heap.size → T i → S i) : Kp S a c :=
  ⟨k.os.trans h.os, k.tape.trans h.tape, k.output.trans h.output, Nat.le_trans h.size k.size, fun i hi hS => by
    rw [k.block i (Nat.lt_of_lt_of_le hi h.size) (fun t => hS (hT i hi t)), h.block i hi hS]⟩

theorem of_grown {r : Option Nat} (h : a.grownBy b r) (hr : ∀ k, r = some k → S k ∨ a.heap.size ≤ k) : Kp S a b :=
  ⟨h.os, h.tape, h.output, h.size, fun i hi hS => h.block i hi (fun e => by rcases hr i e.symm with h | h; exact hS h; omega)⟩

theorem of_below {B : Nat} (h : Below B a b) (hS : ∀ k, B ≤ k → k < a.heap.size → S k) : Kp S a b :=
  ⟨h.os, h.tape, h.output, h.size, fun i hi hs => h.block i (by
    rcases Nat.lt_or_ge i B with h' | h'
    · exact h'
    · exact absurd (hS i h' hi) hs)⟩

theorem grown (h : Kp S a b) (hS : ∀ k, k < a.heap.size → ¬ S k) : a.grownBy b none :=
  ⟨h.os, h.tape, h.output, h.size, fun i hi _ => h.block i hi (hS i hi)⟩

theorem below {B : Nat} (h : Kp S a b) (hB : B ≤ a.heap.size) (hS : ∀ k, S k → k < a.heap.size → B ≤ k) : Below B a b :=
  ⟨h.os, h.tape, h.output, h.size, fun i hi => h.block i (by omega) (fun s => by have := hS i s (by omega); omega)⟩

theorem heap (h : Kp S a b) {k : Nat} {o : Obj} (hk : a.heap[k]? = some o) (hS : ¬ S k) : b.heap[k]? = some o := by
  rw [h.block k (heap_lt hk) hS]; exact hk

theorem mono (h : Kp S a b) (hT : ∀ k, k < a.heap.size → S k → T k) : Kp T a b := ⟨h.os, h.tape, h.output, h.size, fun i hi hs => h.block i hi (fun s => hs (hT i hi s))⟩

theorem cell (h : Kp S a b) {x : Addr} {v : Value} (hc : a.cell? x = some v) (hS : ¬ S x.block) : b.cell? x = some v := by
  rw [World.cell?_of_block (w := a) (h.block _ (World.block_lt_of_cell? a x hc) hS)]; exact hc

theorem sl (h : Kp S a b) {size n : Nat} {A : Option Addr} {cs : List Value} (hs : Sl a size A n cs) (hS : ∀ k, k < a.heap.size → S k → Off A n k) : Sl b size A n cs := by
  refine ⟨hs.1, hs.2.1, fun hn => ?_⟩
  obtain ⟨x, o, rfl, hc⟩ := hs.2.2 hn
  refine ⟨x, o, rfl, fun j u hu => h.cell (hc j u hu) (fun s => ?_)⟩
  exact hS x (World.block_lt_of_cell? a _ (hc j u hu)) s hn _ rfl rfl

theorem ownsRow (h : Kp S a b) {base e size n : Nat} {v : Value} {xs : List Value} (ho : a.ownsRow base e size v n xs) (hS : ∀ k, v.ownBlock = some k → ¬ S k) : b.ownsRow base e size v n xs := by
  obtain ⟨h1, h2⟩ := ho
  refine ⟨h1, ?_⟩
  rcases h2 with h2 | ⟨g, cap, cur, hv, hg, hh, r⟩
  · exact .inl h2
  · exact .inr ⟨g, cap, cur, hv, hg, h.heap hh (hS g (by rw [hv]; rfl)), r⟩

theorem mapIs (h : Kp S a b) {P : Program} {k : TypeId} {M : Nat} {kvs : List (Value × Value)} (hm : MapIs P k a M kvs) (hS : ¬ S M) : MapIs P k b M kvs := by
  obtain ⟨es, clock, hb, he, hk⟩ := hm
  exact ⟨es, clock, h.heap hb hS, he, hk⟩
end Kp

theorem Off.mono {A : Option Addr} {n m l : Nat} (h : Off A n l) (hm : m ≤ n) : Off A m l := fun h0 => h (by omega)
end Go.Proofs.YtlbbjcggjmaehaaDoor
