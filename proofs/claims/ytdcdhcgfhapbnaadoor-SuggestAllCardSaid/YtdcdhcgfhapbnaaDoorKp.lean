/-
  What is left of memory by a call that writes a few old blocks: those of S alone. No conditions beyond those that each lemma names.
-/
import Derived.Test.YtdcdhcgfhapbnaaDoorQuiet
import Derived.Maps.Keyed
import Derived.DeepKeys5
import Derived.Test.YtdcdhcgfhapbnaaDoorSl
namespace Go.Proofs.YtdcdhcgfhapbnaaDoor
open Go Go.RowKit Go.Maps Go.MapKept

/-- Block M is a map with these entries, keys of type k. -/
def MapIs (P : Program) (k : TypeId) (w : World) (M : Nat) (kvs : List (Value × Value)) : Prop :=
  ∃ es clock, w.heap[M]? = some (.map es clock) ∧ es.toList.map (fun e => (e.key, e.val)) = kvs ∧ ∀ e ∈ es.toList, ∃ l, keyOf P k e.key = some l

section
variable {P : Program} {k : TypeId} {w w' : World} {M : Nat} {kvs : List (Value × Value)}

theorem MapIs.kept (h : MapIs P k w M kvs) {r : Option Nat} (g : w.grownBy w' r) (hr : r ≠ some M) : MapIs P k w' M kvs := by
  obtain ⟨es, clock, hb, he, hk⟩ := h
  exact ⟨es, clock, grownBy_heap g hb hr, he, hk⟩

theorem MapIs.new (w : World) : MapIs P k (w.alloc (.map #[] 0)) w.heap.size [] := ⟨#[], 0, heap_alloc_new _ _, rfl, by simp⟩

theorem MapIs.lt (h : MapIs P k w M kvs) : M < w.heap.size := by
  obtain ⟨es, clock, hb, _⟩ := h; exact heap_lt hb

theorem MapIs.lookup_out (h : MapIs P k w M kvs) (K : Keyed P k) {t e : TypeId} (ht : P.underlying t = some (.map k e)) {z : Value} (hz : (zeroValue e).run P w = .ok z w) {key : Value} {l : Lit} (hk : keyOf P k key = some l)
    (hn : ∀ p ∈ kvs, p.1 ≠ key) : (Instr.lookup t (.map (some M)) key true).run P w = .ok (.tuple #[z, .bool false]) w := by
  obtain ⟨es, clock, hb, rfl, hks⟩ := h
  rcases K.find w hk es.toList hks with ⟨h1, _⟩ | ⟨j, e', h1, h2, h3⟩
  · simp [Instr.lookup, run_underlying ht, MapKept.run_getObj_map hb, K.check w _ hk, h1, hz, Result.andThen]
  · exact absurd h3 (hn (e'.key, e'.val) (List.mem_map.2 ⟨e', List.mem_of_getElem? h2, rfl⟩))

theorem MapIs.lookup_in (h : MapIs P k w M kvs) (K : Keyed P k) {t e : TypeId} (ht : P.underlying t = some (.map k e)) {key v : Value} {l : Lit} (hk : keyOf P k key = some l)
    (hn : ∀ p ∈ kvs, p.1 = key → p.2 = v) (hin : ∃ p ∈ kvs, p.1 = key) : (Instr.lookup t (.map (some M)) key true).run P w = .ok (.tuple #[v, .bool true]) w := by
  obtain ⟨es, clock, hb, rfl, hks⟩ := h
  rcases K.find w hk es.toList hks with ⟨_, h1⟩ | ⟨j, e', h1, h2, h3⟩
  · obtain ⟨p, hp, he⟩ := hin
    obtain ⟨e', he', rfl⟩ := List.mem_map.1 hp
    exact absurd he (h1 e' he')
  · have hv := hn (e'.key, e'.val) (List.mem_map.2 ⟨e', List.mem_of_getElem? h2, rfl⟩) h3
    simp only at hv
    simp [Instr.lookup, run_underlying ht, MapKept.run_getObj_map hb, K.check w _ hk, h1, hv, Result.andThen]

/-- A new key. -/
theorem MapIs.put (h : MapIs P k w M kvs) (K : Keyed P k) {t e : TypeId} (ht : P.underlying t = some (.map k e)) {key v : Value} {l : Lit} (hk : keyOf P k key = some l) (hn : ∀ p ∈ kvs, p.1 ≠ key) :
    ∃ w1, (Instr.mapUpdate t (.map (some M)) key v).run P w = .ok () w1 ∧ MapIs P k w1 M (kvs ++ [(key, v)]) ∧ w.grownBy w1 (some M) := by
  obtain ⟨es, clock, hb, rfl, hks⟩ := h
  have hlt := heap_lt hb
  rcases K.find w hk es.toList hks with ⟨h1, _⟩ | ⟨j, e', h1, h2, h3⟩
  · refine ⟨{ w with heap := w.heap.setIfInBounds M (.map (es.push { key, val := v, born := clock }) (clock + 1)) }, ?_, ?_, ?_⟩
    · simp [Instr.mapUpdate, run_underlying ht, MapKept.run_getObj_map hb, K.check w _ hk, h1, MapKept.run_setObj_map _ hb, Result.andThen]
    · refine ⟨_, _, Array.getElem?_setIfInBounds_self_of_lt hlt, by simp, fun e he => ?_⟩
      rw [Array.toList_push] at he
      rcases List.mem_append.1 he with he | he
      · exact hks e he
      · simp at he; subst he; exact ⟨l, hk⟩
    · refine ⟨rfl, rfl, rfl, by simp, fun i _ hi => ?_⟩
      have : M ≠ i := fun e => hi (by rw [e])
      simp [this]
  · exact absurd h3 (hn (e'.key, e'.val) (List.mem_map.2 ⟨e', List.mem_of_getElem? h2, rfl⟩))
end
end Go.Proofs.YtdcdhcgfhapbnaaDoor

namespace Go.Proofs.YtdcdhcgfhapbnaaDoor
open Go Go.RowKit

/-- Of the blocks that there were, those of S alone may have turned. -/
structure Kp (S : Nat → Prop) (w w' : World) : Prop where
  os : w'.os = w.os
  tape : w'.tape = w.tape
  output : w'.output = w.output
  size : w.heap.size ≤ w'.heap.size
  block : ∀ k, k < w.heap.size → ¬ S k → w'.heap[k]? = w.heap[k]?

namespace Kp
variable {S T : Nat → Prop} {a b c : World}

theorem refl (S : Nat → Prop) (w : World) : Kp S w w := ⟨rfl, rfl, rfl, Nat.le_refl _, fun _ _ _ => rfl⟩

theorem trans (h : Kp S a b) (k : Kp T b c) (hT : ∀ i, i < a.heap.size → T i → S i) : Kp S a c :=
  ⟨k.os.trans h.os, k.tape.trans h.tape, k.output.trans h.output, Nat.le_trans h.size k.size, fun i hi hS => by
    rw [k.block i (Nat.lt_of_lt_of_le hi h.size) (fun t => hS (hT i hi t)), h.block i hi hS]⟩

theorem of_grown {r : Option Nat} (h : a.grownBy b r) (hr : ∀ k, r = some k → S k ∨ a.heap.size ≤ k) : Kp S a b :=
  ⟨h.os, h.tape, h.output, h.size, fun i hi hS => h.block i hi (fun e => by rcases hr i e.symm with h | h; exact hS h; omega)⟩

theorem of_below {B : Nat} (h : Below B a b) (hS : ∀ k, B ≤ k → k < a.heap.size → S k) : Kp S a b :=
  ⟨h.os, h.tape, h.output, h.size, fun i hi hs => h.block i (by
    rcases Nat.lt_or_ge i B with h' | h'
    · exact h'
    · exact absurd (hS i h' hi) hs)⟩

theorem grown (h : Kp S a b) (hS : ∀ k, k < a.heap.size → ¬ S k) : a.grownBy b none :=
  ⟨h.os, h.tape, h.output, h.size, fun i hi _ => h.block i hi (hS i hi)⟩

theorem below {B : Nat} (h : Kp S a b) (hB : B ≤ a.heap.size) (hS : ∀ k, S k → k < a.heap.size → B ≤ k) : Below B a b :=
  ⟨h.os, h.tape, h.output, h.size, fun i hi => h.block i (by omega) (fun s => by have := hS i s (by omega); omega)⟩

theorem heap (h : Kp S a b) {k : Nat} {o : Obj} (hk : a.heap[k]? = some o) (hS : ¬ S k) : b.heap[k]? = some o := by
  rw [h.block k (heap_lt hk) hS]; exact hk

theorem mono (h : Kp S a b) (hT : ∀ k, k < a.heap.size → S k → T k) : Kp T a b := ⟨h.os, h.tape, h.output, h.size, fun i hi hs => h.block i hi (fun s => hs (hT i hi s))⟩

theorem cell (h : Kp S a b) {x : Addr} {v : Value} (hc : a.cell? x = some v) (hS : ¬ S x.block) : b.cell? x = some v := by
  rw [World.cell?_of_block (w := a) (h.block _ (World.block_lt_of_cell? a x hc) hS)]; exact hc

theorem sl (h : Kp S a b) {size n : Nat} {A : Option Addr} {cs : List Value} (hs : Sl a size A n cs) (hS : ∀ k, k < a.heap.size → S k → Off A n k) : Sl b size A n cs := by
  refine ⟨hs.1, hs.2.1, fun hn => ?_⟩
  obtain ⟨x, o, rfl, hc⟩ := hs.2.2 hn
  refine ⟨x, o, rfl, fun j u hu => h.cell (hc j u hu) (fun s => ?_)⟩
  exact hS x (World.block_lt_of_cell? a _ (hc j u hu)) s hn _ rfl rfl

theorem ownsRow (h : Kp S a b) {base e size n : Nat} {v : Value} {xs : List Value} (ho : a.ownsRow base e size v n xs) (hS : ∀ k, v.ownBlock = some k → ¬ S k) : b.ownsRow base e size v n xs := by
  obtain ⟨h1, h2⟩ := ho
  refine ⟨h1, ?_⟩
  rcases h2 with h2 | ⟨g, cap, cur, hv, hg, hh, r⟩
  · exact .inl h2
  · exact .inr ⟨g, cap, cur, hv, hg, h.heap hh (hS g (by rw [hv]; rfl)), r⟩

theorem mapIs (h : Kp S a b) {P : Program} {k : TypeId} {M : Nat} {kvs : List (Value × Value)} (hm : MapIs P k a M kvs) (hS : ¬ S M) : MapIs P k b M kvs := by
  obtain ⟨es, clock, hb, he, hk⟩ := hm
  exact ⟨es, clock, h.heap hb hS, he, hk⟩
end Kp

theorem Off.mono {A : Option Addr} {n m l : Nat} (h : Off A n l) (hm : m ≤ n) : Off A m l := fun h0 => h (by omega)
end Go.Proofs.YtdcdhcgfhapbnaaDoor
