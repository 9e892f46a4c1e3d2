/-
  A map that the call has made, told by its entries in the order in which they came. No conditions beyond those that each lemma names.
-/
import Derived.Test.YtlbbjcggjmaehaaDoorHeap
import Derived.Maps.Keyed
import Derived.DeepKeys5
namespace Go.Proofs.YtlbbjcggjmaehaaDoor
open Go Go.RowKit Go.Maps Go.MapKept

/-- Block M is a map with these entries, keys of type k. -/
def MapIs (P : Program) (k : TypeId) (w : World) (M : Nat) (kvs : List (Value × Value)) : Prop :=
  ∃ es clock, w.heap[M]? = some (.map es clock) ∧ es.toList.map (fun e => (e.key, e.val)) = kvs ∧ ∀ e ∈ es.toList, ∃ l, keyOf P k e.key = some l

section
variable {P : Program} {k : TypeId} {w w' : World} {M : Nat} {kvs : List (Value × Value)}

theorem MapIs.kept (h : MapIs P k w M kvs) {r : Option Nat} (g : w.grownBy w' r) (hr : r ≠ some M) : MapIs P k w' M kvs := by
  obtain ⟨es, clock, hb, he, hk⟩ := h
  exact ⟨es, clock, grownBy_heap g hb hr, he, hk⟩

theorem MapIs.new (w : World) : MapIs P k (w.alloc (.map #[] 0)) w.heap.size [] := ⟨#[], 0, heap_alloc_new _ _, rfl, by simp⟩

theorem MapIs.lt (h : MapIs P k w M kvs) : M < w.heap.size := by
  obtain ⟨es, clock, hb, _⟩ := h; exact heap_lt hb

theorem MapIs.lookup_out (h : MapIs P k w M kvs) (K : Keyed P k) {t e : TypeId} (ht : P.underlying t = some (.map k e)) {z : Value} (hz : (zeroValue e).run P w = .ok z w) {key : Value} {l : Lit} (hk : keyOf P k key = some l)
    (hn : ∀ p ∈ kvs, p.1 ≠ key) : (Instr.lookup t (.map (some M)) key true).run P w = .ok (.tuple #[z, .bool false]) w := by
  obtain ⟨es, clock, hb, rfl, hks⟩ := h
  rcases K.find w hk es.toList hks with ⟨h1, _⟩ | ⟨j, e', h1, h2, h3⟩
  · simp [Instr.lookup, run_underlying ht, MapKept.run_getObj_map hb, K.check w _ hk, h1, hz, Result.andThen]
  · exact absurd h3 (hn (e'.key, e'.val) (List.mem_map.2 ⟨e', List.mem_of_getElem? h2, rfl⟩))

theorem MapIs.lookup_in (h : MapIs P k w M kvs) (K : Keyed P k) {t e : TypeId} (ht : P.underlying t = some (.map k e)) {key v : Value} {l : Lit} (hk : keyOf P k key = some l)
    (hn : ∀ p ∈ kvs, p.1 = key → p.2 = v) (hin : ∃ p ∈ kvs, p.1 = key) : (Instr.lookup t (.map (some M)) key true).run P w = .ok (.tuple #[v, .bool true]) w := by
  obtain ⟨es, clock, hb, rfl, hks⟩ := h
  rcases K.find w hk es.toList hks with ⟨_, h1⟩ | ⟨j, e', h1, h2, h3⟩
  · obtain ⟨p, hp, he⟩ := hin
    obtain ⟨e', he', rfl⟩ := List.mem_map.1 hp
    exact absurd he (h1 e' he')
  · have hv := hn (e'.key, e'.val) (List.mem_map.2 ⟨e', List.mem_of_getElem? h2, rfl⟩) h3
    simp only at hv
    simp [Instr.lookup, run_underlying ht, MapKept.run_getObj_map hb, K.check w _ hk, h1, hv, Result.andThen]

/-- A new key. -/
theorem MapIs.put (h : MapIs P k w M kvs) (K : Keyed P k) {t e : TypeId} (ht : P.underlying t = some (.map k e)) {key v : Value} {l : Lit} (hk : keyOf P k key = some l) (hn : ∀ p ∈ kvs, p.1 ≠ key) :
    ∃ w1, (Instr.mapUpdate t (.map (some M)) key v).run P w = .ok () w1 ∧ MapIs P k w1 M (kvs ++ [(key, v)]) ∧ w.grownBy w1 (some M) := by
  obtain ⟨es, clock, hb, rfl, hks⟩ := h
  have hlt := heap_lt hb
  rcases K.find w hk es.toList hks with ⟨h1, _⟩ | ⟨j, e', h1, h2, h3⟩
  · refine ⟨{ w with heap := w.heap.setIfInBounds M (.map (es.push { key, val := v, born := clock }) (clock + 1)) }, ?_, ?_, ?_⟩
    · simp [Instr.mapUpdate, run_underlying ht, MapKept.run_getObj_map hb, K.check w _ hk, h1, MapKept.run_setObj_map _ hb, Result.andThen]
    · refine ⟨_, _, Array.getElem?_setIfInBounds_self_of_lt hlt, by simp, fun e he => ?_⟩
      rw [Array.toList_push] at he
      rcases List.mem_append.1 he with he | he
      · exact hks e he
      · simp at he; subst he; exact ⟨l, hk⟩
    · refine ⟨rfl, rfl, rfl, by simp, fun i _ hi => ?_⟩
      have : M ≠ i := fun e => hi (by rw [e])
      simp [this]
  · exact absurd h3 (hn (e'.key, e'.val) (List.mem_map.2 ⟨e', List.mem_of_getElem? h2, rfl⟩))
end
end Go.Proofs.YtlbbjcggjmaehaaDoor
