/-
  A set of words: a map from words to true, told by the words that were put; its keys, sorted. No conditions beyond those that each lemma names.
-/
import Derived.Test.YtlbbjcggjmaehaaDoorWd
import Derived.Test.YtlbbjcggjmaehaaDoorShelf3
import Derived.Maps.OwnSet
namespace Go.Proofs.YtlbbjcggjmaehaaDoor
open Go Go.RowKit Go.Maps Go.Sort

def SetIs (w : World) (b n : Nat) (ks : List Wd) : Prop :=
  ∃ D : DataW Unit, w.ownsMap Tryd.prog 9 (plainElem Tryd.prog 4) b n D ∧ (∀ s, s ∈ strKeys D ↔ s ∈ ks)

theorem SetIs.lt {w : World} {b n : Nat} {ks : List Wd} (h : SetIs w b n ks) : b < w.heap.size := by
  obtain ⟨D, hD, _⟩ := h; exact hD.lt

theorem SetIs.kept {w w' : World} {b n : Nat} {ks : List Wd} (h : SetIs w b n ks) {r : Option Nat} (g : w.grownBy w' r) (hr : some b ≠ r) : SetIs w' b n ks := by
  obtain ⟨D, hD, hk⟩ := h; exact ⟨D, hD.kept g hr, hk⟩

theorem SetIs.mono {w : World} {b n m : Nat} {ks : List Wd} (h : SetIs w b n ks) (hm : n ≤ m) : SetIs w b m ks := by
  obtain ⟨D, hD, hk⟩ := h; exact ⟨D, hD.mono hm, hk⟩

theorem SetIs.new (w : World) : SetIs (w.alloc (.map #[] 0)) w.heap.size 0 [] := ⟨.map [], World.ownsMap_made w _ _ _, by simp [strKeys]⟩

theorem mapTurned_grown {w w' : World} {b : Nat} (h : w.mapTurned w' b) : w.grownBy w' (some b) := by
  obtain ⟨es, clock, es', clock', hb, rfl⟩ := h
  refine ⟨rfl, rfl, rfl, by simp [Go.ChangeMaps.setBlock], fun i _ hi => ?_⟩
  have : b ≠ i := fun e => hi (by rw [e])
  simp [Go.ChangeMaps.setBlock, this]

theorem mem_strKeys_put {D : DataW Unit} (hD : IsMap D) (hs : ∀ es, D = .map es → ∀ p ∈ es, ∃ x, p.1 = .string x) (s : Wd) (d : DataW Unit) (x : Wd) : x ∈ strKeys (D.put (.string s) d) ↔ x = s ∨ x ∈ strKeys D := by
  obtain ⟨es, rfl⟩ := hD
  rw [DataW.put_eq]
  unfold Go.ChangeMaps.putKey
  simp only [strKeys, List.mem_map]
  constructor
  · rintro ⟨p, hp, rfl⟩
    rcases Go.ChangeMaps.mem_insert_iff.1 hp with rfl | hp
    · exact .inl rfl
    · exact .inr ⟨p, (List.mem_filter.1 hp).1, rfl⟩
  · rintro (rfl | ⟨p, hp, rfl⟩)
    · exact ⟨_, Go.ChangeMaps.mem_insert_iff.2 (.inl rfl), rfl⟩
    · obtain ⟨y, hy⟩ := hs es rfl p hp
      by_cases he : y = s
      · exact ⟨_, Go.ChangeMaps.mem_insert_iff.2 (.inl rfl), by rw [hy, he]⟩
      · refine ⟨p, Go.ChangeMaps.mem_insert_iff.2 (.inr (List.mem_filter.2 ⟨hp, ?_⟩)), rfl⟩
        refine (Go.ChangeMaps.notKey_iff ⟨_, rfl⟩ ⟨y, hy⟩).2 ?_
        rw [hy]
        intro e
        cases e
        exact he rfl

theorem str_keyed : Keyed Tryd.prog 9 := string_keyed Tryd.underlying9

theorem SetIs.store {w : World} {b n : Nat} {ks : List Wd} (h : SetIs w b n ks) (s : Wd) (hs : s.length ≤ maxLen) (hn : n < maxLen) :
    ∃ w1, (Instr.mapUpdate 58 (.map (some b)) (.string ⟨s.toArray⟩) (.bool true)).run Tryd.prog w = .ok () w1 ∧ SetIs w1 b (n + 1) (ks ++ [s]) ∧ w.grownBy w1 (some b) := by
  obtain ⟨D, hD, hk⟩ := h
  have hkey : keyOf Tryd.prog 9 (.string ⟨s.toArray⟩) = some (.string s) := by
    have := Go.WideMaps.keyOf_string_mk (P := Tryd.prog) Tryd.underlying9 (s := ⟨s.toArray⟩) (by rw [size_wd]; exact hs)
    simpa using this
  obtain ⟨w1, h1, h2, h3⟩ := hD.store str_keyed Tryd.underlying58 hn hkey (plainElem_bool Tryd.underlying4 true)
  refine ⟨w1, h1, ⟨_, h2, fun x => ?_⟩, mapTurned_grown h3⟩
  obtain ⟨es, he, hes⟩ := hD.keysOf
  rw [mem_strKeys_put hD.isMap (fun es' e p hp => ?_), List.mem_append, List.mem_singleton, hk, or_comm]
  rw [he] at e
  cases e
  obtain ⟨v, hv⟩ := hes p hp
  obtain ⟨y, _, hy, _⟩ := Maps.keyOf_str Tryd.underlying9 hv
  exact ⟨y, hy⟩

theorem SetIs.nodup {D : DataW Unit} {w : World} {b n : Nat} (hD : w.ownsMap Tryd.prog 9 (plainElem Tryd.prog 4) b n D) : (strKeys D).Nodup := by
  obtain ⟨es, he, hes⟩ := hD.keysOf
  obtain ⟨es', he', hp⟩ := hD.tidy str_keyed
  rw [he] at he'
  cases he'
  subst he
  simp only [strKeys]
  rw [List.Nodup, List.pairwise_map]
  refine hp.imp_of_mem fun {p q} hpm hqm hne e => hne ?_
  obtain ⟨v, hv⟩ := hes p hpm
  obtain ⟨v', hv'⟩ := hes q hqm
  obtain ⟨y, _, hy, _⟩ := Maps.keyOf_str Tryd.underlying9 hv
  obtain ⟨z, _, hz, _⟩ := Maps.keyOf_str Tryd.underlying9 hv'
  rw [hy, hz] at e ⊢
  have e' : y = z := e
  rw [e']

theorem sortW_rise {ss : List Wd} (h : ss.Nodup) : Rise (sortW ss) := by
  have h1 := sortW_sorted ss
  have h2 : (sortW ss).Nodup := (List.mergeSort_perm ss _).nodup_iff.2 h
  unfold Rise
  have := h1.and h2
  exact this.imp fun {a b} hab => wd_lt_of_le_ne hab.1 hab.2

theorem SetIs.sorted {D : DataW Unit} {w : World} {b n : Nat} {ks : List Wd} (hD : w.ownsMap Tryd.prog 9 (plainElem Tryd.prog 4) b n D) (hk : ∀ s, s ∈ strKeys D ↔ s ∈ ks) {ss : List Wd} (hp : ss.Perm (strKeys D)) : sortW ss = canon ks :=
  rise_unique (sortW_rise (hp.nodup_iff.2 (SetIs.nodup hD))) (canon_rise ks) fun x => by rw [mem_sortW, hp.mem_iff, hk, mem_canon]

/-- How many. -/
theorem SetIs.len {w : World} {b n : Nat} {ks : List Wd} (h : SetIs w b n ks) (ty : TypeId) : (Builtin.len_ #[58] ty #[.map (some b)]).run Tryd.prog w = .ok (.int .i64 ((canon ks).length : Nat)) w ∧ (canon ks).length ≤ n := by
  obtain ⟨D, hD, hk⟩ := h
  have h1 := hD.len Tryd.underlying58 ty
  have h2 := SetIs.sorted hD hk (List.Perm.refl _)
  have h3 : (strKeys D).length = Maps.size D := by
    obtain ⟨es, rfl⟩ := hD.isMap
    simp [strKeys, Maps.size]
  have h4 := hD.size_le
  rw [← h2, sortW_len, h3]
  exact ⟨h1, h4⟩
end Go.Proofs.YtlbbjcggjmaehaaDoor
