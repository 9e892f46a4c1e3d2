/-
  A slice of words that came in: its words lie in one row. No conditions beyond those that each lemma names.
-/
import Derived.Test.YtgcaenckjelijaaDoorOpen
import Derived.Test.YtgcaenckjelijaaDoorDawgS
namespace Go.Proofs.YtgcaenckjelijaaDoor
open Go Go.RowKit Go.ChangeShapes Go.WideShapes Go.Deep

section
variable {H : Type} {enc : TypeId × Value → H} {W : World} {held : Bool}

theorem cells_string : Tryd.prog.cellsOf 9 = 1 := by kernel_rfl

theorem words_open {A : Option Addr} {n c m : Nat} {y : DataW H × List MemPlace} (h : DataW.trod enc Tryd.prog W 0 (fun _ => true) held m 22 [.slice A n c] = some y) :
    ∃ ss : List Wd, ss.length = n ∧ n ≤ c ∧ Sl W 1 A n (strCells ss) := by
  obtain ⟨hle, hm, g, hlen, hc, hx⟩ := open_rows Tryd.underlying22 cells_string (by omega) (fun l => ∃ s : ByteArray, l = [.string s]) (fun m cs y hl h => by obtain ⟨x, rfl, _⟩ := DataW.trod_string Tryd.underlying9 h; exact ⟨x, rfl⟩) h
  have hs := sl_of_rows hlen hc (Q := fun l => ∃ s : ByteArray, l = [.string s]) (by rintro l ⟨s, rfl⟩ x hx; simp at hx; subst hx; rfl) hx
  have key : ∀ i, i < n → ∃ s : Wd, g[i]? = some (.string ⟨s.toArray⟩) := by
    intro i hi
    obtain ⟨l, _, ⟨s, rfl⟩, hj⟩ := hx i hi
    have := hj 0 (by omega)
    rw [Nat.mul_one, Nat.add_zero] at this
    exact ⟨s.data.toList, by rw [this]; simp⟩
  let f : Value → Wd := fun v => match v with | .string s => s.data.toList | _ => []
  have e : strCells (g.map f) = g := by
    apply List.ext_getElem?
    intro i
    rw [strCells, List.map_map, List.getElem?_map]
    rcases Nat.lt_or_ge i n with hi | hi
    · obtain ⟨s, h2⟩ := key i hi
      rw [h2]; simp [f]
    · rw [List.getElem?_eq_none (by omega)]; rfl
  exact ⟨g.map f, by rw [List.length_map, hlen, Nat.mul_one], hle, by rw [e]; exact hs⟩
end
end Go.Proofs.YtgcaenckjelijaaDoor
