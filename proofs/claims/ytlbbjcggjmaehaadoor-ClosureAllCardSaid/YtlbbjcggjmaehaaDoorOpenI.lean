/-
  A []int argument, opened. No conditions.
-/
import Derived.Test.YtlbbjcggjmaehaaDoorOpen
import Derived.Test.YtlbbjcggjmaehaaDoorWd
namespace Go.Proofs.YtlbbjcggjmaehaaDoor
open Go Go.RowKit Go.ChangeShapes Go.WideShapes Go.Deep

section
variable {H : Type} {enc : TypeId × Value → H} {W : World} {held : Bool}

theorem cells_int : Tryd.prog.cellsOf 3 = 1 := by kernel_rfl

theorem ints_open {A : Option Addr} {n c m : Nat} {y : DataW H × List MemPlace} (h : DataW.trod enc Tryd.prog W 0 (fun _ => true) held m 23 [.slice A n c] = some y) :
    ∃ zs : List Int, zs.length = n ∧ n ≤ c ∧ Sl W 1 A n (intCells zs) := by
  obtain ⟨hle, hm, g, hlen, hc, hx⟩ := open_rows Tryd.underlying23 cells_int (by omega) (fun l => ∃ z : Int, l = [.int .i64 z]) (fun m cs y hl h => by obtain ⟨z, e1, _⟩ := DataW.trod_int Tryd.underlying3 h; exact ⟨z, e1⟩) h
  have hs := sl_of_rows hlen hc (Q := fun l => ∃ z : Int, l = [.int .i64 z]) (by rintro l ⟨z, rfl⟩ x hx; simp at hx; subst hx; rfl) hx
  have key : ∀ i, i < n → ∃ z : Int, g[i]? = some (.int .i64 z) := by
    intro i hi
    obtain ⟨l, _, ⟨z, rfl⟩, hj⟩ := hx i hi
    have := hj 0 (by omega)
    rw [Nat.mul_one, Nat.add_zero] at this
    exact ⟨z, by rw [this]; simp⟩
  let f : Value → Int := fun v => match v with | .int _ z => z | _ => 0
  have e : intCells (g.map f) = g := by
    apply List.ext_getElem?
    intro i
    rw [intCells, List.map_map, List.getElem?_map]
    rcases Nat.lt_or_ge i n with hi | hi
    · obtain ⟨z, h2⟩ := key i hi
      rw [h2]; simp [f]
    · rw [List.getElem?_eq_none (by omega)]; rfl
  exact ⟨g.map f, by rw [List.length_map, hlen, Nat.mul_one], hle, by rw [e]; exact hs⟩
end
end Go.Proofs.YtlbbjcggjmaehaaDoor

