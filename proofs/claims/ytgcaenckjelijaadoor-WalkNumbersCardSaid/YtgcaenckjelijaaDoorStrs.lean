/-
  Rows of strings: small facts. No conditions beyond those that each lemma names.
-/
import Derived.Test.YtgcaenckjelijaaDoorDawgB
import Derived.Test.YtgcaenckjelijaaDoorDawgO
namespace Go.Proofs.YtgcaenckjelijaaDoor
open Go Go.RowKit Go.Maps

theorem str_info : (Tryd.prog.info? 9).map (fun i => (i.zero, i.size, i.bytes)) = some (some (.string ⟨#[]⟩), 1, 16) := by kernel_rfl

theorem str_eq {s t : Wd} : ((⟨s.toArray⟩ : ByteArray) = ⟨t.toArray⟩) ↔ s = t := by
  constructor
  · intro h
    have := congrArg ByteArray.data h
    simpa using this
  · rintro rfl; rfl

theorem ext_take (x : Wd) (k : Nat) : (⟨x.toArray⟩ : ByteArray).extract 0 k = ⟨(x.take k).toArray⟩ := by
  apply ByteArray.ext
  simp [ByteArray.data_extract]

theorem Sl.str {w : World} {A : Option Addr} {n : Nat} {ss : List Wd} (h : Sl w 1 A n (strCells ss)) {k : Nat} {s : Wd} (hs : ss[k]? = some s) : ∃ q o, A = some ⟨q, o, none⟩ ∧ w.cell? ⟨q, o + k, none⟩ = some (.string ⟨s.toArray⟩) := by
  have hk := (List.getElem?_eq_some_iff.1 hs).1
  have hl := h.1
  obtain ⟨q, o, rfl, hc⟩ := h.2.2 (by simp [strCells] at hl; omega)
  exact ⟨q, o, rfl, hc k _ (by rw [strCells, List.getElem?_map, hs]; rfl)⟩

theorem strCells_one' (ss : List Wd) : ∀ x ∈ strCells ss, x.oneCell' = true := by
  intro x hx
  simp only [strCells, List.mem_map] at hx
  obtain ⟨_, _, rfl⟩ := hx
  rfl

end Go.Proofs.YtgcaenckjelijaaDoor
