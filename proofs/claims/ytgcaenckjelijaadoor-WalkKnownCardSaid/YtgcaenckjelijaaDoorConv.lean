/-
  A row of bytes as a string. No conditions beyond those that each lemma names.
-/
import Derived.Test.YtgcaenckjelijaaDoorChecked
import Derived.Test.YtgcaenckjelijaaDoorSl
import Derived.Test.YtgcaenckjelijaaDoorDawgP
import Derived.Lib.Builder
import Derived.Laws.IdiomStrings
namespace Go.Proofs.YtgcaenckjelijaaDoor
open Go Go.RowKit

theorem conv_bytes (bs : Wd) (b n c : Nat) (w : World) (hl : bs.length = n) (h : ∀ j u, (Lib.byteCells bs)[j]? = some u → w.cell? ⟨b, j, none⟩ = some u) :
    (convert 54 9 (.slice (some ⟨b, 0, none⟩) n c)).run Tryd.prog w = .ok (.string ⟨bs.toArray⟩) w := by
  subst hl
  refine run_convert_bytes_back w 54 9 5 ⟨b, 0, none⟩ c bs Tryd.underlying54 Tryd.underlying5 Tryd.underlying9 (fun j hj => ?_)
  have e : (⟨b, 0, none⟩ : Addr).add j = ⟨b, j, none⟩ := by unfold Addr.add; split <;> simp_all
  rw [e]
  exact h j _ (by simp [Lib.byteCells, hj])
end Go.Proofs.YtgcaenckjelijaaDoor
