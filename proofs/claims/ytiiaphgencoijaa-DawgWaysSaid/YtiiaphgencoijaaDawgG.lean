/-
  Layer 15's law DawgBig: a word of as many bytes as may be, and of more; none at all: the walk. Every number.
-/
import Derived.Test.YtiiaphgencoijaaDawgA
import Derived.Test.YtiiaphgencoijaaHistL
namespace Go.Proofs.Ytiiaphgencoijaa
open Go Go.RowKit Go.Maps

theorem conv_bytes (bs : Wd) (b n c : Nat) (w : World) (hl : bs.length = n) (h : ∀ j u, (Lib.byteCells bs)[j]? = some u → w.cell? ⟨b, j, none⟩ = some u) :
    (convert 52 9 (.slice (some ⟨b, 0, none⟩) n c)).run Try.prog w = .ok (.string ⟨bs.toArray⟩) w := by
  subst hl
  refine run_convert_bytes_back w 52 9 5 ⟨b, 0, none⟩ c bs Try.underlying52 Try.underlying5 Try.underlying9 (fun j hj => ?_)
  have e : (⟨b, 0, none⟩ : Addr).add j = ⟨b, j, none⟩ := by unfold Addr.add; split <;> simp_all
  rw [e]
  exact h j _ (by simp [Lib.byteCells, hj])

def bigW (k : Nat) : List Wd := [List.replicate k 97, [98]]

theorem big_canon {k : Nat} (hk : 0 < k) : canon [[98], List.replicate k 97] = bigW k := by
  refine canon_of_rise ?_ (fun x => by simp [bigW, or_comm])
  obtain ⟨j, rfl⟩ : ∃ j, k = j + 1 := ⟨k - 1, by omega⟩
  refine List.pairwise_cons.2 ⟨fun x hx => ?_, by simp⟩
  simp at hx; subst hx
  rw [List.replicate_succ]
  exact lt_cons_iff.2 (.inl (by decide))

theorem big_long (k : Nat) : tooBig (bigW k) = decide (200 < k) := by
  simp [tooBig, bigW, isLong]

theorem big_build : ∀ k ∈ [198, 199, 200], (buildS 201 (bigW k) []).2.length = k + 1 ∧ runS (buildS 201 (bigW k) []).2 (buildS 201 (bigW k) []).1 (List.replicate k 97) = true ∧ runS (buildS 201 (bigW k) []).2 (buildS 201 (bigW k) []).1 (List.replicate (k - 1) 97) = false ∧ runS (buildS 201 (bigW k) []).2 (buildS 201 (bigW k) []).1 [98] = true := by decide +kernel

theorem none_canon : canon [] = [] := canon_of_rise (by simp [Rise]) (fun _ => Iff.rfl)
theorem none_build : buildS 201 [] [] = (0, [(false, [])]) := by decide +kernel
end Go.Proofs.Ytiiaphgencoijaa
