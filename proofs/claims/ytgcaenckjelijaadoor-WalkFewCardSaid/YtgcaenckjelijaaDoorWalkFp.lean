/-
  Layer 18's law WalkFew, its plain part: with codes that no word begins with few steps. Every number.
-/
import Derived.Test.YtgcaenckjelijaaDoorWalkY
namespace Go.Proofs.YtgcaenckjelijaaDoor
open Go Go.RowKit Go.Maps

def fewW1 (i : Nat) : Wd := UInt8.ofNat (97 + i) :: List.replicate 12 101
def fewWs (k : Nat) : List Wd := (List.range k).map fewW1
def onesC : List Int := [49, 49, 49, 49, 49, 49, 49, 49, 49, 49, 49, 49, 49]

theorem few_plain : ∀ k ∈ List.range 20, ∀ m ∈ List.range 4, ∀ r, buildS 201 (fewWs (k + 1)) [] = r →
    (walkS r.2 r.1 onesC m).l = [] ∧ (walkS r.2 r.1 onesC m).steps ≤ (k + 1) * (m + 1) ∧ (walkS r.2 r.1 [] m).l = [] ∧ (walkS r.2 r.1 [] m).steps ≤ 1000 := by
  have key : ∀ k ∈ List.range 20, ∀ m ∈ List.range 4, (walkS (buildS 201 (fewWs (k + 1)) []).2 (buildS 201 (fewWs (k + 1)) []).1 onesC m).l = [] ∧ (walkS (buildS 201 (fewWs (k + 1)) []).2 (buildS 201 (fewWs (k + 1)) []).1 onesC m).steps ≤ (k + 1) * (m + 1) ∧
      (walkS (buildS 201 (fewWs (k + 1)) []).2 (buildS 201 (fewWs (k + 1)) []).1 [] m).l = [] ∧ (walkS (buildS 201 (fewWs (k + 1)) []).2 (buildS 201 (fewWs (k + 1)) []).1 [] m).steps ≤ 1000 := by decide +kernel
  intro k hk m hm r hr
  have := key k hk m hm
  rw [hr] at this
  exact this

theorem few_rise : ∀ k ∈ List.range 20, Rise (fewWs (k + 1)) ∧ (∀ w ∈ fewWs (k + 1), w.length < 201) ∧ tooBig (fewWs (k + 1)) = false ∧ tot (fewWs (k + 1)) ≤ 1000 := by unfold Rise; decide +kernel

theorem few_str : ∀ k ∈ List.range 20, (((⟨#[97, 98, 99, 100, 101, 102, 103, 104, 105, 106, 107, 108, 109, 110, 111, 112, 113, 114, 115, 116, 117, 118, 119, 120, 121, 122]⟩ : ByteArray).extract k (k + 1) ++ (⟨#[101, 101, 101, 101, 101, 101, 101, 101, 101, 101, 101, 101]⟩ : ByteArray)).data = (fewW1 k).toArray) := by decide +kernel

theorem few_succ (k : Nat) : strCells (fewWs (k + 1)) = strCells (fewWs k) ++ [.string ⟨(fewW1 k).toArray⟩] := by
  rw [fewWs, List.range_succ, List.map_append, strCells, List.map_append]; rfl

theorem mostS_few {m : Nat} (h : m < 4) : mostS (m : Int) = m := by unfold mostS; omega
end Go.Proofs.YtgcaenckjelijaaDoor
