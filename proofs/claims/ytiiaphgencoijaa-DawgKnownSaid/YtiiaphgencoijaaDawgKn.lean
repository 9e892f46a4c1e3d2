/-
  Layer 15's law DawgKnown: the plain facts, reckoned. Numbers below 7.
-/
import Derived.Test.YtiiaphgencoijaaDawgI
import Derived.Test.YtiiaphgencoijaaDawgH
namespace Go.Proofs.Ytiiaphgencoijaa
open Go

set_option maxRecDepth 100000 in
theorem known_facts : ∀ k ∈ [0, 1, 2, 3, 4, 5, 6], ∀ u ∈ [false, true], tooBig (putAll (known k u)) = false ∧ (buildS 201 (putAll (known k u)) []).2.length = k + 1 ∧ runS (buildS 201 (putAll (known k u)) []).2 (buildS 201 (putAll (known k u)) []).1 [] = (u || decide (k = 0)) := by decide +kernel
end Go.Proofs.Ytiiaphgencoijaa
