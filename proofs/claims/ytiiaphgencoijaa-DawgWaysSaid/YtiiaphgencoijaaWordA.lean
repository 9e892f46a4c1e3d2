/-
  Layer 00's Word: some short word, whatever the number: the list of words. No conditions.
-/
import Derived.Test.YtiiaphgencoijaaPlace
import Derived.Test.YtiiaphgencoijaaSl
import Derived.Deep.MidRow
namespace Go.Proofs.Ytiiaphgencoijaa
open Go Go.RowKit

/-- The words that numbers are made of. -/
def wordsL : List (List UInt8) := [[99, 97, 116], [100, 111, 103], [99, 105, 116, 121], [100, 111], [100, 111, 110, 101], [80, 97, 114, 105, 115], [105, 116, 39, 115], [104, 111, 112, 101], [109, 97, 107, 101], [116, 97, 112], [116, 111, 112], [116, 111, 112, 115], [116, 97, 112, 115], [98, 101], [195, 150, 108], [195, 182, 100, 101], [78, 65, 84, 79], [97], [114, 117, 110], [114, 117, 110, 115], [116, 114, 121], [116, 114, 105, 101, 115], [104, 111, 117, 115, 101], [109, 111, 117, 115, 101]]

def wordsA : Array Value := (wordsL.map fun s => Value.string ⟨s.toArray⟩).toArray

theorem wordsA_one : wordsA.all (·.oneCell') = true := all_oneCell_toArray (by
  intro v hv
  obtain ⟨x, _, rfl⟩ := List.mem_map.1 hv
  rfl)
theorem wordsA_size : wordsA.size = 24 := by decide

theorem results_cellA {fn : Func} {p : Tmp} {ty : TypeId} (h : fn.results = #[.cell p ty]) {tmps : Array Value} {P : Program} {w : World} {a : Addr} {v : Value} (hp : tmps.getD p undef = .pointer (some a)) (hv : (loadVar ty a).run P w = .ok v w) : (results fn tmps).run P w = .ok v w := by
  have hp' : tmps[p]?.getD undef = .pointer (some a) := by rw [← hp]; simp [Array.getD_eq_getD_getElem?]
  simp only [results, h]
  simp [hp', asAddr, hv]

theorem grownBy_setCells {a : World} {r : Option Nat} {k : Nat} (hk : r = some k ∨ a.heap.size ≤ k) : ∀ (vs : List Value) (o : Nat) (b : World), a.grownBy b r → a.grownBy (b.setCells k o vs) r
  | [], _, _, h => h
  | v :: vs, o, _, h => grownBy_setCells hk vs (o + 1) _ (grownBy_setCell h k o v hk)

set_option maxRecDepth 100000 in
set_option maxHeartbeats 1000000 in
theorem words_walk (w : World) : Calls Try.prog 52 #[] w fun e w' => e = .returned (.agg wordsA) ∧ w.grownBy w' none := by
  go_enter Try.func52, Try.ntmps52
  refine wp_seq ?_
  refine wp_region_lit ?_
  refine wpList_plain rfl (fun K hK => ?_)
  go_simp
  refine hK _ _ ?_
  clear hK K
  refine wpList_nil ?_
  refine wp_seq ?_
  refine wp_region_lit ?_
  refine wpList_plain rfl (fun K hK => ?_)
  go_simp
  refine hK _ _ ?_
  clear hK K
  generalize hz : (Obj.cells _ 89 : Obj) = zb
  have hth : (w.alloc zb).there w.heap.size 0 wordsA.size := by
    intro j hj
    rw [wordsA_size] at hj
    have hh := heap_alloc_new w zb
    rw [← hz] at hh ⊢
    rw [cell_of_heap hh, frozen_of_heap hh]
    refine ⟨?_, rfl⟩
    rw [Nat.zero_add]
    exact Option.isSome_iff_exists.2 ⟨_, Array.getElem?_eq_getElem (by exact hj)⟩
  refine wpList_store_mid rfl _ _ _ rfl w.heap.size 0 wordsA rfl rfl hth (by rw [wordsA_size]; kernel_rfl) wordsA_one ?_
  refine wpList_nil ?_
  refine wp_ret ?_
  refine bodyPost_ret (results_cellA rfl rfl (run_loadVar_mid _ w.heap.size 0 _ wordsA.toList _ (World.rangeAt_setCells_same _ _ _ _ hth) Try.underlying89 rfl (by kernel_rfl))) rfl ?_
  exact ⟨rfl, grownBy_setCells (.inr (Nat.le_refl _)) _ _ _ (World.grownBy_alloc w zb none)⟩
end Go.Proofs.Ytiiaphgencoijaa
