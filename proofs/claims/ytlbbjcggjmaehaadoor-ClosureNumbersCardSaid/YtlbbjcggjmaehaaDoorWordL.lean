/-
  Layer 00's Affix and List: texts of few lines, whatever the numbers. No conditions.
-/
import Derived.Test.YtlbbjcggjmaehaaDoorChecked
import Derived.Test.YtlbbjcggjmaehaaDoorHeap
import Derived.Test.YtlbbjcggjmaehaaDoorWd
import Derived.Test.YtlbbjcggjmaehaaDoorClP
import Derived.Deep.CutBlock
import Derived.Deep.QuietTactic
import Derived.Deep.MidRow
namespace Go.Proofs.YtlbbjcggjmaehaaDoor
open Go Go.RowKit

theorem tmod_cases (v n : Int) (h0 : 0 < n) : (v.tmod n < 0 ∧ v % n = v.tmod n + n ∧ -n < v.tmod n) ∨ (0 ≤ v.tmod n ∧ v % n = v.tmod n ∧ v.tmod n < n) := by
  rcases Int.le_total 0 v with h | h
  · right
    rw [Int.tmod_eq_emod_of_nonneg h]
    exact ⟨Int.emod_nonneg _ (by omega), rfl, Int.emod_lt_of_pos _ h0⟩
  · obtain ⟨u, rfl⟩ : ∃ u, v = -u := ⟨-v, by omega⟩
    have hu : 0 ≤ u := by omega
    rw [Int.neg_tmod, Int.tmod_eq_emod_of_nonneg hu]
    have h1 := Int.emod_nonneg u (show n ≠ 0 by omega)
    have h2 := Int.emod_lt_of_pos u h0
    have h3 := Int.mul_ediv_add_emod u n
    rcases Int.lt_or_eq_of_le h1 with h | h
    · left
      refine ⟨by omega, ?_, by omega⟩
      have : (-u) = (n - u % n) + n * (-(u / n) - 1) := by rw [Int.mul_sub, Int.mul_neg]; omega
      rw [this, Int.add_mul_emod_self_left, Int.emod_eq_of_lt (by omega) (by omega)]
      omega
    · right
      rw [← h]
      refine ⟨by omega, ?_, by omega⟩
      have : (-u) = 0 + n * (-(u / n)) := by rw [Int.mul_neg]; omega
      rw [this, Int.add_mul_emod_self_left]; simp

set_option maxHeartbeats 400000 in
theorem place_any (v n : Int) (w : World) (h0 : 0 < n) (hn : n ≤ 1152921504606846976) :
    Calls Tryd.prog 19 #[.int .i64 v, .int .i64 n] w fun e w' => e = .returned (.int .i64 (v % n)) ∧ w = w' := by
  have hc := tmod_cases v n h0
  have hz : (n == 0) = false := by rw [beq_eq_false_iff_ne]; omega
  generalize hr : v % n = r at hc ⊢
  have HR := Lib.hid hr
  clear hr
  rcases hc with ⟨h1, h2, h3⟩ | ⟨h1, h2, h3⟩
  · have H2 := Lib.hid h2
    clear h2
    go_enter Tryd.func19, Tryd.ntmps19
    go_wp2_with fail
    go_ret
    rw [H2.out]
    exact ⟨rfl, rfl⟩
  · have H2 := Lib.hid h2
    clear h2
    go_enter Tryd.func19, Tryd.ntmps19
    go_wp2_with fail
    go_ret
    rw [H2.out]
    exact ⟨rfl, rfl⟩
end Go.Proofs.YtlbbjcggjmaehaaDoor

namespace Go.Proofs.YtlbbjcggjmaehaaDoor
open Go Go.RowKit

/-- The words that numbers are made of. -/
def wordsL : List (List UInt8) := [[99, 97, 116], [100, 111, 103], [99, 105, 116, 121], [100, 111], [100, 111, 110, 101], [80, 97, 114, 105, 115], [105, 116, 39, 115], [104, 111, 112, 101], [109, 97, 107, 101], [116, 97, 112], [116, 111, 112], [116, 111, 112, 115], [116, 97, 112, 115], [98, 101], [195, 150, 108], [195, 182, 100, 101], [78, 65, 84, 79], [97], [114, 117, 110], [114, 117, 110, 115], [116, 114, 121], [116, 114, 105, 101, 115], [104, 111, 117, 115, 101], [109, 111, 117, 115, 101]]

def wordsA : Array Value := (wordsL.map fun s => Value.string ⟨s.toArray⟩).toArray

theorem wordsA_one : wordsA.all (·.oneCell') = true := all_oneCell_toArray (by
  intro v hv
  obtain ⟨x, _, rfl⟩ := List.mem_map.1 hv
  rfl)
theorem wordsA_size : wordsA.size = 24 := by decide

theorem results_cellA {fn : Func} {p : Tmp} {ty : TypeId} (h : fn.results = #[.cell p ty]) {tmps : Array Value} {P : Program} {w : World} {a : Addr} {v : Value} (hp : tmps.getD p undef = .pointer (some a)) (hv : (loadVar ty a).run P w = .ok v w) : (results fn tmps).run P w = .ok v w := by
  have hp' : tmps[p]?.getD undef = .pointer (some a) := by rw [← hp]; simp [Array.getD_eq_getD_getElem?]
  simp only [results, h]
  simp [hp', asAddr, hv]

theorem grownBy_setCells {a : World} {r : Option Nat} {k : Nat} (hk : r = some k ∨ a.heap.size ≤ k) : ∀ (vs : List Value) (o : Nat) (b : World), a.grownBy b r → a.grownBy (b.setCells k o vs) r
  | [], _, _, h => h
  | v :: vs, o, _, h => grownBy_setCells hk vs (o + 1) _ (grownBy_setCell h k o v hk)

set_option maxRecDepth 100000 in
set_option maxHeartbeats 1000000 in
theorem words00_walk (w : World) : Calls Tryd.prog 32 #[] w fun e w' => e = .returned (.agg wordsA) ∧ w.grownBy w' none := by
  go_enter Tryd.func32, Tryd.ntmps32
  refine wp_seq ?_
  refine wp_region_lit ?_
  refine wpList_plain rfl (fun K hK => ?_)
  go_simp
  refine hK _ _ ?_
  clear hK K
  refine wpList_nil ?_
  refine wp_seq ?_
  refine wp_region_lit ?_
  refine wpList_plain rfl (fun K hK => ?_)
  go_simp
  refine hK _ _ ?_
  clear hK K
  generalize hz : (Obj.cells _ 76 : Obj) = zb
  have hth : (w.alloc zb).there w.heap.size 0 wordsA.size := by
    intro j hj
    rw [wordsA_size] at hj
    have hh := heap_alloc_new w zb
    rw [← hz] at hh ⊢
    rw [cell_of_heap hh, frozen_of_heap hh]
    refine ⟨?_, rfl⟩
    rw [Nat.zero_add]
    exact Option.isSome_iff_exists.2 ⟨_, Array.getElem?_eq_getElem (by exact hj)⟩
  refine wpList_store_mid rfl _ _ _ rfl w.heap.size 0 wordsA rfl rfl hth (by rw [wordsA_size]; kernel_rfl) wordsA_one ?_
  refine wpList_nil ?_
  refine wp_ret ?_
  refine bodyPost_ret (results_cellA rfl rfl (run_loadVar_mid _ w.heap.size 0 _ wordsA.toList _ (World.rangeAt_setCells_same _ _ _ _ hth) Tryd.underlying76 rfl (by kernel_rfl))) rfl ?_
  exact ⟨rfl, grownBy_setCells (.inr (Nat.le_refl _)) _ _ _ (World.grownBy_alloc w zb none)⟩
theorem words_short : ∀ s ∈ wordsL, 1 ≤ s.length ∧ s.length ≤ 5 := by decide +kernel

theorem wordsA_get {j : Nat} {s : Wd} (h : wordsL[j]? = some s) : wordsA[j]? = some (.string ⟨s.toArray⟩) := by
  unfold wordsA; simp [h]

theorem arr_string : (Tryd.prog.info? 9).map (·.size) = some 1 := by kernel_rfl

theorem word_index {j : Nat} {s : Wd} (h : wordsL[j]? = some s) (u : World) : (Instr.index 76 (.agg wordsA) (.int .i64 j)).run Tryd.prog u = .ok (.string ⟨s.toArray⟩) u := by
  have h1 := wordsA_get h
  have h2 : j < 24 := by have := (List.getElem?_eq_some_iff.1 h).1; exact this
  have h3 := Tryd.underlying76
  unfold Instr.index
  simp [h3, asIntOf, h2, part, h1]


/-- How many lines end in a text. -/
def cnt (S : ByteArray) : Nat := S.data.toList.count 10

theorem cnt_append (a b : ByteArray) : cnt (a ++ b) = cnt a + cnt b := by unfold cnt; rw [ByteArray.data_append, Array.toList_append, List.count_append]

/-- A text of few lines. -/
def FewRes (k L : Nat) (w : World) (e : Ending) (w' : World) : Prop := ∃ s : Wd, e = .returned (.string ⟨s.toArray⟩) ∧ s.count 10 ≤ k ∧ s.length ≤ L ∧ w.grownBy w' none

theorem FewRes.of {k L : Nat} {w w' : World} {S : ByteArray} (h1 : cnt S ≤ k) (h2 : S.size ≤ L) (hg : w.grownBy w' none) : FewRes k L w (.returned (.string S)) w' :=
  ⟨S.data.toList, by rw [Array.toArray_toList], h1, by rw [Array.length_toList]; exact h2, hg⟩

/-- The flags that lists are made of. -/
def flagsL : List Wd := [[83], [85], [83, 85], [68], [82, 83], [84]]

theorem flag_index {j : Nat} (h : j < 6) : ∃ X : ByteArray, cnt X = 0 ∧ X.size ≤ 2 ∧ ∀ u : World, (Instr.index 78 (.agg #[.string ⟨#[83]⟩, .string ⟨#[85]⟩, .string ⟨#[83, 85]⟩, .string ⟨#[68]⟩, .string ⟨#[82, 83]⟩, .string ⟨#[84]⟩]) (.int .i64 (j : Int))).run Tryd.prog u = .ok (.string X) u := by
  have h3 := Tryd.underlying78
  rcases (show j = 0 ∨ j = 1 ∨ j = 2 ∨ j = 3 ∨ j = 4 ∨ j = 5 by omega) with rfl | rfl | rfl | rfl | rfl | rfl
  · exact ⟨⟨#[83]⟩, by decide, by decide, fun u => by unfold Instr.index; simp [h3, asIntOf, part]⟩
  · exact ⟨⟨#[85]⟩, by decide, by decide, fun u => by unfold Instr.index; simp [h3, asIntOf, part]⟩
  · exact ⟨⟨#[83, 85]⟩, by decide, by decide, fun u => by unfold Instr.index; simp [h3, asIntOf, part]⟩
  · exact ⟨⟨#[68]⟩, by decide, by decide, fun u => by unfold Instr.index; simp [h3, asIntOf, part]⟩
  · exact ⟨⟨#[82, 83]⟩, by decide, by decide, fun u => by unfold Instr.index; simp [h3, asIntOf, part]⟩
  · exact ⟨⟨#[84]⟩, by decide, by decide, fun u => by unfold Instr.index; simp [h3, asIntOf, part]⟩

theorem words_few : ∀ s ∈ wordsL, cnt ⟨s.toArray⟩ = 0 ∧ (⟨s.toArray⟩ : ByteArray).size ≤ 5 := by decide +kernel

def ListRel (wp : World) (n : Nat) (sv iv : Value) (wr : World) : Prop :=
  ∃ (i : Nat) (S : ByteArray), i ≤ n ∧ i ≤ 30 ∧ iv = .int .i64 (i : Int) ∧ sv = .string S ∧ cnt S ≤ i ∧ S.size ≤ 10 * i ∧ wr = wp

set_option maxRecDepth 100000 in
set_option maxHeartbeats 2000000 in
theorem list_walk (zs : List Int) (A : Option Addr) (n ca : Nat) (w : World) (hn : zs.length = n) (hA : Sl w 1 A n (intCells zs)) : Calls Tryd.prog 16 #[.slice A n ca] w (FewRes 30 1000 w) := by
  go_enter Tryd.func16, Tryd.ntmps16
  go_upto_region 2 with (fail)
  refine wp_region_lit ?_
  refine wpList_plain rfl (fun K hK => ?_)
  go_simp
  refine (words00_walk w).mono ?_
  rintro e w1 ⟨rfl, hg1⟩
  refine hK _ _ ?_
  clear hK K
  refine wpList_plain rfl (fun K hK => ?_)
  go_simp
  refine hK _ _ ?_
  clear hK K
  generalize hz : (Obj.cells _ 76 : Obj) = zb
  have hth : (w1.alloc zb).there w1.heap.size 0 wordsA.size := by
    intro j hj
    rw [wordsA_size] at hj
    have hh := heap_alloc_new w1 zb
    rw [← hz] at hh ⊢
    rw [cell_of_heap hh, frozen_of_heap hh]
    refine ⟨?_, rfl⟩
    rw [Nat.zero_add]
    exact Option.isSome_iff_exists.2 ⟨_, Array.getElem?_eq_getElem (by exact hj)⟩
  refine wpList_store_mid rfl _ _ _ rfl w1.heap.size 0 wordsA rfl rfl hth (by rw [wordsA_size]; kernel_rfl) wordsA_one ?_
  refine wpList_nil ?_
  have hra := World.rangeAt_setCells_same _ _ _ _ hth
  have hgw : w.grownBy ((w1.alloc zb).setCells w1.heap.size 0 wordsA.toList) none := grownBy_setCells (.inr hg1.size) _ _ _ (grownBy_trans hg1 (World.grownBy_alloc w1 zb none) nofun)
  obtain ⟨wp, hwp⟩ : ∃ wp, (w1.alloc zb).setCells w1.heap.size 0 wordsA.toList = wp := ⟨_, rfl⟩
  rw [hwp] at hra hgw ⊢
  clear hwp hth hz
  obtain ⟨P, hP⟩ : ∃ P, w1.heap.size = P := ⟨_, rfl⟩
  rw [hP] at hra ⊢
  clear hP
  have HRA := Lib.hid hra
  have HGW := Lib.hid hgw
  have HA := Lib.hid (hA.kept hgw nofun)
  have HN := Lib.hid hn
  clear hra hgw hA hn hg1
  go_wp2_with fail
  go_loopw [3, 5] (fun sv iv wr => ListRel wp n sv iv wr) (fun _ iv _ => 30 - (RowKit.intOf iv).toNat)
  case atStart => exact ⟨0, ⟨#[]⟩, Nat.zero_le _, by omega, rfl, rfl, by decide, by decide, by first | rfl | trivial⟩
  case round =>
    obtain ⟨i, S, hin, hi30, rfl, rfl, hcS, hsS, ewr⟩ := hrel
    subst ewr
    have HCS := Lib.hid hcS
    have HSS := Lib.hid hsS
    clear hcS hsS
    by_cases hgo : i < n ∧ i < 30
    · obtain ⟨h1, h2⟩ := hgo
      have h1i : (i : Int) < (n : Int) := by omega
      have h2i : (i : Int) < 30 := by omega
      obtain ⟨q, o, eA, hc⟩ := int_cell HA.out HN.out (by omega)
      subst eA
      have hcx := hc i h1
      clear hc
      obtain ⟨v, hv⟩ : ∃ x, zs.getD i 0 = x := ⟨_, rfl⟩
      rw [hv] at hcx
      clear hv
      go_wp2_with fail
      refine (place_any v 1048576 _ (by omega) (by omega)).mono ?_
      rintro e u ⟨rfl, eu⟩
      have eu := eu.symm
      subst eu
      obtain ⟨k, hk⟩ : ∃ k : Nat, v % 1048576 = k := ⟨(v % 1048576).toNat, by omega⟩
      rw [hk]
      have hk2 : k < 1048576 := by omega
      clear hk hcx
      obtain ⟨s, hs⟩ : ∃ s, wordsL[k % 24]? = some s := ⟨_, List.getElem?_eq_getElem (by have : wordsL.length = 24 := rfl; omega)⟩
      have hwl : wordsA.toList = wordsL.map fun s => Value.string ⟨s.toArray⟩ := by unfold wordsA; rfl
      have hcw := HRA.out (k % 24) (.string ⟨s.toArray⟩) (by rw [hwl, List.getElem?_map, hs]; rfl)
      rw [Nat.zero_add] at hcw
      obtain ⟨hw1, hw2⟩ := words_few s (List.mem_of_getElem? hs)
      obtain ⟨X, hX⟩ : ∃ X : ByteArray, (⟨s.toArray⟩ : ByteArray) = X := ⟨_, rfl⟩
      rw [hX] at hcw hw1 hw2
      clear hX hs hwl
      obtain ⟨F, hF1, hF2, hF⟩ := flag_index (j := k / 72 % 6) (by omega)
      have hix : ∀ u : World, (Instr.index 78 (.agg #[.string ⟨#[83]⟩, .string ⟨#[85]⟩, .string ⟨#[83, 85]⟩, .string ⟨#[68]⟩, .string ⟨#[82, 83]⟩, .string ⟨#[84]⟩]) (.int .i64 ((k : Int) / 72 % 6))).run Tryd.prog u = .ok (.string F) u := fun u => by
        rw [show (k : Int) / 72 % 6 = ((k / 72 % 6 : Nat) : Int) by omega]; exact hF u
      clear hF
      obtain ⟨e3, he3⟩ : ∃ x, decide (0 < k / 24 % 3) = x := ⟨_, rfl⟩
      have he3' : decide ((0 : Int) < (k : Int) / 24 % 3) = e3 := by rw [← he3]; exact decide_eq_decide.2 (by omega)
      clear he3
      have HX := Lib.hid (And.intro hw1 hF1)
      have hss := HSS.out
      have hss2 : S.size ≤ 300 := by omega
      clear hw1 hF1
      cases e3
      · go_wp2_with fail
        go_roundw
        case rel =>
          have h3 := HX.out
          have h4 := HCS.out
          refine ⟨i + 1, _, by omega, by omega, by go_num, rfl, ?_, ?_, by first | rfl | trivial⟩
          · simp only [cnt_append, h3.1, h3.2]; have e1 : cnt ⟨#[10]⟩ = 1 := by decide
            have e2 : cnt ⟨#[47]⟩ = 0 := by decide
            omega
          · simp only [ByteArray.size_append]; have e1 : (⟨#[10]⟩ : ByteArray).size = 1 := by decide
            have e2 : (⟨#[47]⟩ : ByteArray).size = 1 := by decide
            omega
        case measure => simp [RowKit.intOf]; omega
      · go_wp2_with fail
        go_roundw
        case rel =>
          have h3 := HX.out
          have h4 := HCS.out
          refine ⟨i + 1, _, by omega, by omega, by go_num, rfl, ?_, ?_, by first | rfl | trivial⟩
          · simp only [cnt_append, h3.1, h3.2]; have e1 : cnt ⟨#[10]⟩ = 1 := by decide
            have e2 : cnt ⟨#[47]⟩ = 0 := by decide
            omega
          · simp only [ByteArray.size_append]; have e1 : (⟨#[10]⟩ : ByteArray).size = 1 := by decide
            have e2 : (⟨#[47]⟩ : ByteArray).size = 1 := by decide
            omega
        case measure => simp [RowKit.intOf]; omega
    · go_upto_region 4 with (fail)
      go_cut [15] (fun v wx => v = .bool false ∧ wx = wr)
      case first =>
        rcases Nat.lt_or_ge i n with h1 | h1
        · have h2 : ¬ (i : Int) < 30 := by omega
          have h1i : (i : Int) < (n : Int) := by omega
          go_wp2_with fail
          go_meet
          exact ⟨by first | rfl | trivial, rfl⟩
        · have h1i : ¬ (i : Int) < (n : Int) := by omega
          go_wp2_with fail
          go_meet
          exact ⟨by first | rfl | trivial, rfl⟩
      case rest =>
        obtain ⟨rfl, ewc⟩ := hcut
        have ewc := ewc.symm
        subst ewc
        go_wp2_with fail
        go_ret
        exact FewRes.of (by have := HCS.out; omega) (by have := HSS.out; omega) HGW.out
end Go.Proofs.YtlbbjcggjmaehaaDoor
