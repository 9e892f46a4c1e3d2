/-
  Layer 00's Word: some short word, whatever the number: the list of words. No conditions.
-/
import Derived.Test.YtgcaenckjelijaaDoorPlace
import Derived.Test.YtgcaenckjelijaaDoorSl
import Derived.Deep.MidRow
import Derived.Test.YtgcaenckjelijaaDoorConv
import Derived.Deep.QuietTactic
import Derived.BigQuiet
import Derived.Deep.RegionLaw
import Derived.Lib.ConvBytes
import Derived.Test.YtgcaenckjelijaaDoorWalks
namespace Go.Proofs.YtgcaenckjelijaaDoor
open Go Go.RowKit

/-- The words that numbers are made of. -/
def wordsL : List (List UInt8) := [[99, 97, 116], [100, 111, 103], [99, 105, 116, 121], [100, 111], [100, 111, 110, 101], [80, 97, 114, 105, 115], [105, 116, 39, 115], [104, 111, 112, 101], [109, 97, 107, 101], [116, 97, 112], [116, 111, 112], [116, 111, 112, 115], [116, 97, 112, 115], [98, 101], [195, 150, 108], [195, 182, 100, 101], [78, 65, 84, 79], [97], [114, 117, 110], [114, 117, 110, 115], [116, 114, 121], [116, 114, 105, 101, 115], [104, 111, 117, 115, 101], [109, 111, 117, 115, 101]]

def wordsA : Array Value := (wordsL.map fun s => Value.string ⟨s.toArray⟩).toArray

theorem wordsA_one : wordsA.all (·.oneCell') = true := all_oneCell_toArray (by
  intro v hv
  obtain ⟨x, _, rfl⟩ := List.mem_map.1 hv
  rfl)
theorem wordsA_size : wordsA.size = 24 := by decide

theorem results_cellA {fn : Func} {p : Tmp} {ty : TypeId} (h : fn.results = #[.cell p ty]) {tmps : Array Value} {P : Program} {w : World} {a : Addr} {v : Value} (hp : tmps.getD p undef = .pointer (some a)) (hv : (loadVar ty a).run P w = .ok v w) : (results fn tmps).run P w = .ok v w := by
  have hp' : tmps[p]?.getD undef = .pointer (some a) := by rw [← hp]; simp [Array.getD_eq_getD_getElem?]
  simp only [results, h]
  simp [hp', asAddr, hv]

theorem grownBy_setCells {a : World} {r : Option Nat} {k : Nat} (hk : r = some k ∨ a.heap.size ≤ k) : ∀ (vs : List Value) (o : Nat) (b : World), a.grownBy b r → a.grownBy (b.setCells k o vs) r
  | [], _, _, h => h
  | v :: vs, o, _, h => grownBy_setCells hk vs (o + 1) _ (grownBy_setCell h k o v hk)

set_option maxRecDepth 100000 in
set_option maxHeartbeats 1000000 in
theorem words_walk (w : World) : Calls Tryd.prog 28 #[] w fun e w' => e = .returned (.agg wordsA) ∧ w.grownBy w' none := by
  go_enter Tryd.func28, Tryd.ntmps28
  refine wp_seq ?_
  refine wp_region_lit ?_
  refine wpList_plain rfl (fun K hK => ?_)
  go_simp
  refine hK _ _ ?_
  clear hK K
  refine wpList_nil ?_
  refine wp_seq ?_
  refine wp_region_lit ?_
  refine wpList_plain rfl (fun K hK => ?_)
  go_simp
  refine hK _ _ ?_
  clear hK K
  generalize hz : (Obj.cells _ 62 : Obj) = zb
  have hth : (w.alloc zb).there w.heap.size 0 wordsA.size := by
    intro j hj
    rw [wordsA_size] at hj
    have hh := heap_alloc_new w zb
    rw [← hz] at hh ⊢
    rw [cell_of_heap hh, frozen_of_heap hh]
    refine ⟨?_, rfl⟩
    rw [Nat.zero_add]
    exact Option.isSome_iff_exists.2 ⟨_, Array.getElem?_eq_getElem (by exact hj)⟩
  refine wpList_store_mid rfl _ _ _ rfl w.heap.size 0 wordsA rfl rfl hth (by rw [wordsA_size]; kernel_rfl) wordsA_one ?_
  refine wpList_nil ?_
  refine wp_ret ?_
  refine bodyPost_ret (results_cellA rfl rfl (run_loadVar_mid _ w.heap.size 0 _ wordsA.toList _ (World.rangeAt_setCells_same _ _ _ _ hth) Tryd.underlying62 rfl (by kernel_rfl))) rfl ?_
  exact ⟨rfl, grownBy_setCells (.inr (Nat.le_refl _)) _ _ _ (World.grownBy_alloc w zb none)⟩
end Go.Proofs.YtgcaenckjelijaaDoor

namespace Go.Proofs.YtgcaenckjelijaaDoor
open Go Go.RowKit

def WordRes (w : World) (e : Ending) (w' : World) : Prop := ∃ s : Wd, e = .returned (.string ⟨s.toArray⟩) ∧ s.length ≤ 10 ∧ w.grownBy w' none

theorem WordRes.of {w w' : World} {b : ByteArray} (hb : b.size ≤ 10) (hg : w.grownBy w' none) : WordRes w (.returned (.string b)) w' :=
  ⟨b.data.toList, by rw [Array.toArray_toList], by rw [Array.length_toList]; exact hb, hg⟩

theorem words_short : ∀ s ∈ wordsL, 1 ≤ s.length ∧ s.length ≤ 5 := by decide +kernel

theorem wordsA_get {j : Nat} {s : Wd} (h : wordsL[j]? = some s) : wordsA[j]? = some (.string ⟨s.toArray⟩) := by
  unfold wordsA; simp [h]

theorem arr_string : (Tryd.prog.info? 9).map (·.size) = some 1 := by kernel_rfl

theorem word_index {j : Nat} {s : Wd} (h : wordsL[j]? = some s) (u : World) : (Instr.index 62 (.agg wordsA) (.int .i64 j)).run Tryd.prog u = .ok (.string ⟨s.toArray⟩) u := by
  have h1 := wordsA_get h
  have h2 : j < 24 := by have := (List.getElem?_eq_some_iff.1 h).1; exact this
  have h3 := Tryd.underlying62
  unfold Instr.index
  simp [h3, asIntOf, h2, part, h1]

theorem grownBy_bytesWorld (w : World) (e : TypeId) (s : ByteArray) : w.grownBy (Lib.bytesWorld w e s) none :=
  ⟨rfl, rfl, rfl, by rw [Lib.bytesWorld_size]; omega, fun i hi _ => Lib.bytesWorld_at_old w e s i hi⟩

/-- The bytes that lie in a row. -/
def bytesOf (c : Array Value) (L : Nat) : Wd := (c.toList.take L).map fun v => match v with | .int _ z => UInt8.ofNat z.toNat | _ => 0

theorem conv_row {u : World} {b L cap : Nat} {c : Array Value} {f : Nat × Nat} (hh : u.heap[b]? = some (.cells c 5 f)) (hc : ∀ t, t < L → ∃ z : Int, c[t]? = some (.int .u8 z) ∧ 0 ≤ z ∧ z ≤ 255) :
    (convert 54 9 (.slice (some ⟨b, 0, none⟩) L cap)).run Tryd.prog u = .ok (.string ⟨(bytesOf c L).toArray⟩) u := by
  have hlen : (bytesOf c L).length = L := by
    unfold bytesOf
    rw [List.length_map, List.length_take, Array.length_toList, Nat.min_eq_left]
    rcases Nat.lt_or_ge c.size L with h | h
    · obtain ⟨z, hz, _⟩ := hc c.size h
      simp at hz
    · exact h
  refine conv_bytes (bytesOf c L) b L cap u hlen (fun j v hv => ?_)
  have hj : j < L := by have := (List.getElem?_eq_some_iff.1 hv).1; simpa [Lib.byteCells, hlen] using this
  obtain ⟨z, hz, h0, h1⟩ := hc j hj
  rw [cell_of_heap hh, hz, ← hv]
  unfold Lib.byteCells bytesOf
  rw [List.getElem?_map, List.getElem?_map, List.getElem?_take_of_lt hj, Array.getElem?_toList, hz]
  simp
  omega

theorem bytesOf_length {c : Array Value} {L : Nat} (hc : L ≤ c.size) : (bytesOf c L).length = L := by
  unfold bytesOf
  rw [List.length_map, List.length_take, Array.length_toList, Nat.min_eq_left hc]

def UpRel (w : World) (b L m : Nat) (iv : Value) (wr : World) : Prop :=
  ∃ (i : Nat) (c : Array Value), i ≤ L ∧ iv = .int .i64 i ∧ w.grownBy wr none ∧ wr.heap[b]? = some (.cells c 5 (m, m + 1)) ∧ ∀ t, t < L → ∃ z : Int, c[t]? = some (.int .u8 z) ∧ 0 ≤ z ∧ z ≤ 255

set_option maxRecDepth 100000 in
set_option maxHeartbeats 1000000 in
theorem word_any (v : Int) (w : World) : Calls Tryd.prog 14 #[.int .i64 v] w (WordRes w) := by
  obtain ⟨k, hk⟩ : ∃ k : Nat, v % 16777216 = k := ⟨(v % 16777216).toNat, by omega⟩
  have hk2 : k < 16777216 := by omega
  obtain ⟨j, hj⟩ : ∃ j : Nat, k % 24 = j := ⟨_, rfl⟩
  have hj2 : j < 24 := by omega
  obtain ⟨s, hs⟩ : ∃ s, wordsL[j]? = some s := ⟨_, List.getElem?_eq_getElem (by exact hj2)⟩
  have hix : ∀ u, (Instr.index 62 (.agg wordsA) (.int .i64 ((k : Int) % 24))).run Tryd.prog u = .ok (.string ⟨s.toArray⟩) u := by
    intro u
    rw [show (k : Int) % 24 = (j : Int) by omega]
    exact word_index hs u
  obtain ⟨hs1, hs5⟩ := words_short s (List.mem_of_getElem? hs)
  obtain ⟨q, hq⟩ : ∃ q : Nat, k / 24 % 9 = q := ⟨_, rfl⟩
  have hq2 : q < 9 := by omega
  have HK := Lib.hid hk
  have HS := Lib.hid hs
  clear hk hs
  go_enter Tryd.func14, Tryd.ntmps14
  go_wp2_with fail
  refine (place_any v 16777216 w (by omega) (by omega)).mono ?_
  rintro e w' ⟨rfl, rfl⟩
  rw [HK.out]
  go_wp2_with fail
  refine (words_walk w).mono ?_
  rintro e w1 ⟨rfl, hg1⟩
  have hqq : (k : Int) / 24 % 9 = (q : Int) := by omega
  clear hq hj hj2
  have hl : (⟨s.toArray⟩ : ByteArray).size = s.length := by simp [ByteArray.size]
  obtain ⟨L, hL⟩ : ∃ L, s.length = L := ⟨_, rfl⟩
  rw [hL] at hl hs1 hs5
  clear hL
  obtain ⟨S, hS⟩ : ∃ S : ByteArray, (⟨s.toArray⟩ : ByteArray) = S := ⟨_, rfl⟩
  rw [hS] at hix hl
  have HG1 := Lib.hid hg1
  clear hg1 hS
  go_upto_region 4 with (fail)
  rcases (show q = 0 ∨ q = 1 ∨ q = 2 ∨ q = 3 ∨ q = 4 ∨ q = 5 ∨ q = 6 ∨ q = 7 ∨ q = 8 by omega) with rfl | rfl | rfl | rfl | rfl | rfl | rfl | rfl | rfl
  · go_wp2_with fail
    go_ret
    exact WordRes.of (by rw [ByteArray.size_append, hl]; exact Nat.le_trans (Nat.add_le_add_right hs5 _) (by decide)) HG1.out
  · go_wp2_with fail
    go_ret
    exact WordRes.of (by rw [ByteArray.size_append, hl]; exact Nat.le_trans (Nat.add_le_add_left hs5 _) (by decide)) HG1.out
  · rcases (show L = 1 ∨ 2 ≤ L by omega) with rfl | h2
    · go_wp2_with fail
      go_ret
      exact WordRes.of (by rw [hl]; decide) HG1.out
    · have h1 : (1 : Int) < (L : Int) := by omega
      go_wp2_with fail
      go_quiet (fail)
      go_wp2_with fail
      go_ret
      exact WordRes.of (by rw [ByteArray.size_append, ByteArray.size_append, ByteArray.size_extract, ByteArray.size_extract, ByteArray.size_extract, hl]; omega) (grownBy_drewN HG1.out _)
  · go_wp2_with fail
    go_ret
    exact WordRes.of (by rw [ByteArray.size_append, hl]; exact Nat.le_trans (Nat.add_le_add_right hs5 _) (by decide)) HG1.out
  · rcases (show L ≤ 2 ∨ 3 ≤ L by omega) with h2 | h2
    · have h1 : (L : Int) ≤ 2 := by omega
      go_wp2_with fail
      go_ret
      exact WordRes.of (by rw [hl]; omega) HG1.out
    · have h1 : (2 : Int) < (L : Int) := by omega
      go_wp2_with fail
      go_ret
      exact WordRes.of (by rw [ByteArray.size_extract, hl]; omega) HG1.out
  · have hcv := Lib.run_convert_string_bytes (P := Tryd.prog) w1 9 54 5 S Tryd.underlying9 Tryd.underlying54 Tryd.underlying5
    have hnew := Lib.bytesWorld_at_new w1 5 S
    have hgw := grownBy_bytesWorld w1 5 S
    obtain ⟨m, hm⟩ : ∃ m, (Lib.bytesCells w1 5 S).size = m := ⟨_, rfl⟩
    have hml : L ≤ m := by
      have hss : S.data.size = L := hl
      rw [← hm, Lib.bytesCells, Array.size_append, Array.size_map]; omega
    have hcs : ∀ t, t < L → ∃ z : Int, (Lib.bytesCells w1 5 S)[t]? = some (.int .u8 z) ∧ 0 ≤ z ∧ z ≤ 255 := by
      intro t ht
      have ht2 : t < S.data.size := by rw [← hl] at ht; exact ht
      refine ⟨(S.data[t]).toNat, ?_, by omega, by have := UInt8.toNat_lt (S.data[t]); omega⟩
      unfold Lib.bytesCells
      rw [Array.getElem?_append_left (by simpa using ht2), Array.getElem?_map, Array.getElem?_eq_getElem ht2]
      rfl
    rw [hm] at hnew
    rw [hl] at hcv
    generalize Lib.bytesWorld w1 5 S = w2 at hcv hnew hgw
    generalize grownCap w1 L 0 5 = cap at hcv
    generalize Lib.bytesCells w1 5 S = cs at hnew hm hcs
    have HNEW := Lib.hid hnew
    have HGW := Lib.hid (grownBy_trans HG1.out hgw nofun)
    have HCS := Lib.hid hcs
    have hw1 := HG1.out.size
    clear hnew hgw hcs hix
    go_wp2_with fail
    go_loopw [6] (fun iv wr => UpRel w w1.heap.size L m iv wr) (fun iv _ => L - (intOf iv).toNat)
    case atStart => exact ⟨0, cs, Nat.zero_le _, rfl, HGW.out, HNEW.out, HCS.out⟩
    case round =>
      obtain ⟨i, c, hi, rfl, hgr, hh, hz⟩ := hrel
      rcases Nat.lt_or_ge i L with hlt | hge
      · obtain ⟨z, hz1, hz2, hz3⟩ := hz i hlt
        have hc1 := cell_of_heap hh i
        rw [hz1] at hc1
        have hfr : wr.frozen? ⟨w1.heap.size, i, none⟩ = false := by simp [World.frozen?, hh]; omega
        have HGR := Lib.hid hgr
        have HH := Lib.hid hh
        have HZ := Lib.hid hz
        clear hgr hh hz hz1
        rcases (show z < 97 ∨ 97 ≤ z by omega) with h97 | h97
        · go_wp2_with fail
          go_roundw
          case rel => exact ⟨i + 1, c, by omega, by go_num, HGR.out, HH.out, HZ.out⟩
          case measure => simp [intOf]; omega
        · rcases (show 122 < z ∨ z ≤ 122 by omega) with h122 | h122
          · go_wp2_with fail
            go_roundw
            case rel => exact ⟨i + 1, c, by omega, by go_num, HGR.out, HH.out, HZ.out⟩
            case measure => simp [intOf]; omega
          · go_wp2_with fail
            go_roundw
            case rel =>
              refine ⟨i + 1, _, by omega, by go_num, grownBy_setCell HGR.out _ _ _ (.inr (by omega)), heap_setCell HH.out i _, fun t ht => ?_⟩
              obtain ⟨z', h1, h2, h3⟩ := HZ.out t ht
              rcases Nat.decEq t i with hne | rfl
              · rw [Array.getElem?_setIfInBounds_ne (by omega)]; exact ⟨z', h1, h2, h3⟩
              · rw [Array.getElem?_setIfInBounds_self, if_pos (Array.getElem?_eq_some_iff.1 h1).1]
                exact ⟨_, rfl, by omega, by omega⟩
            case measure => simp [intOf]; omega
      · obtain rfl : i = L := by omega
        have hcr := conv_row (cap := cap) hh hz
        have hbl : (bytesOf c i).length ≤ 10 := by
          unfold bytesOf
          rw [List.length_map, List.length_take]; omega
        have HGR := Lib.hid hgr
        clear hgr hh hz
        go_wp2_with fail
        go_ret
        exact ⟨_, rfl, hbl, HGR.out⟩
  · obtain ⟨b0, hb0⟩ : ∃ b0, S[0]? = some b0 := ⟨S[0]'(by omega), getElem?_pos S 0 (by omega)⟩
    have hx : ∀ h : 0 < S.size, S[0] = b0 := by
      intro h
      rw [getElem?_pos S 0 h] at hb0
      exact Option.some.inj hb0
    have hb9 := UInt8.toNat_lt b0
    go_upto_region 25 with (fail)
    rcases (show (b0.toNat : Int) < 97 ∨ (97 : Int) ≤ b0.toNat by omega) with h97 | h97
    · go_wp2_with fail
      go_ret
      exact WordRes.of (by rw [hl]; omega) HG1.out
    · rcases (show (122 : Int) < b0.toNat ∨ (b0.toNat : Int) ≤ 122 by omega) with h122 | h122
      · go_wp2_with fail
        go_ret
        exact WordRes.of (by rw [hl]; omega) HG1.out
      · have hwr : IntKind.u8.wrap ((b0.toNat : Int) - 32) = (b0.toNat : Int) - 32 := by rw [IntKind.wrap_u8]; omega
        have hwx := World.grownBy_alloc w1.drew (.cells #[.int .u8 ((b0.toNat : Int) - 32)] 5) none
        have hcv : (convert 54 9 (.slice (some ⟨w1.heap.size, 0, none⟩) 1 1)).run Tryd.prog (w1.alloc (.cells #[.int .u8 ((b0.toNat : Int) - 32)] 5)).drew = .ok (.string ⟨(bytesOf #[.int .u8 ((b0.toNat : Int) - 32)] 1).toArray⟩) (w1.alloc (.cells #[.int .u8 ((b0.toNat : Int) - 32)] 5)).drew :=
          conv_row (u := (w1.alloc (.cells #[.int .u8 ((b0.toNat : Int) - 32)] 5)).drew) (heap_alloc_new w1 (.cells #[.int .u8 ((b0.toNat : Int) - 32)] 5)) (fun t ht => by
            obtain rfl : t = 0 := by omega
            exact ⟨_, rfl, by omega, by omega⟩)
        obtain ⟨T, hT⟩ : ∃ T : ByteArray, (⟨(bytesOf #[.int .u8 ((b0.toNat : Int) - 32)] 1).toArray⟩ : ByteArray) = T := ⟨_, rfl⟩
        have hTs : T.size = 1 := by
          rw [← hT]
          exact bytesOf_length (by simp)
        rw [hT] at hcv
        clear hT
        go_wp2_with fail
        go_region
        go_wp2_with fail
        go_ret
        exact WordRes.of (by rw [ByteArray.size_append, ByteArray.size_extract, hTs, hl]; omega) (grownBy_drew (grownBy_alloc HG1.out _))
  · go_wp2_with fail
    go_ret
    exact WordRes.of (by rw [hl]; omega) HG1.out
  · go_wp2_with fail
    go_ret
    exact WordRes.of (by rw [hl]; omega) HG1.out
end Go.Proofs.YtgcaenckjelijaaDoor

namespace Go.Proofs.YtgcaenckjelijaaDoor
open Go Go.RowKit Go.Lib Go.Maps

theorem strCells_snoc (W : List Wd) (s : Wd) : strCells (W ++ [s]) = strCells W ++ [.string ⟨s.toArray⟩] := by
  rw [strCells, List.map_append]; rfl

def NumRel (w : World) (n : Nat) (lv iv : Value) (wr : World) : Prop :=
  ∃ (i : Nat) (W : List Wd) (A : Option Addr) (c : Nat), i ≤ n ∧ i ≤ 40 ∧ iv = .int .i64 (i : Int) ∧ lv = .slice A i c ∧ (∀ x ∈ W, x.length ≤ 20) ∧ W.length = i ∧ wr.ownsRow w.heap.size 9 1 (.slice A i c) i (strCells W) ∧ w.grownBy wr none

set_option maxRecDepth 100000 in
set_option maxHeartbeats 4000000 in
theorem numbers_walk (zs : List Int) (A : Option Addr) (n ca : Nat) (a1 a2 : Int) (w : World) (hn : zs.length = n) (hA : Sl w 1 A n (intCells zs))
    (hT : Lib.Utf8Tabs 0 1 w) : Calls Tryd.prog 5 #[.slice A n ca, .int .i64 a1, .int .i64 a2] w (TrueRes w) := by
  obtain ⟨i0, hi, hz0, hz1, hz2⟩ := info_parts str_info
  obtain ⟨m, hm⟩ : ∃ m : Nat, a2 % 4 = m := ⟨(a2 % 4).toNat, by omega⟩
  have HA := Lib.hid hA
  have HN := Lib.hid hn
  have HT := Lib.hid hT
  have HM := Lib.hid hm
  clear hA hn hT hm
  go_enter Tryd.func5, Tryd.ntmps5
  go_wp2_with fail
  go_loopw [7, 8] (fun lv iv wr => NumRel w n lv iv wr) (fun _ iv _ => 40 - (intOf iv).toNat)
  case atStart => exact ⟨0, [], none, 0, Nat.zero_le _, Nat.zero_le _, rfl, rfl, by simp, rfl, World.ownsRow_nil _ _ _ _, grownBy_refl _ _⟩
  case round =>
    obtain ⟨i, W, A', c', hi1, hi2, rfl, rfl, hw20, hwl, hown, hgr⟩ := hrel
    have HW20 := Lib.hid hw20
    have HWL := Lib.hid hwl
    have HOWN := Lib.hid hown
    have HGR := Lib.hid hgr
    clear hw20 hwl hown hgr
    go_upto_region 3 with (fail)
    go_cut [18] (fun v wx => v = .bool (decide (i < n ∧ i < 40)) ∧ wx = wr)
    case first =>
      rcases Nat.lt_or_ge i n with h1 | h1
      · rcases Nat.lt_or_ge i 40 with h2 | h2
        · have hd : decide (i < n ∧ i < 40) = true := decide_eq_true ⟨h1, h2⟩
          have h3 : (i : Int) < 40 := by omega
          go_wp2_with fail
          go_meet
          exact ⟨by simp [hd], rfl⟩
        · have hd : decide (i < n ∧ i < 40) = false := decide_eq_false (by omega)
          have h3 : (40 : Int) ≤ (i : Int) := by omega
          go_wp2_with fail
          go_meet
          exact ⟨by simp [hd]; omega, rfl⟩
      · have hd : decide (i < n ∧ i < 40) = false := decide_eq_false (by omega)
        go_wp2_with fail
        go_meet
        exact ⟨by simp [hd], rfl⟩
    case rest =>
      obtain ⟨rfl, rfl⟩ := hcut
      by_cases hgo : i < n ∧ i < 40
      · have hd : decide (i < n ∧ i < 40) = true := decide_eq_true hgo
        rw [hd]
        obtain ⟨q, o, rfl, hc⟩ := int_cell (HA.out.kept HGR.out nofun) HN.out (by omega)
        have hcx := hc i hgo.1
        obtain ⟨x, hx⟩ : ∃ x, zs.getD i 0 = x := ⟨_, rfl⟩
        rw [hx] at hcx
        have hlt : (i : Int) < (n : Int) := by omega
        have hlt0 := hgo.1
        have hlt2 := hgo.2
        clear hgo hd hc hx
        go_wp2_with fail
        refine (word_any x wc).mono ?_
        rintro e w1 ⟨s, rfl, hs10, hg1⟩
        have hal := World.grownBy_alloc w1 (.cells #[.string ⟨s.toArray⟩] 9) none
        have how2 := Lib.hid (ownsRow_kept (ownsRow_kept HOWN.out hg1 (own_none _)) hal (own_none _))
        have hsl := Lib.hid (Sl.of_own (World.ownsRow_lit (base := 0) (size := 1) (e := 9) w1 #[.string ⟨s.toArray⟩] 1 (Nat.zero_le _) (by decide) rfl) (by intro x hx; simp at hx; subst hx; rfl))
        have HAL := Lib.hid (grownBy_trans (grownBy_trans HGR.out hg1 nofun) hal nofun)
        have hbase := HAL.out.size
        clear hal hg1
        go_wp2_with (at_builtin; refine wpList_append_sl _ rfl (.tmp 21) (.tmp 27) 22 rfl w.heap.size 9 i0 _ 1 16 Tryd.underlying22 hi hz0 hz1 hz2 rfl (by decide) (.slice A' i c') i _ rfl how2.out (some ⟨w1.heap.size, 0, none⟩) 1 1 [.string ⟨s.toArray⟩] rfl hsl.out (by unfold maxLen; omega) (by omega) (by simp at hbase ⊢; omega) ?_)
        rintro v3 w3 ⟨hown3, hg3, hat3⟩
        obtain ⟨A3, c3, rfl⟩ := own_slice hown3
        have HO3 := Lib.hid hown3
        have hg3' : w.grownBy w3 none := grownBy_trans HAL.out hg3 (fun k hk => .inr (HOWN.out.lt k hk).1)
        have HG3 := Lib.hid hg3'
        clear hown3 hg3 hat3 hg3'
        go_wp2_with fail
        go_roundw
        case rel => exact ⟨i + 1, W ++ [s], A3, c3, by omega, by omega, by go_num, rfl, by intro x hx; rcases List.mem_append.1 hx with h | h; exact HW20.out x h; (simp at h; subst h; omega), by simp [HWL.out], by rw [strCells_snoc]; exact HO3.out, HG3.out⟩
        case measure => first | (simp [intOf]; done) | (simp [intOf]; omega)
      · have hd : decide (i < n ∧ i < 40) = false := decide_eq_false hgo
        rw [hd]
        have HW := Lib.hid (words_own (ss := W) HOWN.out (by omega))
        clear hd hgo
        go_wp2_with fail
        refine (word_any a1 wc).mono ?_
        rintro e w1 ⟨s, rfl, hs10, hg1⟩
        have HG1 := Lib.hid hg1
        have HGS := Lib.hid (grownBy_trans HGR.out hg1 nofun)
        clear hg1
        go_wp2_with fail
        refine (codes_walk s w1 (by omega)).mono ?_
        rintro e w2 ⟨hg2, hres⟩
        have HG2 := Lib.hid (grownBy_trans HG1.out hg2 nofun)
        have HGS2 := Lib.hid (grownBy_trans HGS.out hg2 nofun)
        clear hg2
        rcases hres with ⟨cs, C, cc, hcs, rfl, hownc⟩ | ⟨hcs, rfl⟩
        · have hcl := codesB_len hcs
          obtain ⟨_, hcc⟩ : True ∧ cs.length ≤ cc := ⟨trivial, by
            rcases hownc.2 with ⟨hv, h0⟩ | ⟨g, cap, cur, hv, _, _, h1, _⟩
            · omega
            · cases hv; exact h1⟩
          have HSC := Lib.hid (Sl.of_own hownc (fun x hx => by obtain ⟨d, _, rfl⟩ := List.mem_map.1 hx; rfl))
          clear hownc hcs
          go_wp2_with fail
          refine (place_any a2 4 w2 (by omega) (by omega)).mono ?_
          rintro e w3 ⟨rfl, rfl⟩
          rw [HM.out]
          have HW2 := Lib.hid (show WordsAt w2 (fun _ => False) A' i c' W from ⟨HW.out.1, HW.out.2.1, HW.out.2.2.1, HW.out.2.2.2.1.kept HG2.out nofun, fun _ h => h.elim⟩)
          go_wp2_with fail
          refine (walks_walk W A' C i cs.length c' cc cs (m : Int) w2 HW2.out (by omega) HW20.out rfl (by omega) hcc HSC.out (tabs_kept HT.out HGS2.out)).mono ?_
          rintro e w4 ⟨rfl, hg4⟩
          have HG4 := Lib.hid (grownBy_trans HGS2.out hg4 nofun)
          clear hg4
          go_wp2_with fail
          refine (awake18_walk w4 (tabs_kept HT.out HG4.out)).mono ?_
          rintro e w5 ⟨rfl, hg5⟩
          have HG5 := Lib.hid (grownBy_trans HG4.out hg5 nofun)
          clear hg5
          go_wp2_with fail
          go_ret
          exact ⟨rfl, HG5.out⟩
        · clear hcs
          go_wp2_with fail
          refine (awake18_walk w2 (tabs_kept HT.out HGS2.out)).mono ?_
          rintro e w4 ⟨rfl, hg4⟩
          have HG4 := Lib.hid (grownBy_trans HGS2.out hg4 nofun)
          clear hg4
          go_wp2_with fail
          go_ret
          exact ⟨rfl, HG4.out⟩
end Go.Proofs.YtgcaenckjelijaaDoor
