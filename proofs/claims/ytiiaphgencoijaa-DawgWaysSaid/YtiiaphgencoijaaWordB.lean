/-
  Layer 00's Word: some short word, whatever the number. No conditions.
-/
import Derived.Test.YtiiaphgencoijaaWordA
import Derived.Test.YtiiaphgencoijaaDawgG
import Derived.Deep.QuietTactic
import Derived.BigQuiet
import Derived.Deep.RegionLaw
import Derived.Lib.ConvBytes
namespace Go.Proofs.Ytiiaphgencoijaa
open Go Go.RowKit Go.Maps

def WordRes (w : World) (e : Ending) (w' : World) : Prop := ∃ s : Wd, e = .returned (.string ⟨s.toArray⟩) ∧ s.length ≤ 10 ∧ w.grownBy w' none

theorem WordRes.of {w w' : World} {b : ByteArray} (hb : b.size ≤ 10) (hg : w.grownBy w' none) : WordRes w (.returned (.string b)) w' :=
  ⟨b.data.toList, by rw [Array.toArray_toList], by rw [Array.length_toList]; exact hb, hg⟩

theorem words_short : ∀ s ∈ wordsL, 1 ≤ s.length ∧ s.length ≤ 5 := by decide +kernel

theorem wordsA_get {j : Nat} {s : Wd} (h : wordsL[j]? = some s) : wordsA[j]? = some (.string ⟨s.toArray⟩) := by
  unfold wordsA; simp [h]

theorem arr_string : (Try.prog.info? 9).map (·.size) = some 1 := by kernel_rfl

theorem word_index {j : Nat} {s : Wd} (h : wordsL[j]? = some s) (u : World) : (Instr.index 89 (.agg wordsA) (.int .i64 j)).run Try.prog u = .ok (.string ⟨s.toArray⟩) u := by
  have h1 := wordsA_get h
  have h2 : j < 24 := by have := (List.getElem?_eq_some_iff.1 h).1; exact this
  have h3 := Try.underlying89
  unfold Instr.index
  simp [h3, asIntOf, h2, part, h1]

theorem grownBy_bytesWorld (w : World) (e : TypeId) (s : ByteArray) : w.grownBy (Lib.bytesWorld w e s) none :=
  ⟨rfl, rfl, rfl, by rw [Lib.bytesWorld_size]; omega, fun i hi _ => Lib.bytesWorld_at_old w e s i hi⟩

/-- The bytes that lie in a row. -/
def bytesOf (c : Array Value) (L : Nat) : Wd := (c.toList.take L).map fun v => match v with | .int _ z => UInt8.ofNat z.toNat | _ => 0

theorem conv_row {u : World} {b L cap : Nat} {c : Array Value} {f : Nat × Nat} (hh : u.heap[b]? = some (.cells c 5 f)) (hc : ∀ t, t < L → ∃ z : Int, c[t]? = some (.int .u8 z) ∧ 0 ≤ z ∧ z ≤ 255) :
    (convert 52 9 (.slice (some ⟨b, 0, none⟩) L cap)).run Try.prog u = .ok (.string ⟨(bytesOf c L).toArray⟩) u := by
  have hlen : (bytesOf c L).length = L := by
    unfold bytesOf
    rw [List.length_map, List.length_take, Array.length_toList, Nat.min_eq_left]
    rcases Nat.lt_or_ge c.size L with h | h
    · obtain ⟨z, hz, _⟩ := hc c.size h
      simp at hz
    · exact h
  refine conv_bytes (bytesOf c L) b L cap u hlen (fun j v hv => ?_)
  have hj : j < L := by have := (List.getElem?_eq_some_iff.1 hv).1; simpa [Lib.byteCells, hlen] using this
  obtain ⟨z, hz, h0, h1⟩ := hc j hj
  rw [cell_of_heap hh, hz, ← hv]
  unfold Lib.byteCells bytesOf
  rw [List.getElem?_map, List.getElem?_map, List.getElem?_take_of_lt hj, Array.getElem?_toList, hz]
  simp
  omega

theorem bytesOf_length {c : Array Value} {L : Nat} (hc : L ≤ c.size) : (bytesOf c L).length = L := by
  unfold bytesOf
  rw [List.length_map, List.length_take, Array.length_toList, Nat.min_eq_left hc]

def UpRel (w : World) (b L m : Nat) (iv : Value) (wr : World) : Prop :=
  ∃ (i : Nat) (c : Array Value), i ≤ L ∧ iv = .int .i64 i ∧ w.grownBy wr none ∧ wr.heap[b]? = some (.cells c 5 (m, m + 1)) ∧ ∀ t, t < L → ∃ z : Int, c[t]? = some (.int .u8 z) ∧ 0 ≤ z ∧ z ≤ 255

set_option maxRecDepth 100000 in
set_option maxHeartbeats 1000000 in
theorem word_any (v : Int) (w : World) : Calls Try.prog 36 #[.int .i64 v] w (WordRes w) := by
  obtain ⟨k, hk⟩ : ∃ k : Nat, v % 16777216 = k := ⟨(v % 16777216).toNat, by omega⟩
  have hk2 : k < 16777216 := by omega
  obtain ⟨j, hj⟩ : ∃ j : Nat, k % 24 = j := ⟨_, rfl⟩
  have hj2 : j < 24 := by omega
  obtain ⟨s, hs⟩ : ∃ s, wordsL[j]? = some s := ⟨_, List.getElem?_eq_getElem (by exact hj2)⟩
  have hix : ∀ u, (Instr.index 89 (.agg wordsA) (.int .i64 ((k : Int) % 24))).run Try.prog u = .ok (.string ⟨s.toArray⟩) u := by
    intro u
    rw [show (k : Int) % 24 = (j : Int) by omega]
    exact word_index hs u
  obtain ⟨hs1, hs5⟩ := words_short s (List.mem_of_getElem? hs)
  obtain ⟨q, hq⟩ : ∃ q : Nat, k / 24 % 9 = q := ⟨_, rfl⟩
  have hq2 : q < 9 := by omega
  have HK := Lib.hid hk
  have HS := Lib.hid hs
  clear hk hs
  go_enter Try.func36, Try.ntmps36
  go_wp2_with fail
  refine (place_any v 16777216 w (by omega) (by omega)).mono ?_
  rintro e w' ⟨rfl, rfl⟩
  rw [HK.out]
  go_wp2_with fail
  refine (words_walk w).mono ?_
  rintro e w1 ⟨rfl, hg1⟩
  have hqq : (k : Int) / 24 % 9 = (q : Int) := by omega
  clear hq hj hj2
  have hl : (⟨s.toArray⟩ : ByteArray).size = s.length := by simp [ByteArray.size]
  obtain ⟨L, hL⟩ : ∃ L, s.length = L := ⟨_, rfl⟩
  rw [hL] at hl hs1 hs5
  clear hL
  obtain ⟨S, hS⟩ : ∃ S : ByteArray, (⟨s.toArray⟩ : ByteArray) = S := ⟨_, rfl⟩
  rw [hS] at hix hl
  have HG1 := Lib.hid hg1
  clear hg1 hS
  go_upto_region 4 with (fail)
  rcases (show q = 0 ∨ q = 1 ∨ q = 2 ∨ q = 3 ∨ q = 4 ∨ q = 5 ∨ q = 6 ∨ q = 7 ∨ q = 8 by omega) with rfl | rfl | rfl | rfl | rfl | rfl | rfl | rfl | rfl
  · go_wp2_with fail
    go_ret
    exact WordRes.of (by rw [ByteArray.size_append, hl]; exact Nat.le_trans (Nat.add_le_add_right hs5 _) (by decide)) HG1.out
  · go_wp2_with fail
    go_ret
    exact WordRes.of (by rw [ByteArray.size_append, hl]; exact Nat.le_trans (Nat.add_le_add_left hs5 _) (by decide)) HG1.out
  · rcases (show L = 1 ∨ 2 ≤ L by omega) with rfl | h2
    · go_wp2_with fail
      go_ret
      exact WordRes.of (by rw [hl]; decide) HG1.out
    · have h1 : (1 : Int) < (L : Int) := by omega
      go_wp2_with fail
      go_quiet (fail)
      go_wp2_with fail
      go_ret
      exact WordRes.of (by rw [ByteArray.size_append, ByteArray.size_append, ByteArray.size_extract, ByteArray.size_extract, ByteArray.size_extract, hl]; omega) (grownBy_drewN HG1.out _)
  · go_wp2_with fail
    go_ret
    exact WordRes.of (by rw [ByteArray.size_append, hl]; exact Nat.le_trans (Nat.add_le_add_right hs5 _) (by decide)) HG1.out
  · rcases (show L ≤ 2 ∨ 3 ≤ L by omega) with h2 | h2
    · have h1 : (L : Int) ≤ 2 := by omega
      go_wp2_with fail
      go_ret
      exact WordRes.of (by rw [hl]; omega) HG1.out
    · have h1 : (2 : Int) < (L : Int) := by omega
      go_wp2_with fail
      go_ret
      exact WordRes.of (by rw [ByteArray.size_extract, hl]; omega) HG1.out
  · have hcv := Lib.run_convert_string_bytes (P := Try.prog) w1 9 52 5 S Try.underlying9 Try.underlying52 Try.underlying5
    have hnew := Lib.bytesWorld_at_new w1 5 S
    have hgw := grownBy_bytesWorld w1 5 S
    obtain ⟨m, hm⟩ : ∃ m, (Lib.bytesCells w1 5 S).size = m := ⟨_, rfl⟩
    have hml : L ≤ m := by
      have hss : S.data.size = L := hl
      rw [← hm, Lib.bytesCells, Array.size_append, Array.size_map]; omega
    have hcs : ∀ t, t < L → ∃ z : Int, (Lib.bytesCells w1 5 S)[t]? = some (.int .u8 z) ∧ 0 ≤ z ∧ z ≤ 255 := by
      intro t ht
      have ht2 : t < S.data.size := by rw [← hl] at ht; exact ht
      refine ⟨(S.data[t]).toNat, ?_, by omega, by have := UInt8.toNat_lt (S.data[t]); omega⟩
      unfold Lib.bytesCells
      rw [Array.getElem?_append_left (by simpa using ht2), Array.getElem?_map, Array.getElem?_eq_getElem ht2]
      rfl
    rw [hm] at hnew
    rw [hl] at hcv
    generalize Lib.bytesWorld w1 5 S = w2 at hcv hnew hgw
    generalize grownCap w1 L 0 5 = cap at hcv
    generalize Lib.bytesCells w1 5 S = cs at hnew hm hcs
    have HNEW := Lib.hid hnew
    have HGW := Lib.hid (grownBy_trans HG1.out hgw nofun)
    have HCS := Lib.hid hcs
    have hw1 := HG1.out.size
    clear hnew hgw hcs hix
    go_wp2_with fail
    go_loopw [6] (fun iv wr => UpRel w w1.heap.size L m iv wr) (fun iv _ => L - (intOf iv).toNat)
    case atStart => exact ⟨0, cs, Nat.zero_le _, rfl, HGW.out, HNEW.out, HCS.out⟩
    case round =>
      obtain ⟨i, c, hi, rfl, hgr, hh, hz⟩ := hrel
      rcases Nat.lt_or_ge i L with hlt | hge
      · obtain ⟨z, hz1, hz2, hz3⟩ := hz i hlt
        have hc1 := cell_of_heap hh i
        rw [hz1] at hc1
        have hfr : wr.frozen? ⟨w1.heap.size, i, none⟩ = false := by simp [World.frozen?, hh]; omega
        have HGR := Lib.hid hgr
        have HH := Lib.hid hh
        have HZ := Lib.hid hz
        clear hgr hh hz hz1
        rcases (show z < 97 ∨ 97 ≤ z by omega) with h97 | h97
        · go_wp2_with fail
          go_roundw
          case rel => exact ⟨i + 1, c, by omega, by go_num, HGR.out, HH.out, HZ.out⟩
          case measure => simp [intOf]; omega
        · rcases (show 122 < z ∨ z ≤ 122 by omega) with h122 | h122
          · go_wp2_with fail
            go_roundw
            case rel => exact ⟨i + 1, c, by omega, by go_num, HGR.out, HH.out, HZ.out⟩
            case measure => simp [intOf]; omega
          · go_wp2_with fail
            go_roundw
            case rel =>
              refine ⟨i + 1, _, by omega, by go_num, grownBy_setCell HGR.out _ _ _ (.inr (by omega)), heap_setCell HH.out i _, fun t ht => ?_⟩
              obtain ⟨z', h1, h2, h3⟩ := HZ.out t ht
              rcases Nat.decEq t i with hne | rfl
              · rw [Array.getElem?_setIfInBounds_ne (by omega)]; exact ⟨z', h1, h2, h3⟩
              · rw [Array.getElem?_setIfInBounds_self, if_pos (Array.getElem?_eq_some_iff.1 h1).1]
                exact ⟨_, rfl, by omega, by omega⟩
            case measure => simp [intOf]; omega
      · obtain rfl : i = L := by omega
        have hcr := conv_row (cap := cap) hh hz
        have hbl : (bytesOf c i).length ≤ 10 := by
          unfold bytesOf
          rw [List.length_map, List.length_take]; omega
        have HGR := Lib.hid hgr
        clear hgr hh hz
        go_wp2_with fail
        go_ret
        exact ⟨_, rfl, hbl, HGR.out⟩
  · obtain ⟨b0, hb0⟩ : ∃ b0, S[0]? = some b0 := ⟨S[0]'(by omega), getElem?_pos S 0 (by omega)⟩
    have hx : ∀ h : 0 < S.size, S[0] = b0 := by
      intro h
      rw [getElem?_pos S 0 h] at hb0
      exact Option.some.inj hb0
    have hb9 := UInt8.toNat_lt b0
    go_upto_region 25 with (fail)
    rcases (show (b0.toNat : Int) < 97 ∨ (97 : Int) ≤ b0.toNat by omega) with h97 | h97
    · go_wp2_with fail
      go_ret
      exact WordRes.of (by rw [hl]; omega) HG1.out
    · rcases (show (122 : Int) < b0.toNat ∨ (b0.toNat : Int) ≤ 122 by omega) with h122 | h122
      · go_wp2_with fail
        go_ret
        exact WordRes.of (by rw [hl]; omega) HG1.out
      · have hwr : IntKind.u8.wrap ((b0.toNat : Int) - 32) = (b0.toNat : Int) - 32 := by rw [IntKind.wrap_u8]; omega
        have hwx := World.grownBy_alloc w1.drew (.cells #[.int .u8 ((b0.toNat : Int) - 32)] 5) none
        have hcv : (convert 52 9 (.slice (some ⟨w1.heap.size, 0, none⟩) 1 1)).run Try.prog (w1.alloc (.cells #[.int .u8 ((b0.toNat : Int) - 32)] 5)).drew = .ok (.string ⟨(bytesOf #[.int .u8 ((b0.toNat : Int) - 32)] 1).toArray⟩) (w1.alloc (.cells #[.int .u8 ((b0.toNat : Int) - 32)] 5)).drew :=
          conv_row (u := (w1.alloc (.cells #[.int .u8 ((b0.toNat : Int) - 32)] 5)).drew) (heap_alloc_new w1 (.cells #[.int .u8 ((b0.toNat : Int) - 32)] 5)) (fun t ht => by
            obtain rfl : t = 0 := by omega
            exact ⟨_, rfl, by omega, by omega⟩)
        obtain ⟨T, hT⟩ : ∃ T : ByteArray, (⟨(bytesOf #[.int .u8 ((b0.toNat : Int) - 32)] 1).toArray⟩ : ByteArray) = T := ⟨_, rfl⟩
        have hTs : T.size = 1 := by
          rw [← hT]
          exact bytesOf_length (by simp)
        rw [hT] at hcv
        clear hT
        go_wp2_with fail
        go_region
        go_wp2_with fail
        go_ret
        exact WordRes.of (by rw [ByteArray.size_append, ByteArray.size_extract, hTs, hl]; omega) (grownBy_drew (grownBy_alloc HG1.out _))
  · go_wp2_with fail
    go_ret
    exact WordRes.of (by rw [hl]; omega) HG1.out
  · go_wp2_with fail
    go_ret
    exact WordRes.of (by rw [hl]; omega) HG1.out
end Go.Proofs.Ytiiaphgencoijaa
