/-
  ref15's Sorted; layer 15's has: the walks. Conditions: the words lie in a slice, not too many.
-/
import Derived.Test.YtiiaphgencoijaaPut
namespace Go.Proofs.Ytiiaphgencoijaa
open Go Go.RowKit Go.Maps

theorem insU_len (s : Wd) : ∀ L : List Wd, (insU s L).length ≤ L.length + 1
  | [] => by simp [insU]
  | y :: L => by
    unfold insU
    split
    · simp
    · split
      · simp
      · simp only [List.length_cons]; have := insU_len s L; omega

theorem fold_take {ss : List Wd} {i : Nat} {s : Wd} (h : ss[i]? = some s) (L : List Wd) : (ss.take (i + 1)).foldl (fun L x => insU x L) L = insU s ((ss.take i).foldl (fun L x => insU x L) L) := by
  rw [List.take_add_one, h, List.foldl_append]; rfl

set_option maxRecDepth 100000 in
set_option maxHeartbeats 1000000 in
theorem sorted_walk (ss : List Wd) (A : Option Addr) (n c : Nat) (w : World) (hn : ss.length = n) (hb : n ≤ 100000) (h : Sl w 1 A n (strCells ss)) :
    Calls Try.prog 31 #[.slice A n c] w fun e w' => ∃ A' n' c', e = .returned (.slice A' n' c') ∧ (putAll ss).length = n' ∧ n' ≤ c' ∧ n' ≤ n ∧ Sl w' 1 A' n' (strCells (putAll ss)) ∧ w.grownBy w' none := by
  have H := Lib.hid h
  have HN := Lib.hid hn
  clear h hn
  go_enter Try.func31, Try.ntmps31
  go_wp2_with fail
  go_loopw [3, 4] (fun mv iv wr => ∃ (i : Nat) (A' : Option Addr) (n' c' : Nat), i ≤ n ∧ iv = .int .i64 i ∧ mv = .slice A' n' c' ∧ ((ss.take i).foldl (fun L x => insU x L) []).length = n' ∧ n' ≤ c' ∧ n' ≤ i ∧ Sl wr 1 A' n' (strCells ((ss.take i).foldl (fun L x => insU x L) [])) ∧ w.grownBy wr none) (fun _ iv _ => n - (intOf iv).toNat)
  case atStart => exact ⟨0, none, 0, 0, Nat.zero_le _, rfl, rfl, rfl, Nat.le_refl _, Nat.le_refl _, Sl.nil _ _ _, grownBy_refl _ _⟩
  case round =>
    obtain ⟨i, A', n', c', hi, rfl, rfl, hl, hnc, hni, hs, hg⟩ := hrel
    have HL := Lib.hid hl
    have HS := Lib.hid hs
    have HG := Lib.hid hg
    clear hl hs hg
    rcases Nat.lt_or_ge i n with hlt | hge
    · obtain ⟨s, hs⟩ : ∃ s, ss[i]? = some s := ⟨_, List.getElem?_eq_getElem (by rw [HN.out]; exact hlt)⟩
      obtain ⟨q, o, rfl, hc⟩ := (H.out.kept HG.out nofun).str hs
      have hft := fold_take hs []
      have HF := Lib.hid hft
      clear hs hft
      go_wp2_with fail
      refine (put_walk _ s A' n' c' wr HL.out hnc (by omega) HS.out).mono ?_
      rintro e w1 ⟨A2, n2, c2, rfl, hl2, hnc2, hs2, hg2⟩
      have hle := insU_len s ((ss.take i).foldl (fun L x => insU x L) [])
      have hn2 : n2 ≤ i + 1 := by have := HL.out; omega
      have HL2 := Lib.hid hl2
      have HS2 := Lib.hid hs2
      have HG2 := Lib.hid hg2
      clear hl2 hs2 hg2 hle
      go_wp2_with fail
      go_roundw
      case rel => exact ⟨i + 1, A2, n2, c2, by omega, by go_num, rfl, by rw [HF.out]; exact HL2.out, hnc2, hn2, by rw [HF.out]; exact HS2.out, grownBy_trans HG.out HG2.out nofun⟩
      case measure => simp [intOf]; omega
    · obtain rfl : i = n := by omega
      have e0 : ss.take i = ss := List.take_of_length_le (by rw [HN.out]; exact Nat.le_refl _)
      have HE := Lib.hid e0
      clear e0
      go_wp2_with fail
      go_ret
      refine ⟨A', n', c', rfl, ?_, hnc, hni, ?_, HG.out⟩
      · have := HL.out; rw [HE.out] at this; exact this
      · have := HS.out; rw [HE.out] at this; exact this

set_option maxRecDepth 100000 in
set_option maxHeartbeats 1000000 in
theorem hasl_walk (ss : List Wd) (t : Wd) (A : Option Addr) (n c : Nat) (w : World) (hn : ss.length = n) (hb : n ≤ 100000) (h : Sl w 1 A n (strCells ss)) :
    Calls Try.prog 32 #[.slice A n c, .string ⟨t.toArray⟩] w fun e w' => e = .returned (.bool (decide (t ∈ ss))) ∧ w' = w := by
  have H := Lib.hid h
  have HN := Lib.hid hn
  clear h hn
  go_enter Try.func32, Try.ntmps32
  go_wp2_with fail
  go_loopw [5] (fun iv wr => ∃ i : Nat, i ≤ n ∧ iv = .int .i64 i ∧ wr = w ∧ t ∉ ss.take i) (fun iv _ => n - (intOf iv).toNat)
  case atStart => exact ⟨0, Nat.zero_le _, rfl, rfl, by simp⟩
  case round =>
    obtain ⟨i, hi, rfl, rfl, hno⟩ := hrel
    have HNO := Lib.hid hno
    clear hno
    rcases Nat.lt_or_ge i n with hlt | hge
    · obtain ⟨s, hs⟩ : ∃ s, ss[i]? = some s := ⟨_, List.getElem?_eq_getElem (by rw [HN.out]; exact hlt)⟩
      obtain ⟨q, o, rfl, hc⟩ := H.out.str hs
      have HS := Lib.hid hs
      clear hs
      by_cases hst : s = t
      · have hb2 : (s == t) = true := by simpa using hst
        have HST := Lib.hid hst
        clear hst
        go_wp2_with fail
        go_ret
        refine ⟨?_, rfl⟩
        rw [decide_eq_true (by rw [← HST.out]; exact List.mem_of_getElem? HS.out)]; rfl
      · have hb2 : (s == t) = false := by simpa using hst
        have HST := Lib.hid hst
        clear hst
        go_wp2_with fail
        go_roundw
        case rel =>
          refine ⟨i + 1, by omega, by go_num, by first | rfl | trivial, fun hh => ?_⟩
          rw [List.take_add_one, HS.out] at hh
          rcases List.mem_append.1 hh with hh | hh
          · exact HNO.out hh
          · simp at hh; exact HST.out hh.symm
        case measure => simp [intOf]; omega
    · obtain rfl : i = n := by omega
      go_wp2_with fail
      go_ret
      refine ⟨?_, rfl⟩
      rw [decide_eq_false (fun hh => HNO.out (by rw [List.take_of_length_le (by rw [HN.out]; exact Nat.le_refl _)]; exact hh))]; rfl
end Go.Proofs.Ytiiaphgencoijaa
