/-
  Package dawg: Build: is a word too long? Conditions: the words lie in a slice.
-/
import Derived.Test.YtgcaenckjelijaaDoorDawgS
import Derived.Sort.OwnSorted
namespace Go.Proofs.YtgcaenckjelijaaDoor
open Go Go.RowKit Go.Maps

/-- What Build asks of a word. -/
def isLong (s : Wd) : Bool := decide (200 < s.length)

theorem long_walk (s : Wd) (w : World) : Calls Tryd.prog 21 #[.string ⟨s.toArray⟩] w fun e w' => e = .returned (.bool (isLong s)) ∧ w' = w := by
  go_enter Tryd.func21, Tryd.ntmps21
  go_wp2_with fail
  go_ret
  refine ⟨?_, rfl⟩
  have : decide (200 < ((s.length : Nat) : Int)) = isLong s := by
    unfold isLong
    rw [Bool.eq_iff_iff, decide_eq_true_iff, decide_eq_true_iff]; omega
  rw [← this]; rfl

theorem any_take {ss : List Wd} {k : Nat} {s : Wd} (h : ss[k]? = some s) (hk : (ss.take k).any isLong = false) : (isLong s = false → (ss.take (k + 1)).any isLong = false) ∧ (isLong s = true → ss.any isLong = true) := by
  constructor
  · intro e
    rw [List.take_add_one, h, List.any_append, hk]; simp [e]
  · intro e
    exact List.any_eq_true.2 ⟨s, List.mem_of_getElem? h, e⟩

set_option maxRecDepth 100000 in
theorem index_walk (ss : List Wd) (A : Option Addr) (n c : Nat) (w : World) (h : WordsAt w (fun _ => False) A n c ss) : Calls Tryd.prog 32 #[.slice A n c, .func (.func 21) #[] #[]] w fun e w' => (∃ r : Int, e = .returned (.int .i64 r) ∧ decide (0 ≤ r) = ss.any isLong) ∧ w' = w := by
  have H := Lib.hid h
  have hn := h.2.2.1
  clear h
  go_enter Tryd.func32, Tryd.ntmps32
  go_wp2_with fail
  go_loopw [8] (fun i wr => ∃ k : Nat, k ≤ n ∧ i = .int .i64 k ∧ wr = w ∧ (ss.take k).any isLong = false) (fun i _ => n - (intOf i).toNat)
  case atStart => exact ⟨0, Nat.zero_le _, rfl, rfl, by simp⟩
  case round =>
    obtain ⟨k, hk, rfl, rfl, hany⟩ := hrel
    rcases Nat.lt_or_ge k n with hlt | hge
    · obtain ⟨s, hs⟩ : ∃ s, ss[k]? = some s := ⟨_, List.getElem?_eq_getElem (by have := H.out.1; omega)⟩
      obtain ⟨q, o, rfl, hc, _⟩ := H.out.get hs
      obtain ⟨h1, h2⟩ := any_take hs hany
      have HS := Lib.hid hs
      clear hs
      go_wp2_with fail
      refine (long_walk s wr).mono ?_
      rintro e w1 ⟨rfl, rfl⟩
      cases hl : isLong s
      · go_wp2_with fail
        go_roundw
        case rel => exact ⟨k + 1, by omega, by go_num, by first | rfl | trivial, h1 hl⟩
        case measure => simp [intOf]; omega
      · go_wp2_with fail
        go_ret
        exact ⟨⟨k, rfl, by rw [h2 hl]; simp⟩, rfl⟩
    · obtain rfl : k = n := by omega
      go_wp2_with fail
      go_ret
      refine ⟨⟨-1, rfl, ?_⟩, rfl⟩
      rw [List.take_of_length_le (by have := H.out.1; omega)] at hany
      rw [hany]; rfl

theorem contains_walk (ss : List Wd) (A : Option Addr) (n c : Nat) (w : World) (h : WordsAt w (fun _ => False) A n c ss) : Calls Tryd.prog 20 #[.slice A n c, .func (.func 21) #[] #[]] w fun e w' => e = .returned (.bool (ss.any isLong)) ∧ w' = w := by
  have H := Lib.hid h
  clear h
  go_enter Tryd.func20, Tryd.ntmps20
  go_wp2_with fail
  refine (index_walk ss A n c w H.out).mono ?_
  rintro e w1 ⟨⟨r, rfl, hr⟩, rfl⟩
  go_wp2_with fail
  go_ret
  exact ⟨by rw [← hr]; rfl, rfl⟩
end Go.Proofs.YtgcaenckjelijaaDoor
