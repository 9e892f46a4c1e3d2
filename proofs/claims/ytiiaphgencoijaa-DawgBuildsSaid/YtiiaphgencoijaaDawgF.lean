/-
  Layer 15's laws: few, SameStrings: the walks. Conditions: the words lie in slices.
-/
import Derived.Test.YtiiaphgencoijaaDawgM
namespace Go.Proofs.Ytiiaphgencoijaa
open Go Go.RowKit Go.Maps

def okW (s : Wd) : Bool := decide (s.length ≤ 20) && s.all (fun b => b != 0)
def fewS (ss : List Wd) : Bool := (ss.take 40).all okW && decide (ss.length ≤ 40)

theorem all_take {α : Type} {p : α → Bool} {l : List α} {k : Nat} {x : α} (h : l[k]? = some x) (hk : (l.take k).all p = true) : (p x = true → (l.take (k + 1)).all p = true) ∧ ∀ m, k < m → p x = false → (l.take m).all p = false := by
  constructor
  · intro hx
    rw [List.take_add_one, h, List.all_append, hk]; simp [hx]
  · intro m hm hx
    rw [List.all_eq_false]
    refine ⟨x, ?_, by simp [hx]⟩
    have : (l.take m)[k]? = some x := by rw [List.getElem?_take_of_lt hm]; exact h
    exact List.mem_of_getElem? this

theorem Sl.str {w : World} {A : Option Addr} {n : Nat} {ss : List Wd} (h : Sl w 1 A n (strCells ss)) {k : Nat} {s : Wd} (hs : ss[k]? = some s) : ∃ q o, A = some ⟨q, o, none⟩ ∧ w.cell? ⟨q, o + k, none⟩ = some (.string ⟨s.toArray⟩) := by
  have hk := (List.getElem?_eq_some_iff.1 hs).1
  have hl := h.1
  obtain ⟨q, o, rfl, hc⟩ := h.2.2 (by simp [strCells] at hl; omega)
  exact ⟨q, o, rfl, hc k _ (by rw [strCells, List.getElem?_map, hs]; rfl)⟩

set_option maxRecDepth 100000 in
set_option maxHeartbeats 1000000 in
theorem few_walk (ss : List Wd) (A : Option Addr) (n c : Nat) (w : World) (hn : ss.length = n) (h : Sl w 1 A n (strCells ss)) : Calls Try.prog 30 #[.slice A n c] w fun e w' => e = .returned (.bool (fewS ss)) ∧ w' = w := by
  have H := Lib.hid h
  have HN := Lib.hid hn
  clear h hn
  go_enter Try.func30, Try.ntmps30
  go_wp2_with fail
  go_loopw [3] (fun iv wr => ∃ i : Nat, i ≤ n ∧ i ≤ 40 ∧ iv = .int .i64 i ∧ wr = w ∧ (ss.take i).all okW = true) (fun iv _ => 40 - (intOf iv).toNat)
  case atStart => exact ⟨0, Nat.zero_le _, Nat.zero_le _, rfl, rfl, by simp⟩
  case round =>
    obtain ⟨i, hi, hi40, rfl, rfl, hok⟩ := hrel
    by_cases hend : i = n ∨ i = 40
    · have hres : fewS ss = decide (n ≤ 40) := by
        unfold fewS
        rw [HN.out]
        have : (ss.take 40).all okW = true := by
          rcases hend with e | e
          · rw [e, List.take_of_length_le (by rw [HN.out]; exact Nat.le_refl _)] at hok
            exact List.all_eq_true.2 (fun x hx => List.all_eq_true.1 hok x (List.mem_of_mem_take hx))
          · rw [e] at hok; exact hok
        rw [this, Bool.true_and]
      have HRES := Lib.hid hres
      have hd : decide ((n : Int) ≤ 40) = decide (n ≤ 40) := by rw [Bool.eq_iff_iff, decide_eq_true_iff, decide_eq_true_iff]; omega
      have HD := Lib.hid hd
      clear hres hd
      by_cases hin : i = n
      · subst hin
        go_wp2_with fail
        go_ret
        refine ⟨?_, rfl⟩
        rw [HRES.out, ← HD.out]; rfl
      · obtain rfl : i = 40 := by omega
        go_wp2_with fail
        go_ret
        refine ⟨?_, rfl⟩
        rw [HRES.out, ← HD.out]; rfl
    · obtain ⟨s, hs⟩ : ∃ s, ss[i]? = some s := ⟨_, List.getElem?_eq_getElem (by have := HN.out; omega)⟩
      obtain ⟨q, o, rfl, hc⟩ := H.out.str hs
      obtain ⟨g1, g2⟩ := all_take hs hok
      have hss : (⟨s.toArray⟩ : ByteArray).size = s.length := by simp [ByteArray.size]
      have hin : i < n := by omega
      have hi4 : i < 40 := by omega
      have hbad : okW s = false → fewS ss = false := fun e => by unfold fewS; rw [g2 40 hi4 e]; rfl
      have HBAD := Lib.hid hbad
      clear hbad hs
      by_cases hlong : 20 < s.length
      · go_wp2_with fail
        go_ret
        refine ⟨?_, rfl⟩
        rw [HBAD.out (by unfold okW; rw [decide_eq_false (by omega)]; rfl)]; rfl
      · go_wp2_with fail
        go_loopw [4] (fun kv wk => ∃ k : Nat, k ≤ s.length ∧ kv = .int .i64 k ∧ wk = wr ∧ (s.take k).all (fun b => b != 0) = true) (fun kv _ => s.length - (intOf kv).toNat)
        case atStart => exact ⟨0, Nat.zero_le _, rfl, rfl, by simp⟩
        case round =>
          obtain ⟨k, hk, rfl, rfl, hzk⟩ := hrel
          rcases Nat.lt_or_ge k s.length with hlt | hge
          · obtain ⟨b, hb⟩ : ∃ b, s[k]? = some b := ⟨_, List.getElem?_eq_getElem hlt⟩
            have hx : ∀ h : k < (⟨s.toArray⟩ : ByteArray).size, (⟨s.toArray⟩ : ByteArray)[k] = b := by
              intro h
              have := (List.getElem?_eq_some_iff.1 hb).2
              rw [← this]; rfl
            obtain ⟨z1, z2⟩ := all_take hb hzk
            have hmem := List.mem_of_getElem? hb
            have HM := Lib.hid hmem
            clear hb hmem
            by_cases hb0 : b = 0
            · subst hb0
              go_wp2_with fail
              go_ret
              refine ⟨?_, rfl⟩
              rw [HBAD.out (by unfold okW; rw [Bool.and_eq_false_iff]; right; exact List.all_eq_false.2 ⟨0, HM.out, by simp⟩)]; rfl
            · have hbn : b.toNat ≠ 0 := fun e => hb0 (UInt8.toNat_inj.1 e)
              have hz3 := z1 (by simpa using hb0)
              go_wp2_with fail
              go_roundw
              case rel => exact ⟨k + 1, by omega, by go_num, by first | rfl | trivial, hz3⟩
              case measure => simp [intOf]; omega
          · obtain rfl : k = s.length := by omega
            rw [List.take_of_length_le (Nat.le_refl _)] at hzk
            have hg := g1 (by unfold okW; rw [hzk, decide_eq_true (by omega)]; rfl)
            have HG := Lib.hid hg
            clear hg hzk
            go_wp2_with fail
            go_roundw
            case rel => exact ⟨i + 1, by omega, by omega, by go_num, by first | rfl | trivial, HG.out⟩
            case measure => simp [intOf]; omega

theorem few_ok {ss : List Wd} (h : fewS ss = true) : ss.length ≤ 40 ∧ ∀ s ∈ ss, s.length ≤ 20 ∧ ∀ b ∈ s, b ≠ 0 := by
  unfold fewS at h
  rw [Bool.and_eq_true] at h
  have hl := of_decide_eq_true h.2
  rw [List.take_of_length_le hl] at h
  refine ⟨hl, fun s hs => ?_⟩
  have := List.all_eq_true.1 h.1 s hs
  unfold okW at this
  rw [Bool.and_eq_true] at this
  exact ⟨of_decide_eq_true this.1, fun b hb => by simpa using List.all_eq_true.1 this.2 b hb⟩
end Go.Proofs.Ytiiaphgencoijaa
