/-
  Layer 15's laws: SameStrings: the walk. Conditions: the words lie in slices, not too many.
-/
import Derived.Test.YtiiaphgencoijaaDawgF
namespace Go.Proofs.Ytiiaphgencoijaa
open Go Go.RowKit Go.Maps

theorem str_eq {s t : Wd} : ((⟨s.toArray⟩ : ByteArray) = ⟨t.toArray⟩) ↔ s = t := by
  constructor
  · intro h
    have := congrArg ByteArray.data h
    simpa using this
  · rintro rfl; rfl

theorem take_eq_succ {xs ys : List Wd} {k : Nat} {x y : Wd} (hx : xs[k]? = some x) (hy : ys[k]? = some y) (h : xs.take k = ys.take k) : (x = y → xs.take (k + 1) = ys.take (k + 1)) ∧ (x ≠ y → xs ≠ ys) := by
  constructor
  · intro e; rw [List.take_add_one, List.take_add_one, h, hx, hy, e]
  · intro e e2; subst e2; rw [hx] at hy; exact e (Option.some.inj hy)

set_option maxRecDepth 100000 in
set_option maxHeartbeats 1000000 in
theorem same_strings (xs ys : List Wd) (A A2 : Option Addr) (n n2 c c2 : Nat) (w : World) (hn : xs.length = n) (hn2 : ys.length = n2) (h : Sl w 1 A n (strCells xs)) (h2 : Sl w 1 A2 n2 (strCells ys)) (hb : n ≤ 4611686018427387904) :
    Calls Try.prog 34 #[.slice A n c, .slice A2 n2 c2] w fun e w' => e = .returned (.bool (decide (xs = ys))) ∧ w.grownBy w' none := by
  have H := Lib.hid h
  have H2 := Lib.hid h2
  have HN := Lib.hid hn
  have HN2 := Lib.hid hn2
  clear h h2 hn hn2
  go_enter Try.func34, Try.ntmps34
  by_cases hne : n = n2
  · subst hne
    go_wp2_with fail
    go_loopw [5] (fun iv wr => ∃ i : Nat, i ≤ n ∧ iv = .int .i64 i ∧ w.grownBy wr none ∧ xs.take i = ys.take i) (fun iv _ => n - (intOf iv).toNat)
    case atStart => exact ⟨0, Nat.zero_le _, rfl, grownBy_refl _ _, by simp⟩
    case round =>
      obtain ⟨i, hi, rfl, hg, hsame⟩ := hrel
      rcases Nat.lt_or_ge i n with hlt | hge
      · obtain ⟨x, hx⟩ : ∃ x, xs[i]? = some x := ⟨_, List.getElem?_eq_getElem (by rw [HN.out]; exact hlt)⟩
        obtain ⟨y, hy⟩ : ∃ y, ys[i]? = some y := ⟨_, List.getElem?_eq_getElem (by rw [HN2.out]; exact hlt)⟩
        obtain ⟨q, o, rfl, hcx⟩ := (H.out.kept hg nofun).str hx
        obtain ⟨q2, o2, rfl, hcy⟩ := (H2.out.kept hg nofun).str hy
        obtain ⟨t1, t2⟩ := take_eq_succ hx hy hsame
        have HG := Lib.hid hg
        have HT := Lib.hid t1
        have HU := Lib.hid t2
        clear hsame hx hy hg t1 t2
        by_cases hxy : x = y
        · have hse : (⟨x.toArray⟩ : ByteArray) = ⟨y.toArray⟩ := by rw [hxy]
          have HXY := Lib.hid hxy
          subst hxy
          go_wp2_with fail
          go_quiet (fail)
          go_wp2_with fail
          go_roundw
          case rel => exact ⟨i + 1, by omega, by go_num, grownBy_drewN HG.out _, HT.out (by first | rfl | trivial)⟩
          case measure => simp [intOf]; omega
        · have hse : ¬ (⟨x.toArray⟩ : ByteArray) = ⟨y.toArray⟩ := fun e => hxy (str_eq.1 e)
          have hxa : ¬ x.toArray = y.toArray := fun e => hxy (by simpa using e)
          have hbe : (x == y) = false := by simpa using hxy
          go_wp2_with fail
          go_quiet (fail)
          go_wp2_with fail
          go_ret
          refine ⟨?_, grownBy_drewN HG.out _⟩
          rw [decide_eq_false (HU.out hxy)]; rfl
      · obtain rfl : i = n := by omega
        go_wp2_with fail
        go_ret
        refine ⟨?_, hg⟩
        rw [List.take_of_length_le (by rw [HN.out]; exact Nat.le_refl _), List.take_of_length_le (by rw [HN2.out]; exact Nat.le_refl _)] at hsame
        rw [decide_eq_true hsame]; rfl
  · go_wp2_with fail
    go_ret
    refine ⟨?_, grownBy_refl _ _⟩
    rw [decide_eq_false (by intro e; exact hne (by rw [← HN.out, ← HN2.out, e]))]; rfl
end Go.Proofs.Ytiiaphgencoijaa
