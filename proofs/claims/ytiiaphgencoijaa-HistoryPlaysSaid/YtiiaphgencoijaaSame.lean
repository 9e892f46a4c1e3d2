/-
  Same and SameGroup of equal groups answer true. No condition beyond that the groups are equal.
-/
import Derived.Test.YtiiaphgencoijaaHistR
import Derived.StillTailTactics
namespace Go.Proofs.Ytiiaphgencoijaa
open Go Go.RowKit

set_option maxRecDepth 100000 in
set_option maxHeartbeats 400000 in
theorem same_same (a : Int) (s t : ByteArray) (w : World) :
    Calls Try.prog 41 #[.agg #[.int .i64 a, .string s, .string t], .agg #[.int .i64 a, .string s, .string t]] w (TrueRes w) := by
  go_enter Try.func41, Try.ntmps41
  go_wp2
  go_ret
  exact ⟨by simp, grownBy_alloc (World.grownBy_alloc _ _ _) _⟩

/-- The cells of edits. -/
def EditC (g : List Value) (n : Nat) : Prop := ∀ i, i < n → ∃ (a : Int) (s t : ByteArray), g[i * 3]? = some (.int .i64 a) ∧ g[i * 3 + 1]? = some (.string s) ∧ g[i * 3 + 2]? = some (.string t)

set_option maxRecDepth 100000 in
set_option maxHeartbeats 1000000 in
theorem samegroup_same (A A' : Option Addr) (n c c' : Nat) (g : List Value) (w : World) (hn : n ≤ 1000) (h : Sl w 3 A n g) (h' : Sl w 3 A' n g) (he : EditC g n) :
    Calls Try.prog 20 #[.slice A n c, .slice A' n c'] w (TrueRes w) := by
  have H := Lib.hid h
  have H' := Lib.hid h'
  have HE := Lib.hid he
  clear h h' he
  go_enter Try.func20, Try.ntmps20
  go_wp2_with fail
  go_loopw [5] (fun i wr => ∃ k : Nat, k ≤ n ∧ i = .int .i64 k ∧ w.grownBy wr none) (fun i _ => n - (intOf i).toNat)
  case atStart => exact ⟨0, Nat.zero_le _, rfl, grownBy_refl _ _⟩
  case round =>
    obtain ⟨k, hk, rfl, hg⟩ := hrel
    by_cases hlt : k < n
    · obtain ⟨b, o, rfl, hc⟩ := (H.out.kept hg nofun).2.2 (by omega)
      obtain ⟨b', o', rfl, hc'⟩ := (H'.out.kept hg nofun).2.2 (by omega)
      obtain ⟨a, s, t, e0, e1, e2⟩ := HE.out k hlt
      have x0 := hc _ _ e0
      have x1 := hc _ _ e1
      have x2 := hc _ _ e2
      have y0 := hc' _ _ e0
      have y1 := hc' _ _ e1
      have y2 := hc' _ _ e2
      rw [← Nat.add_assoc] at x1 x2 y1 y2
      clear e0 e1 e2 hc hc'
      go_wp2_with fail
      go_still_tail 8, (by kernel_rfl)
      change wpList _ _ _ _ _ wr.drew
      clear x0 x1 x2 y0 y1 y2
      go_wp2_with fail
      refine (same_same a s t _).mono ?_
      rintro e w2 ⟨rfl, hg2⟩
      have hgw := grownBy_trans (grownBy_drew hg) hg2 nofun
      go_wp2_with fail
      go_roundw
      case rel => exact ⟨k + 1, by omega, by go_num, hgw⟩
      case measure => simp [intOf]; omega
    · obtain rfl : k = n := by omega
      go_wp2_with fail
      go_ret
      exact ⟨rfl, hg⟩
end Go.Proofs.Ytiiaphgencoijaa
