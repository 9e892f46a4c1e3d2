/-
  Region's New, put, At: the walks. No conditions beyond those that each law names.
-/
import Derived.Test.YtijpienjejfmiaaMkL3
namespace Go.Proofs.Ytijpienjejfmiaa
open Go Go.RowKit

abbrev spO (s : Sp) : Obj := Obj.cells #[Value.int IntKind.i64 s.a, Value.int IntKind.i64 s.b, Value.int IntKind.i64 s.k] 25
abbrev rgO (mb : Nat) : Obj := .cells #[.pointer (some ⟨mb, 0, none⟩)] 62

/-- Regions that a call has made: their runs. -/
abbrev RN (rb mb : Nat) (K : List (Nat × Obj)) (L : List Sp) (w wk : World) : Prop := MN mb ((rb, rgO mb) :: K) L [] w wk

theorem RN.cell {rb mb : Nat} {K : List (Nat × Obj)} {L : List Sp} {w wk : World} (h : RN rb mb K L w wk) : wk.cell? ⟨rb, 0, none⟩ = some (.pointer (some ⟨mb, 0, none⟩)) := cell_of_heap (h.held (p := (rb, rgO mb)) (by simp)) 0

set_option maxHeartbeats 1000000 in
theorem rnew_walk (w : World) : Calls Try.prog 18 #[] w fun e w' => ∃ rb mb, e = .returned (.pointer (some ⟨rb, 0, none⟩)) ∧ RN rb mb [] [] w w' := by
  go_enter Try.func18, Try.ntmps18
  go_wp2_with fail
  refine (MN.new w).mono ?_
  rintro e w1 ⟨mb, rfl, h1⟩
  have H1 := Lib.hid (h1.alloc (rgO mb))
  clear h1
  go_wp2_with fail
  go_ret
  exact ⟨w1.heap.size, mb, rfl, H1.out⟩

/-- A run, unless it is empty, or of no language. -/
def putL (f t k : Int) (L : List Sp) : List Sp := if f < t ∧ 0 < k then insS ⟨f, t, k⟩ L else L

set_option maxHeartbeats 1000000 in
theorem rput_walk {rb mb : Nat} {K : List (Nat × Obj)} {L : List Sp} {w wk : World} (f t k : Int) (hf : 0 ≤ f) (ht : t ≤ 1099511627776) (hk : k ≤ 1000) (hk2 : k % 2 = 0) (hl : L.length < 1099511627776) (h : RN rb mb K L w wk) :
    Calls Try.prog 38 #[.pointer (some ⟨rb, 0, none⟩), .int .i64 f, .int .i64 t, .int .i64 k] wk fun e w' => e = .returned (.tuple #[]) ∧ RN rb mb K (putL f t k L) w w' := by
  have r0 := h.cell
  by_cases h1 : f < t
  · by_cases h2 : 0 < k
    · have hc := h.put ⟨f, t, k⟩ hf h1 ht (Int.le_of_lt h2) hk false hk2 hl
      have HE := Lib.hid (show putL f t k L = insS ⟨f, t, k⟩ L from if_pos ⟨h1, h2⟩)
      have HC := Lib.hid hc
      clear hc h
      go_enter Try.func38, Try.ntmps38
      go_wp2_with fail
      refine HC.out.mono ?_
      rintro e w1 ⟨rfl, h3⟩
      have H3 := Lib.hid h3
      clear h3
      go_wp2_with fail
      go_end0
      rw [HE.out]
      exact ⟨rfl, H3.out⟩
    · have HE := Lib.hid (show putL f t k L = L from if_neg (fun h => h2 h.2))
      have H := Lib.hid h
      clear h
      go_enter Try.func38, Try.ntmps38
      go_wp2_with fail
      go_end0
      rw [HE.out]
      exact ⟨rfl, H.out⟩
  · have HE := Lib.hid (show putL f t k L = L from if_neg (fun h => h1 h.1))
    have H := Lib.hid h
    clear h
    go_enter Try.func38, Try.ntmps38
    go_wp2_with fail
    go_end0
    rw [HE.out]
    exact ⟨rfl, H.out⟩

theorem MN.ord {mb : Nat} {K : List (Nat × Obj)} {L0 L1 : List Sp} {w wk : World} (h : MN mb K L0 L1 w wk) : Ord L0 ∧ ∀ x ∈ L0, In x := by
  obtain ⟨B, h1, _⟩ := h
  exact h1.good0

theorem sortS_ord {l : List Sp} (h : Ord l) : sortS l = l := sortS_perm (List.Perm.refl _) h

/-- What is said of a place. -/
def headK : List Sp → Int
  | [] => 0
  | s :: _ => s.k / 2

def atL (L : List Sp) (p : Int) : Int := headK (overQ p (p + 1) L)

set_option maxRecDepth 100000 in
set_option maxHeartbeats 1000000 in
theorem rat_walk {rb mb : Nat} {K : List (Nat × Obj)} {L : List Sp} {w wk : World} (p : Int) (hp : -9223372036854775808 ≤ p ∧ p < 9223372036854775807) (hk : ∀ x ∈ L, 0 ≤ x.k ∧ x.k ≤ 1000) (h : RN rb mb K L w wk) :
    Calls Try.prog 27 #[.pointer (some ⟨rb, 0, none⟩), .int .i64 p] wk fun e w' => e = .returned (.int .i64 (if p < 0 then 0 else atL L p)) ∧ RN rb mb K L w w' := by
  by_cases h0 : p < 0
  · have H := Lib.hid h
    rw [if_pos h0]
    clear h
    go_enter Try.func27, Try.ntmps27
    go_wp2_with fail
    go_ret
    exact ⟨rfl, H.out⟩
  · have r0 := h.cell
    rw [if_neg h0]
    have hw1 : IntKind.i64.wrap (p + 1) = p + 1 := wrap_fit (by omega)
    have hc := h.over p (p + 1) (by omega) (by omega)
    rw [show overQ p (p + 1) ([] : List Sp) = [] from rfl, List.append_nil, sortS_ord (l := overQ p (p + 1) L) (h.ord.1.filter _)] at hc
    have hkR : ∀ x ∈ overQ p (p + 1) L, 0 ≤ x.k ∧ x.k ≤ 1000 := fun x hx => hk x (List.mem_filter.1 hx).1
    obtain ⟨R, hR⟩ : ∃ R, overQ p (p + 1) L = R := ⟨_, rfl⟩
    have hat : atL L p = headK R := by unfold atL; rw [hR]
    rw [hat]
    rw [hR] at hc hkR
    have HC := Lib.hid hc
    clear hc h hR hat
    go_enter Try.func27, Try.ntmps27
    go_wp2_with fail
    refine HC.out.mono ?_
    rintro e w3 ⟨A, c, rfl, hs3, h3⟩
    obtain ⟨A', c', he, hsl⟩ := own_slice hs3
    cases he
    have H3 := Lib.hid h3
    clear h3 r0
    cases R with
    | nil =>
      clear hs3 hsl
      go_wp2_with fail
      go_loopw [18] (fun iv wr => iv = .int .i64 0 ∧ wr = w3) (fun _ _ => 0)
      case atStart => exact ⟨rfl, rfl⟩
      case round =>
        obtain ⟨rfl, rfl⟩ := hrel
        go_wp2_with fail
        go_ret
        exact ⟨rfl, H3.out⟩
    | cons s R =>
      obtain ⟨b, o, rfl, hc⟩ := hsl.2.2 (by simp)
      have x0 : w3.cell? ⟨b, o, none⟩ = some (.int .i64 s.a) := hc 0 _ rfl
      have x1 : w3.cell? ⟨b, o + 1, none⟩ = some (.int .i64 s.b) := hc 1 _ rfl
      have x2 : w3.cell? ⟨b, o + 2, none⟩ = some (.int .i64 s.k) := hc 2 _ rfl
      have hks := hkR s (by simp)
      have htd : s.k.tdiv 2 = s.k / 2 := Int.tdiv_eq_ediv_of_nonneg hks.1
      have htw : wrap64 (s.k / 2) = s.k / 2 := by unfold wrap64; omega
      have htx : IntKind.i64.wrap (s.k / 2) = s.k / 2 := by rw [IntKind.wrap_i64]; omega
      clear hks
      have hA := heap_new w3 (spO s)
      have a2 := cell_of_heap hA 2
      have H4 := Lib.hid (H3.out.kept (grownBy_alloc (grownBy_refl w3 none) (spO s)))
      clear hs3 hsl hc hA
      go_wp2_with fail
      go_loopw [18] (fun iv wr => iv = .int .i64 0 ∧ wr = w3) (fun _ _ => 0)
      case atStart => exact ⟨rfl, rfl⟩
      case round =>
        obtain ⟨rfl, rfl⟩ := hrel
        go_wp2_with fail
        go_ret
        exact ⟨rfl, H4.out⟩
end Go.Proofs.Ytijpienjejfmiaa
