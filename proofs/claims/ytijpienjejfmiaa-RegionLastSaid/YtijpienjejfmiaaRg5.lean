/-
  Region's Edit where nothing comes near 2^40; the document's example of layer 22. No conditions beyond those that each law names.
-/
import Derived.Test.YtijpienjejfmiaaRg4
namespace Go.Proofs.Ytijpienjejfmiaa
open Go Go.RowKit

/-- Runs that end far below 2^40. -/
def LowOk (L : List Sp) : Prop := ∀ x ∈ L, x.b ≤ 549755813888

set_option maxRecDepth 100000 in
set_option maxHeartbeats 2000000 in
theorem redit_walk {rb mb : Nat} {K : List (Nat × Obj)} {L : List Sp} {w wk : World} (a d i : Int) (hi : -9223372036854775808 ≤ i ∧ i ≤ 1000000) (hL : RunsOk L) (hlow : LowOk L) (hl : L.length ≤ 274877906944) (h : RN rb mb K L w wk) :
    Calls Try.prog 22 #[.pointer (some ⟨rb, 0, none⟩), .int .i64 a, .int .i64 d, .int .i64 i] wk fun e w' => e = .returned (.tuple #[]) ∧ RN rb mb K (evenE (cutI a) (cutI d) (cutI i) L) w w' := by
  have r0 := h.cell
  obtain ⟨M, hM⟩ : ∃ M, max i 0 = M := ⟨_, rfl⟩
  have hMb : 0 ≤ M ∧ M ≤ 1000000 := by omega
  have hmx : ∀ (ts : Array TypeId) (ty : TypeId) (w : World), (Builtin.max_ ts ty #[.int .i64 i, .int .i64 0]).run Try.prog w = .ok (.int .i64 M) w := by
    intro ts ty w
    rw [run_max_int2]; congr 2; rw [← hM]; split <;> omega
  obtain ⟨F, hF⟩ : ∃ F, 1099511627776 - M = F := ⟨_, rfl⟩
  have hFb : 1099510627776 ≤ F ∧ F ≤ 1099511627776 := by omega
  have hw1 : IntKind.i64.wrap (1099511627776 - M) = F := by rw [hF]; exact wrap_fit (by omega)
  have hmx2 : ∀ (ts : Array TypeId) (ty : TypeId) (w : World), (Builtin.max_ ts ty #[.int .i64 F, .int .i64 0]).run Try.prog w = .ok (.int .i64 F) w := by
    intro ts ty w
    rw [run_max_int2]; congr 2; split <;> omega
  have hc := h.over F 9223372036854775807 (by omega) (by omega)
  have hnone : overQ F 9223372036854775807 L = [] := List.filter_eq_nil_iff.2 fun x hx => by
    have := hlow x hx
    simp
    omega
  rw [hnone, show overQ F 9223372036854775807 ([] : List Sp) = [] from rfl, List.append_nil, sortS_nil] at hc
  have HC := Lib.hid hc
  clear hc h hnone hM hF hFb hMb
  go_enter Try.func22, Try.ntmps22
  go_wp2_with fail
  refine HC.out.mono ?_
  rintro e w1 ⟨A, c, rfl, _, h1⟩
  have r1 := RN.cell (rb := rb) (mb := mb) (K := K) h1
  have he := h1.edit a d i (fun x hx => (hL x hx).2.1) (by simp) (fun x hx => (hL x hx).1) (by simp) hl (by simp)
  have HE := Lib.hid he
  clear h1 he r0
  go_wp2_with fail
  go_loopw [8, 25] (fun lv iv wr => lv = .slice none 0 0 ∧ iv = .int .i64 0 ∧ wr = w1) (fun _ _ _ => 0)
  case atStart => exact ⟨rfl, rfl, rfl⟩
  case round =>
    obtain ⟨rfl, rfl, rfl⟩ := hrel
    go_wp2_with fail
    refine HE.out.mono ?_
    rintro e w2 ⟨rfl, h2⟩
    have H2 : Hid (RN rb mb K (evenE (cutI a) (cutI d) (cutI i) L) w w2) := Lib.hid h2
    clear h2 r1
    go_wp2_with fail
    go_loopw [58] (fun iv wr => iv = .int .i64 0 ∧ wr = w2) (fun _ _ => 0)
    case atStart => exact ⟨rfl, rfl⟩
    case round =>
      obtain ⟨rfl, rfl⟩ := hrel
      go_wp2_with fail
      go_end0
      exact ⟨rfl, H2.out⟩

theorem RN.cells {L : List Sp} {w : World} {base : Nat} {A : Option Addr} {n c : Nat} (h : Spans w base (.slice A n c) L) (h0 : 0 < L.length) : ∃ q o, A = some ⟨q, o, none⟩ ∧ ∀ i u, (rowS L)[i]? = some u → w.cell? ⟨q, o + i, none⟩ = some u := by
  obtain ⟨A', c', he, hs⟩ := own_slice h
  cases he
  exact hs.2.2 h0

set_option maxRecDepth 100000 in
set_option maxHeartbeats 2000000 in
theorem awake22_walk (w : World) : Calls Try.prog 19 #[] w (TrueRes w) := by
  go_enter Try.func19, Try.ntmps19
  go_wp2_with fail
  refine (rnew_walk w).mono ?_
  rintro e w1 ⟨rb, mb, rfl, h1⟩
  have hc1 := rset_walk 2 5 1 (by decide) (by decide) (by decide) (by decide) (fun x hx => (by simp at hx)) (by decide) h1
  rw [show setL 2 5 1 [] = [⟨2, 5, 2⟩] from by decide] at hc1
  have HC1 := Lib.hid hc1
  clear h1 hc1
  go_wp2_with fail
  refine HC1.out.mono ?_
  rintro e w2 ⟨rfl, h2⟩
  have hc2 := redit_walk 2 0 3 (by decide) (fun x hx => by rw [List.mem_singleton.1 hx]; unfold InG; decide) (fun x hx => by rw [List.mem_singleton.1 hx]; decide) (by decide) h2
  rw [show evenE (cutI 2) (cutI 0) (cutI 3) [⟨2, 5, 2⟩] = [⟨2, 8, 2⟩] from by decide] at hc2
  have HC2 := Lib.hid hc2
  clear h2 hc2
  go_wp2_with fail
  refine HC2.out.mono ?_
  rintro e w3 ⟨rfl, h3⟩
  have hc3 := rall_walk (fun x hx => by rw [List.mem_singleton.1 hx]; unfold InG; decide) (by decide) h3
  rw [show runsL [⟨2, 8, 2⟩] = [⟨2, 8, 1⟩] from by decide] at hc3
  have HC3 := Lib.hid hc3
  clear h3 hc3
  go_wp2_with fail
  refine HC3.out.mono ?_
  rintro e w4 ⟨A, c, rfl, hs4, h4⟩
  obtain ⟨q, o, rfl, hcc⟩ := RN.cells hs4 (by decide)
  have x0 : w4.cell? ⟨q, o, none⟩ = some (.int .i64 2) := hcc 0 _ rfl
  have x1 : w4.cell? ⟨q, o + 1, none⟩ = some (.int .i64 8) := hcc 1 _ rfl
  have x2 : w4.cell? ⟨q, o + 2, none⟩ = some (.int .i64 1) := hcc 2 _ rfl
  have hc4 := rat_walk 2 (by decide) (fun x hx => by rw [List.mem_singleton.1 hx]; decide) h4
  rw [show (if (2 : Int) < 0 then 0 else atL [⟨2, 8, 2⟩] 2) = 1 from by decide] at hc4
  have HC4 := Lib.hid hc4
  clear hs4 hcc h4 hc4
  go_wp2_with fail
  refine HC4.out.mono ?_
  rintro e w5 ⟨rfl, h5⟩
  have hc5 := rat_walk 8 (by decide) (fun x hx => by rw [List.mem_singleton.1 hx]; decide) h5
  rw [show (if (8 : Int) < 0 then 0 else atL [⟨2, 8, 2⟩] 8) = 0 from by decide] at hc5
  have HC5 := Lib.hid hc5
  clear h5 hc5 x0 x1 x2
  go_wp2_with fail
  refine HC5.out.mono ?_
  rintro e w6 ⟨rfl, h6⟩
  have HG := Lib.hid h6.grown
  clear h6
  go_wp2_with fail
  go_ret
  exact ⟨rfl, HG.out⟩
end Go.Proofs.Ytijpienjejfmiaa
