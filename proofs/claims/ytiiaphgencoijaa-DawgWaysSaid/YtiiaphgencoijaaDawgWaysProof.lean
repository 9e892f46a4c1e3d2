/-
  DawgWays returns true for every input, and its arguments read afterwards as before. No condition.
-/
import Derived.Test.YtiiaphgencoijaaRows
import Derived.Test.YtiiaphgencoijaaDawgWy
import Derived.Test.YtiiaphgencoijaaOpen
import Derived.ProofKit
import Derived.OpenShut
namespace Go.Proofs.Ytiiaphgencoijaa.dawgWays
open Go.ChangeShapes Go.WideShapes Go.ChangeAt Go.RowKit Go.Deep
set_option linter.unusedVariables false

theorem own : ownKnob Try.prog.godebug = none := by kernel_rfl
theorem laidOut : laidOutB Try.prog = true := by kernel_rfl

theorem cells3 : Try.prog.cellsOf 3 = 1 := by kernel_rfl

section
variable {H : Type} {enc : TypeId × Value → H} {W : World} {held : Bool}
theorem nums_open {A : Option Addr} {n c m : Nat} {y : DataW H × List MemPlace} (h : DataW.trod enc Try.prog W 0 (fun _ => true) held m 23 [.slice A n c] = some y) : NumsV W A n := by
  obtain ⟨hle, hm, g, hlen, hc, hx⟩ := open_rows Try.underlying23 cells3 (by omega) (fun l => ∃ x : Int, l = [.int .i64 x]) (fun m cs y hl h => by obtain ⟨x, rfl, _⟩ := DataW.trod_int Try.underlying3 h; exact ⟨x, rfl⟩) h
  intro hn
  obtain ⟨b, o, rfl, hlt, hcell⟩ := hc hn
  refine ⟨b, o, rfl, fun i hi => ?_⟩
  obtain ⟨l, _, ⟨x, rfl⟩, hj⟩ := hx i hi
  have := hj 0 (by omega)
  rw [Nat.mul_one, Nat.add_zero] at this
  exact ⟨x, hcell i _ this⟩

theorem byte_open {z : Int} (h : (Lit.int .u8 z).wf = true) : ∃ b : UInt8, z = b.toNat := by
  have h2 : 0 ≤ z ∧ z ≤ 255 := by
    have e0 : IntKind.u8.min = 0 := by decide
    have e1 : IntKind.u8.max = 255 := by decide
    simp [Lit.wf, e0, e1] at h
    omega
  exact ⟨UInt8.ofNat z.toNat, by simp; omega⟩
end

set_option maxRecDepth 100000 in
theorem lifted (os : Os) (started : os.Started) (H : Type) (enc : TypeId × Value → H) :
    ReturnsInHanded {} Try.checked os 11 .any (Rows.dawgWaysSpec.pre6 enc Try.prog Try.f11 Rows.dawgWaysRow.domain false) (Rows.dawgWaysSpec.post enc Try.prog Try.f11 false true false false) := by
  refine returnsInHanded_of_change (C := Try.checked) own started (by kernel_rfl) Try.func11
    (ChangeSpec.witness6 (enc := enc) (C := Try.checked) false ⟨#[], #[.slice none 0 0, .int .i64 0, .int .u8 0], []⟩ 8 (by kernel_rfl) (by kernel_rfl) (by kernel_rfl) (by kernel_rfl)) ?_
  intro W base args ds gs before hval0 hW hcnd _
  have hval : ∀ (j : Nat) t v, Try.f11.params[j]? = some t → args[j]? = some v → Value.okWide Try.prog W .any base t v := hval0
  have hW' := hW
  obtain ⟨p, q, hA0, hV, rfl, hfz, hnd⟩ := hW
  have hA : DataW.TrodAll enc Try.prog W 0 (fun _ => true) true Try.f11.params.toList args.toList ds p := hA0
  rw [Try.params11] at hA hval
  obtain ⟨v0, vs0, d0, ds0, p0, q0, hargs, rfl, rfl, h0, r0⟩ := trodAll_cons hA
  obtain ⟨v1, vs1, d1, ds1, p1, q1, rfl, rfl, rfl, h1, r1⟩ := trodAll_cons r0
  obtain ⟨v2, vs2, d2, ds2, p2, q2, rfl, rfl, rfl, h2, r2⟩ := trodAll_cons r1
  obtain ⟨rfl, rfl, rfl⟩ := trodAll_nil r2
  obtain rfl : args = #[v0, v1, v2] := by cases args; simp_all
  obtain ⟨rfl, rfl⟩ := trodVars_none hV
  obtain ⟨A0, n0, c0, rfl⟩ := okWide_slice Try.underlying23 (hval 0 23 v0 rfl rfl)
  obtain ⟨a1, rfl, rfl, rfl, w1⟩ := open_int Try.underlying3 (hval 1 3 v1 rfl rfl) h1
  obtain ⟨a2, rfl, rfl, rfl, w2⟩ := open_int Try.underlying5 (hval 2 5 v2 rfl rfl) h2
  obtain ⟨b, rfl⟩ := byte_open w2
  clear hA0 hval0
  simp only [List.append_nil, List.nil_append] at hW'
  have hlt : ∀ x ∈ p0, x.block < W.heap.size := fun x hx => by simpa using hW'.lt x hx
  obtain ⟨f0, hf0⟩ := id h0
  refine (ways_walk A0 n0 c0 a1 b W (nums_open hf0)).mono fun e W' ⟨he, hg⟩ => ?_
  subst he
  have hb := grownBy_below hg _ (Nat.le_refl _) nofun
  exact ⟨_, rfl, _, _, _, [], _, [], hW', (trodAll_cons_mk (shut_bool Try.underlying4 _) trodAll_mk0),
    (trodAll_cons_mk (Below.trod laidOut (by kernel_rfl) (of_decide_eq_true (by kernel_rfl)) h0 hb (fun x hx => hlt x (by simp [hx]))) (trodAll_cons_mk (shut_int Try.underlying3 w1) (trodAll_cons_mk (shut_int Try.underlying5 w2) trodAll_mk0))), rfl, hb.frame _, nofun⟩

theorem over : Rows.dawgWaysRow.holds Try.pinned (OpenSpec.ofChange Rows.dawgWaysSpec) :=
  OpenClaim.holds_of_wide 11 Try.f11 rfl rfl rfl rfl rfl rfl rfl ⟨rfl, rfl, rfl, rfl, rfl⟩ rfl rfl rfl rfl rfl (by kernel_rfl) Try.func11 (by kernel_rfl)
    (of_decide_eq_true (by kernel_rfl)) (by unfold Func.isWrapper; first | (rw [if_pos (by decide +kernel)]; kernel_rfl) | (rw [if_neg (by decide +kernel)]; exact ⟨rfl, rfl⟩))
    (fun os started H enc _ => lifted os started H enc)

theorem proved : Rows.DawgWaysSaid := over
#print axioms proved
end Go.Proofs.Ytiiaphgencoijaa.dawgWays
