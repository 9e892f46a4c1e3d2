/-
  ClosureAll returns true for every input, and its arguments read afterwards as before. Condition: unicode/utf8's two tables as they are laid.
-/
import Derived.Test.YtlbbjcggjmaehaaDoorRows
import Derived.Test.YtlbbjcggjmaehaaDoorClosAll
import Derived.Test.YtlbbjcggjmaehaaDoorOpenRu
import Derived.Test.YtlbbjcggjmaehaaDoorLaid
import Derived.Test.YtlbbjcggjmaehaaDoorTie
import Derived.Test.YtlbbjcggjmaehaaDoorCards
import Derived.Lay
import Derived.SevenTiedAt
import Derived.Stop.Joined
import Derived.LaidMore
import Derived.ProofKit
import Derived.OpenShut
namespace Go.Proofs.YtlbbjcggjmaehaaDoor.closureAll
open Go.ChangeShapes Go.WideShapes Go.ChangeAt Go.RowKit Go.Deep
set_option linter.unusedVariables false

theorem own : ownKnob Tryd.prog.godebug = none := by kernel_rfl
theorem laidOut : laidOutB Tryd.prog = true := by kernel_rfl

set_option maxRecDepth 100000 in
theorem lifted (os : Os) (started : os.Started) (H : Type) (enc : TypeId × Value → H) :
    ReturnsInHanded {} Tryd.checked os 3 .any (fun w args => (Rows.closureAllSpec.pre enc Tryd.prog Tryd.f3 Rows.closureAllRow.domain false w args ∧ laidMetH Tryd.prog Rows.closureAllRow.laid w) ∧ sizedMet enc Tryd.prog Tryd.f3 (OpenSpec.ofChange Rows.closureAllSpec) false w args) (Rows.closureAllSpec.post enc Tryd.prog Tryd.f3 false true false false) := by
  refine returnsInHanded_of_change_and (C := Tryd.checked) (X := fun w _ => laidMetH Tryd.prog Rows.closureAllRow.laid w) (fun _ _ _ hh h => h.of_heap hh) own started (by kernel_rfl) Tryd.func3
    (ChangeSpec.witness_shaped (enc := enc) (C := Tryd.checked) (os := os) (X := fun w _ => laidMetH Tryd.prog Rows.closureAllRow.laid w) false (World.laidAll Tryd.prog os Rows.closureAllRow.laid) #[.slice none 0 0, .agg #[.string ⟨#[]⟩, .slice none 0 0]] 8 (World.laidAll_os _ _ _)
      (World.shaped_of_ZipB (by kernel_rfl) (by kernel_rfl)) (by kernel_rfl) (by kernel_rfl) (by kernel_rfl)
      (by rw [MakeChecks.laidMetH_plain _ _ _ (by kernel_rfl)]; exact laidMet_laidAll _ (by kernel_rfl) (by kernel_rfl))) ?_
  intro W base args ds gs before hval0 hW hcnd hsz0 hL _
  have hval : ∀ (j : Nat) t v, Tryd.f3.params[j]? = some t → args[j]? = some v → Value.okWide Tryd.prog W .any base t v := hval0
  have hW' := hW
  obtain ⟨p, q, hA0, hV, rfl, hfz, hnd⟩ := hW
  have hA : DataW.TrodAll enc Tryd.prog W 0 (fun _ => true) true Tryd.f3.params.toList args.toList ds p := hA0
  rw [Tryd.params3] at hA hval
  obtain ⟨v0, vs0, d0, ds0, p0, q0, hargs, rfl, rfl, h0, r0⟩ := trodAll_cons hA
  obtain ⟨v1, vs1, d1, ds1, p1, q1, rfl, rfl, rfl, h1, r1⟩ := trodAll_cons r0
  obtain ⟨rfl, rfl, rfl⟩ := trodAll_nil r1
  obtain rfl : args = #[v0, v1] := by cases args; simp_all
  obtain ⟨rfl, rfl⟩ := trodVars_none hV
  obtain ⟨A0, n0, c0, rfl⟩ := okWide_slice Tryd.underlying22 (hval 0 22 v0 rfl rfl)
  obtain ⟨cs1, rfl, hcs1⟩ := okWide_struct Tryd.underlying25 (hval 1 25 v1 rfl rfl)
  rw [cells_entry] at hcs1
  clear hA0 hval0
  simp only [List.append_nil] at hW'
  have hlt0 : ∀ x ∈ p0, x.block < W.heap.size := fun x hx => by simpa using hW'.lt x (by simp [hx])
  have hlt1 : ∀ x ∈ p1, x.block < W.heap.size := fun x hx => by simpa using hW'.lt x (by simp [hx])
  obtain ⟨f0, hf0⟩ := id h0
  obtain ⟨f1, hf1⟩ := id h1
  have hsz : (DataW.weightsEach Tryd.prog (Tryd.f3.params.toList ++ []) ([d0, d1] ++ [])).all (· ≤ reachBytes) = true := hsz0
  have hsm : ∀ x ∈ d0.weights Tryd.prog 22, x ≤ 1152921504606846976 := fun x hx => by
    rw [Tryd.params3] at hsz
    have h2 : x ≤ reachBytes := by simpa using List.all_eq_true.1 hsz x (mem_weightsEach (i := 0) (t := 22) (d := d0) rfl rfl hx)
    exact Nat.le_trans h2 (by decide)
  obtain ⟨rs0, hr0, hrs0⟩ := rules_open hf0 hsm
  obtain ⟨e1, he1, hes1⟩ := entry_open (by rw [show (Value.agg cs1).cells = cs1 from rfl, Array.length_toList, hcs1]) hf1
  have hev : Value.agg cs1 = e1.val := by
    rw [show (Value.agg cs1).cells = cs1 from rfl] at he1
    show Value.agg cs1 = .agg #[.string ⟨e1.word.toArray⟩, .slice e1.F e1.flags.length e1.cap]
    rw [← Array.toArray_toList (xs := cs1), he1]; rfl
  have hT := tabs_of_laid hL
  rw [hev] at hW' h1 ⊢
  refine (closall_walk rs0 A0 n0 c0 e1 W hr0 hrs0 hes1 hT).mono fun e W' ⟨he, hg⟩ => ?_
  subst he
  have hb := grownBy_below hg _ (Nat.le_refl _) nofun
  exact ⟨_, rfl, _, _, _, [], _, [], hW', (trodAll_cons_mk (shut_bool Tryd.underlying4 _) trodAll_mk0),
    (trodAll_cons_mk (Below.trod laidOut (by kernel_rfl) (of_decide_eq_true (by kernel_rfl)) h0 hb hlt0) (trodAll_cons_mk (Below.trod laidOut (by kernel_rfl) (of_decide_eq_true (by kernel_rfl)) h1 hb hlt1) trodAll_mk0)), rfl, hb.frame _, nofun⟩

theorem over : Rows.closureAllRow.holds Tryd.pinned (OpenSpec.ofChange Rows.closureAllSpec) :=
  OpenClaim.holds_of_wide 3 Tryd.f3 rfl rfl rfl rfl rfl rfl rfl ⟨rfl, rfl, rfl, rfl, rfl⟩ rfl rfl rfl rfl rfl (by kernel_rfl) Tryd.func3 (by kernel_rfl)
    (of_decide_eq_true (by kernel_rfl)) (by unfold Func.isWrapper; first | (rw [if_pos (by decide +kernel)]; kernel_rfl) | (rw [if_neg (by decide +kernel)]; exact ⟨rfl, rfl⟩))
    (fun os started H enc _ => lifted os started H enc)

theorem row_proved : Rows.ClosureAllSaid := over

theorem proved : Rows.ClosureAllCardSaid :=
  Claim7.holds_tied_plain_at .later [] [.data, .pinned] true (true, "85212339891d3e1f467f3518d7edb545f4d0a7712845d05fa2c30c49a274792e") false row_proved (fun _ h => by cases h) (by kernel_rfl) (fun _ h => by cases h) closureAll_row_tie rfl ⟨rfl, rfl⟩ (by kernel_rfl) rfl
    (fun f fn hf hfn => by
      obtain rfl : f = 3 := Option.some.inj ((show Tryd.prog.funcNamed "abecedary/abecedarylaw13.ClosureAll" = some 3 by kernel_rfl).symm.trans hf) |>.symm
      obtain rfl : fn = Tryd.f3 := (Option.some.inj (Tryd.func3.symm.trans hfn)).symm
      exact ⟨by kernel_rfl, fun j t ht => by
        rw [Tryd.params3] at ht
        have hm : t ∈ [22, 25] := by simpa using Array.mem_of_getElem? ht
        have hall : ([22, 25].all fun u => !Tryd.prog.wantsStandIn u) = true := by kernel_rfl
        exact (show Tryd.prog.wantsStandIn t = false by simpa using List.all_eq_true.1 hall t hm)⟩)
    (by kernel_rfl)
#print axioms proved
end Go.Proofs.YtlbbjcggjmaehaaDoor.closureAll
