/-
  HistoryPlays returns true for every input, and its arguments read afterwards as before. No condition.
-/
import Derived.Test.YtiiaphgencoijaaRows
import Derived.Test.YtiiaphgencoijaaHistY
import Derived.Test.YtiiaphgencoijaaOpen
import Derived.ProofKit
import Derived.OpenShut
namespace Go.Proofs.Ytiiaphgencoijaa.historyPlays
open Go.ChangeShapes Go.WideShapes Go.ChangeAt Go.RowKit Go.Deep
set_option linter.unusedVariables false

theorem own : ownKnob Try.prog.godebug = none := by kernel_rfl
theorem laidOut : laidOutB Try.prog = true := by kernel_rfl
theorem cells31 : Try.prog.cellsOf 31 = 3 := by kernel_rfl
theorem cells32 : Try.prog.cellsOf 32 = 1 := by kernel_rfl
theorem cells3 : Try.prog.cellsOf 3 = 1 := by kernel_rfl

theorem three {α : Type} {l : List α} (h : l.length = 3) : ∃ a b c, l = [a, b, c] := by
  match l, h with
  | [a, b, c], _ => exact ⟨a, b, c, rfl⟩

section
variable {H : Type} {enc : TypeId × Value → H} {W : World} {held : Bool}
theorem edit_cells (m : Nat) (cs : List Value) (y : DataW H × List MemPlace) (hl : cs.length = 3) (h : DataW.trod enc Try.prog W 0 (fun _ => true) held m 31 cs = some y) :
    ∃ (a : Int) (s t : ByteArray), cs = [.int .i64 a, .string s, .string t] := by
  obtain ⟨xs, n, _, _, _, hxl, hf⟩ := DataW.trod_struct Try.underlying31 h
  have c9 : Try.prog.cellsOf 9 = 1 := by kernel_rfl
  obtain ⟨c0, c1, c2, rfl⟩ := three hl
  · have l3 : xs.length = 3 := hxl
    have f0 : DataW.trod enc Try.prog W 0 (fun _ => true) held n 3 (([c0, c1, c2].drop 0).take (Try.prog.cellsOf 3)) = xs[0]? := hf 0 _ rfl
    have f1 : DataW.trod enc Try.prog W 0 (fun _ => true) held n 9 (([c0, c1, c2].drop 1).take (Try.prog.cellsOf 9)) = xs[1]? := hf 1 _ rfl
    have f2 : DataW.trod enc Try.prog W 0 (fun _ => true) held n 9 (([c0, c1, c2].drop 2).take (Try.prog.cellsOf 9)) = xs[2]? := hf 2 _ rfl
    rw [cells3, List.getElem?_eq_getElem (by omega)] at f0
    rw [c9, List.getElem?_eq_getElem (by omega)] at f1 f2
    obtain ⟨a, e0, _⟩ := DataW.trod_int Try.underlying3 f0
    obtain ⟨s, e1, _⟩ := DataW.trod_string Try.underlying9 f1
    obtain ⟨t, e2, _⟩ := DataW.trod_string Try.underlying9 f2
    simp at e0 e1 e2
    exact ⟨a, s, t, by rw [e0, e1, e2]⟩

theorem group_opens (m : Nat) (cs : List Value) (y : DataW H × List MemPlace) (hl : cs.length = 1) (h : DataW.trod enc Try.prog W 0 (fun _ => true) held m 32 cs = some y) :
    ∃ A n c g, cs = [.slice A n c] ∧ Sl W 3 A n g ∧ EditC g n ∧ ∀ l, W.heap.size ≤ l → Off A n l := by
  rcases open_slice Try.underlying32 h with ⟨rfl, _⟩ | ⟨a, len, cap, m', n', D, Pl, rfl, _⟩
  · exact ⟨none, 0, 0, [], rfl, Sl.nil _ _ _, fun i hi => by omega, fun l _ h => absurd h (by omega)⟩
  · obtain ⟨hle, hm, g, hlen, hc, hx⟩ := open_rows Try.underlying32 cells31 (by omega) (fun l => ∃ (a : Int) (s t : ByteArray), l = [.int .i64 a, .string s, .string t]) (fun m cs y hl h => edit_cells m cs y hl h) h
    refine ⟨some a, len, cap, g, rfl, sl_of_rows hlen hc (by rintro l ⟨a, s, t, rfl⟩; exact cells_edit1 a s t) hx, fun i hi => ?_, fun l hl hn a' ha' e => ?_⟩
    · obtain ⟨l, _, ⟨x, s, t, rfl⟩, hj⟩ := hx i hi
      exact ⟨x, s, t, hj 0 (by omega), hj 1 (by omega), hj 2 (by omega)⟩
    · obtain ⟨b, o, hb, hlt, _⟩ := hc hn
      rw [hb] at ha'; cases ha'
      simp at e; omega

theorem groups_open {A : Option Addr} {n c m : Nat} {y : DataW H × List MemPlace} (h : DataW.trod enc Try.prog W 0 (fun _ => true) held m 22 [.slice A n c] = some y) : GroupsV W W.heap.size A n := by
  obtain ⟨hle, hm, g, hlen, hc, hx⟩ := open_rows Try.underlying22 cells32 (by omega) (fun l => ∃ A n c g, l = [.slice A n c] ∧ Sl W 3 A n g ∧ EditC g n ∧ ∀ l, W.heap.size ≤ l → Off A n l) (fun m cs y hl h => group_opens m cs y hl h) h
  intro hn
  obtain ⟨b, o, rfl, hlt, hcell⟩ := hc hn
  refine ⟨b, o, rfl, fun i hi => ?_⟩
  obtain ⟨l, _, ⟨A', n', c', g', rfl, hs, he, ho⟩, hj⟩ := hx i hi
  have := hj 0 (by omega)
  rw [Nat.mul_one, Nat.add_zero] at this
  exact ⟨A', n', c', g', hcell i _ this, hs, he, ho⟩

theorem ints_open {A : Option Addr} {n c m : Nat} {y : DataW H × List MemPlace} (h : DataW.trod enc Try.prog W 0 (fun _ => true) held m 23 [.slice A n c] = some y) : IntsV W A n := by
  obtain ⟨hle, hm, g, hlen, hc, hx⟩ := open_rows Try.underlying23 cells3 (by omega) (fun l => ∃ x : Int, l = [.int .i64 x]) (fun m cs y hl h => by obtain ⟨x, rfl, _⟩ := DataW.trod_int Try.underlying3 h; exact ⟨x, rfl⟩) h
  intro hn
  obtain ⟨b, o, rfl, hlt, hcell⟩ := hc hn
  refine ⟨b, o, rfl, fun i hi => ?_⟩
  obtain ⟨l, _, ⟨x, rfl⟩, hj⟩ := hx i hi
  have := hj 0 (by omega)
  rw [Nat.mul_one, Nat.add_zero] at this
  exact ⟨x, hcell i _ this⟩
end

set_option maxRecDepth 100000 in
theorem lifted (os : Os) (started : os.Started) (H : Type) (enc : TypeId × Value → H) :
    ReturnsInHanded {} Try.checked os 3 .any (Rows.historyPlaysSpec.pre6 enc Try.prog Try.f3 Rows.historyPlaysRow.domain false) (Rows.historyPlaysSpec.post enc Try.prog Try.f3 false true false false) := by
  refine returnsInHanded_of_change (C := Try.checked) own started (by kernel_rfl) Try.func3
    (ChangeSpec.witness6 (enc := enc) (C := Try.checked) false ⟨#[], #[.int .i64 0, .slice none 0 0, .slice none 0 0], []⟩ 8 (by kernel_rfl) (by kernel_rfl) (by kernel_rfl) (by kernel_rfl)) ?_
  intro W base args ds gs before hval0 hW hcnd _
  have hval : ∀ (j : Nat) t v, Try.f3.params[j]? = some t → args[j]? = some v → Value.okWide Try.prog W .any base t v := hval0
  have hW' := hW
  obtain ⟨p, q, hA0, hV, rfl, hfz, hnd⟩ := hW
  have hA : DataW.TrodAll enc Try.prog W 0 (fun _ => true) true Try.f3.params.toList args.toList ds p := hA0
  rw [Try.params3] at hA hval
  obtain ⟨v0, vs0, d0, ds0, p0, q0, hargs, rfl, rfl, h0, r0⟩ := trodAll_cons hA
  obtain ⟨v1, vs1, d1, ds1, p1, q1, rfl, rfl, rfl, h1, r1⟩ := trodAll_cons r0
  obtain ⟨v2, vs2, d2, ds2, p2, q2, rfl, rfl, rfl, h2, r2⟩ := trodAll_cons r1
  obtain ⟨rfl, rfl, rfl⟩ := trodAll_nil r2
  obtain rfl : args = #[v0, v1, v2] := by cases args; simp_all
  obtain ⟨rfl, rfl⟩ := trodVars_none hV
  obtain ⟨a0, rfl, rfl, rfl, w0⟩ := open_int Try.underlying3 (hval 0 3 v0 rfl rfl) h0
  obtain ⟨A1, n1, c1, rfl⟩ := okWide_slice Try.underlying22 (hval 1 22 v1 rfl rfl)
  obtain ⟨A2, n2, c2, rfl⟩ := okWide_slice Try.underlying23 (hval 2 23 v2 rfl rfl)
  clear hA0 hval0
  simp only [List.append_nil, List.nil_append] at hW'
  have hlt : ∀ x ∈ p1 ++ p2, x.block < W.heap.size := fun x hx => by simpa using hW'.lt x hx
  obtain ⟨f1, hf1⟩ := id h1
  obtain ⟨f2, hf2⟩ := id h2
  refine (plays_walk a0 A1 A2 n1 c1 n2 c2 W (groups_open hf1) (ints_open hf2)).mono fun e W' ⟨he, hg⟩ => ?_
  subst he
  have hb := grownBy_below hg _ (Nat.le_refl _) nofun
  exact ⟨_, rfl, _, _, _, [], _, [], hW', (trodAll_cons_mk (shut_bool Try.underlying4 _) trodAll_mk0),
    (trodAll_cons_mk (shut_int Try.underlying3 w0) (trodAll_cons_mk (Below.trod laidOut (by kernel_rfl) (of_decide_eq_true (by kernel_rfl)) h1 hb (fun x hx => hlt x (by simp [hx]))) (trodAll_cons_mk (Below.trod laidOut (by kernel_rfl) (of_decide_eq_true (by kernel_rfl)) h2 hb (fun x hx => hlt x (by simp [hx]))) trodAll_mk0))), rfl, hb.frame _, nofun⟩

theorem over : Rows.historyPlaysRow.holds Try.pinned (OpenSpec.ofChange Rows.historyPlaysSpec) :=
  OpenClaim.holds_of_wide 3 Try.f3 rfl rfl rfl rfl rfl rfl rfl ⟨rfl, rfl, rfl, rfl, rfl⟩ rfl rfl rfl rfl rfl (by kernel_rfl) Try.func3 (by kernel_rfl)
    (of_decide_eq_true (by kernel_rfl)) (by unfold Func.isWrapper; first | (rw [if_pos (by decide +kernel)]; kernel_rfl) | (rw [if_neg (by decide +kernel)]; exact ⟨rfl, rfl⟩))
    (fun os started H enc _ => lifted os started H enc)

theorem proved : Rows.HistoryPlaysSaid := over
#print axioms proved
end Go.Proofs.Ytiiaphgencoijaa.historyPlays
