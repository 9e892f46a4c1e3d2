/-
  A region and the document's places, with a call's own block beside them; lists of calls; the law RegionPlays: the walk. Conditions: at most 100000 places.
-/
import Derived.Test.YtijpienjejfmiaaRg18
import Derived.Test.YtijpienjejfmiaaOpen
namespace Go.Proofs.Ytijpienjejfmiaa
open Go Go.RowKit Go.ChangeShapes Go.WideShapes Go.Deep

/-- A call. -/
structure Op4 where
  k : Int
  a : Int
  b : Int
  c : Int

def rowO : List Op4 → List Value
  | [] => []
  | s :: l => .int .i64 s.k :: .int .i64 s.a :: .int .i64 s.b :: .int .i64 s.c :: rowO l

theorem rowO_at : ∀ (l : List Op4) (j : Nat) (hj : j < l.length), (rowO l)[j * 4]? = some (.int .i64 l[j].k) ∧ (rowO l)[j * 4 + 1]? = some (.int .i64 l[j].a) ∧ (rowO l)[j * 4 + 2]? = some (.int .i64 l[j].b) ∧ (rowO l)[j * 4 + 3]? = some (.int .i64 l[j].c)
  | s :: l, 0, _ => ⟨rfl, rfl, rfl, rfl⟩
  | s :: l, j + 1, h => by
    have ih := rowO_at l j (by simpa using h)
    have e : ∀ i, (rowO (s :: l))[(j + 1) * 4 + i]? = (rowO l)[j * 4 + i]? := fun i => by
      rw [show (j + 1) * 4 + i = j * 4 + i + 1 + 1 + 1 + 1 by omega]
      rfl
    have e0 := e 0
    rw [Nat.add_zero, Nat.add_zero] at e0
    rw [e0, e 1, e 2, e 3]
    exact ih

theorem rowO_length : ∀ l : List Op4, (rowO l).length = l.length * 4
  | [] => rfl
  | s :: l => by show (rowO l).length + 1 + 1 + 1 + 1 = (l.length + 1) * 4; rw [rowO_length l]; omega

def OpIn (o : Op4) : Prop := In64 o.k ∧ In64 o.a ∧ In64 o.b ∧ In64 o.c

theorem cells_op : Try.prog.cellsOf 44 = 4 := by kernel_rfl

section
variable {H : Type} {enc : TypeId × Value → H} {W : World} {held : Bool}

theorem four {α : Type} {l : List α} (h : l.length = 4) : ∃ a b c d, l = [a, b, c, d] := by
  match l, h with
  | [a, b, c, d], _ => exact ⟨a, b, c, d, rfl⟩

theorem op_cells (m : Nat) (cs : List Value) (y : DataW H × List MemPlace) (hl : cs.length = 4) (h : DataW.trod enc Try.prog W 0 (fun _ => true) held m 44 cs = some y) :
    ∃ o : Op4, cs = [.int .i64 o.k, .int .i64 o.a, .int .i64 o.b, .int .i64 o.c] ∧ OpIn o := by
  obtain ⟨xs, n, _, _, _, hxl, hf⟩ := DataW.trod_struct Try.underlying44 h
  obtain ⟨c0, c1, c2, c3, rfl⟩ := four hl
  have l4 : xs.length = 4 := hxl
  have f0 : DataW.trod enc Try.prog W 0 (fun _ => true) held n 3 (([c0, c1, c2, c3].drop 0).take (Try.prog.cellsOf 3)) = xs[0]? := hf 0 _ rfl
  have f1 : DataW.trod enc Try.prog W 0 (fun _ => true) held n 3 (([c0, c1, c2, c3].drop 1).take (Try.prog.cellsOf 3)) = xs[1]? := hf 1 _ rfl
  have f2 : DataW.trod enc Try.prog W 0 (fun _ => true) held n 3 (([c0, c1, c2, c3].drop 2).take (Try.prog.cellsOf 3)) = xs[2]? := hf 2 _ rfl
  have f3 : DataW.trod enc Try.prog W 0 (fun _ => true) held n 3 (([c0, c1, c2, c3].drop 3).take (Try.prog.cellsOf 3)) = xs[3]? := hf 3 _ rfl
  rw [cells_int, List.getElem?_eq_getElem (by omega)] at f0 f1 f2 f3
  obtain ⟨z0, e0, _, w0⟩ := DataW.trod_int Try.underlying3 f0
  obtain ⟨z1, e1, _, w1⟩ := DataW.trod_int Try.underlying3 f1
  obtain ⟨z2, e2, _, w2⟩ := DataW.trod_int Try.underlying3 f2
  obtain ⟨z3, e3, _, w3⟩ := DataW.trod_int Try.underlying3 f3
  simp at e0 e1 e2 e3
  exact ⟨⟨z0, z1, z2, z3⟩, by rw [e0, e1, e2, e3], in64_wf w0, in64_wf w1, in64_wf w2, in64_wf w3⟩

theorem ops_open {A : Option Addr} {n c m : Nat} {y : DataW H × List MemPlace} (h : DataW.trod enc Try.prog W 0 (fun _ => true) held m 36 [.slice A n c] = some y) :
    ∃ zs : List Op4, n ≤ 9223372036854775807 ∧ Sl W 4 A n (rowO zs) ∧ ∀ z ∈ zs, OpIn z := by
  obtain ⟨hle, hm, g, hlen, hc, hx⟩ := open_rows Try.underlying36 cells_op (by omega) (fun l => ∃ o : Op4, l = [.int .i64 o.k, .int .i64 o.a, .int .i64 o.b, .int .i64 o.c] ∧ OpIn o) (fun m cs y hl h => op_cells m cs y hl h) h
  have hs := sl_of_rows hlen hc (Q := fun l => ∃ o : Op4, l = [.int .i64 o.k, .int .i64 o.a, .int .i64 o.b, .int .i64 o.c] ∧ OpIn o) (by
    rintro l ⟨o, rfl, _⟩ x hx
    simp at hx
    rcases hx with rfl | rfl | rfl | rfl <;> rfl) hx
  have key : ∀ i, i < n → ∃ o : Op4, OpIn o ∧ g[i * 4]? = some (.int .i64 o.k) ∧ g[i * 4 + 1]? = some (.int .i64 o.a) ∧ g[i * 4 + 2]? = some (.int .i64 o.b) ∧ g[i * 4 + 3]? = some (.int .i64 o.c) := fun i hi => by
    obtain ⟨l, _, ⟨o, rfl, ho⟩, hj⟩ := hx i hi
    exact ⟨o, ho, by have := hj 0 (by omega); simpa using this, by have := hj 1 (by omega); simpa using this, by have := hj 2 (by omega); simpa using this, by have := hj 3 (by omega); simpa using this⟩
  have hall : ∀ (n : Nat) (g : List Value), g.length = n * 4 → (∀ i, i < n → ∃ o : Op4, OpIn o ∧ g[i * 4]? = some (.int .i64 o.k) ∧ g[i * 4 + 1]? = some (.int .i64 o.a) ∧ g[i * 4 + 2]? = some (.int .i64 o.b) ∧ g[i * 4 + 3]? = some (.int .i64 o.c)) → ∃ zs : List Op4, g = rowO zs ∧ ∀ z ∈ zs, OpIn z := by
    intro n
    induction n with
    | zero => exact fun g hg _ => ⟨[], List.eq_nil_of_length_eq_zero (by simpa using hg), by simp⟩
    | succ n ih =>
      intro g hg hk
      match g, hg with
      | [], hg => simp at hg
      | [_], hg => simp at hg; omega
      | [_, _], hg => simp at hg; omega
      | [_, _, _], hg => simp at hg; omega
      | x0 :: x1 :: x2 :: x3 :: g, hg =>
        obtain ⟨o, ho, h0, h1, h2, h3⟩ := hk 0 (by omega)
        obtain ⟨zs, hz, hz2⟩ := ih g (by simp at hg; omega) (fun i hi => by
          obtain ⟨o, ho, h0, h1, h2, h3⟩ := hk (i + 1) (by omega)
          have e : ∀ j, (x0 :: x1 :: x2 :: x3 :: g)[(i + 1) * 4 + j]? = g[i * 4 + j]? := fun j => by
            rw [show (i + 1) * 4 + j = i * 4 + j + 1 + 1 + 1 + 1 by omega]
            rfl
          have e0 := e 0
          rw [Nat.add_zero, Nat.add_zero] at e0
          rw [e0] at h0
          rw [e] at h1 h2 h3
          exact ⟨o, ho, h0, h1, h2, h3⟩)
        simp at h0 h1 h2 h3
        refine ⟨o :: zs, by rw [h0, h1, h2, h3, hz]; rfl, fun z hz' => ?_⟩
        rcases List.mem_cons.1 hz' with rfl | hz'
        · exact ho
        · exact hz2 z hz'
  obtain ⟨zs, rfl, hz⟩ := hall n g hlen key
  exact ⟨zs, by unfold maxLen at hm; omega, hs, hz⟩
end

abbrev opO (k a b c : Int) : Obj := .cells #[.int .i64 k, .int .i64 a, .int .i64 b, .int .i64 c] 44

/-- Both in memory, and a call's own block. -/
def PX (rb mb q ob : Nat) (k a b c : Int) (L : List Sp) (l : List Int) (w wk : World) : Prop :=
  ∃ v K, RN rb mb K L w wk ∧ R2 q l v wk ∧ (q, r2O v) ∈ K ∧ (∀ g, v.ownBlock = some g → ∃ o, (g, o) ∈ K) ∧ w.heap.size ≤ q ∧ (ob, opO k a b c) ∈ K

section
variable {rb mb q ob : Nat} {k a b c : Int} {L L' : List Sp} {l l' : List Int} {w wk w' : World}

theorem PX.pn (h : PX rb mb q ob k a b c L l w wk) : PN rb mb q L l w wk := by
  obtain ⟨v, K, h1, h2, h3, h4, h5, _⟩ := h
  exact ⟨v, K, h1, h2, h3, h4, h5⟩

theorem PX.obj (h : PX rb mb q ob k a b c L l w wk) : wk.heap[ob]? = some (opO k a b c) := by
  obtain ⟨v, K, h1, h2, h3, h4, h5, h6⟩ := h
  exact MN.held h1 (p := (ob, opO k a b c)) (by simp [h6])

theorem PN.box (h : PN rb mb q L l w wk) (g : wk.grownBy w' none) (ho : w'.heap[ob]? = some (opO k a b c)) (hob : wk.heap.size ≤ ob) : PX rb mb q ob k a b c L l w w' := by
  obtain ⟨v, K, h1, h2, h3, h4, h5⟩ := h
  refine ⟨v, (ob, opO k a b c) :: K, ?_, h2.ofHeap g, by simp [h3], fun g hg => ?_, h5, by simp⟩
  · obtain ⟨B, m1, m2, m3, m4⟩ := h1
    refine ⟨B, m1.kept g, m2, grownBy_trans m3 g nofun, fun p hp => ?_⟩
    simp only [List.mem_cons] at hp
    rcases hp with rfl | rfl | hp
    · have := m4 (rb, rgO mb) (by simp)
      exact ⟨grownBy_heap g this.1 nofun, this.2⟩
    · exact ⟨ho, fun hm => by have := m1.lt _ hm; omega⟩
    · have := m4 p (by simp [hp])
      exact ⟨grownBy_heap g this.1 nofun, this.2⟩
  · obtain ⟨o, ho⟩ := h4 g hg
    exact ⟨o, by simp [ho]⟩

theorem PX.kept (h : PX rb mb q ob k a b c L l w wk) (g : wk.grownBy w' none) : PX rb mb q ob k a b c L l w w' := by
  obtain ⟨v, K, h1, h2, h3, h4, h5, h6⟩ := h
  exact ⟨v, K, MN.kept h1 g, h2.ofHeap g, h3, h4, h5, h6⟩

theorem PX.reg {v : Value} {K : List (Nat × Obj)} (h1 : RN rb mb K L w wk) (h2 : R2 q l v wk) (h3 : (q, r2O v) ∈ K) (h4 : ∀ g, v.ownBlock = some g → ∃ o, (g, o) ∈ K) (h5 : w.heap.size ≤ q) (h6 : (ob, opO k a b c) ∈ K) (k1 : RN rb mb K L' w w') : PX rb mb q ob k a b c L' l w w' :=
  ⟨v, K, k1, h2.held h1 k1 h3 h4, h3, h4, h5, h6⟩

theorem PX.ref {v : Value} {K : List (Nat × Obj)} (h1 : RN rb mb K L w wk) (h2 : R2 q l v wk) (h3 : (q, r2O v) ∈ K) (h4 : ∀ g, v.ownBlock = some g → ∃ o, (g, o) ∈ K) (h5 : w.heap.size ≤ q) (h6 : (ob, opO k a b c) ∈ K) (r : R2s q l' v wk w') : PX rb mb q ob k a b c L l' w w' := by
  have hob := MN.held h1 (p := (ob, opO k a b c)) (by simp [h6])
  have hobB : ∀ B : List Nat, (∀ p ∈ (rb, rgO mb) :: K, wk.heap[p.1]? = some p.2 ∧ p.1 ∉ B) → ob ∉ B := fun B m4 => (m4 (ob, opO k a b c) (by simp [h6])).2
  have hob' : w'.heap[ob]? = some (opO k a b c) := r.only.heap hob fun hm => by
    rcases List.mem_cons.1 hm with e | hm
    · simp only at hob
      rw [e, h2.obj] at hob
      simp at hob
    · rcases h2.own.2 with ⟨rfl, _⟩ | ⟨g, cap, cur, rfl, e3, e4, _⟩
      · cases mem_ownB.1 hm
      · have := mem_ownB.1 hm
        cases this
        simp only at hob
        rw [e4] at hob
        simp at hob
  obtain ⟨B, m1, m2, m3, m4⟩ := h1
  have hoB := hobB B m4
  have hq : q ∉ B := (m4 (q, r2O v) (by simp [h3])).2
  obtain ⟨⟨v', k1, k2⟩, k3⟩ := r
  have hrow : ∀ g, v.ownBlock = some g → g ∉ B ∧ w.heap.size ≤ g := fun g hg => by
    obtain ⟨o, ho⟩ := h4 g hg
    exact ⟨(m4 (g, o) (by simp [ho])).2, by have := (h2.own.lt g hg).1; omega⟩
  have hrb := m4 (rb, rgO mb) (by simp)
  have nq : rb ≠ q := fun e => by
    have e1 := hrb.1
    simp only at e1
    rw [e, h2.obj] at e1
    simp [rgO] at e1
  have nrow : v.ownBlock ≠ some rb := fun e => by
    rcases h2.own.2 with ⟨rfl, _⟩ | ⟨g, cap, cur, rfl, e3, e4, _⟩
    · cases e
    · cases e
      have e1 := hrb.1
      simp only at e1
      rw [e4] at e1
      simp [rgO] at e1
  have hC : ∀ b ∈ q :: ownB v, b ∉ B ∧ w.heap.size ≤ b := fun b hb => by
    rcases List.mem_cons.1 hb with rfl | hb
    · exact ⟨hq, h5⟩
    · exact hrow b (mem_ownB.1 hb)
  have hMk : Mk w' mb B L [] := m1.only k3 fun x hx hm => (hC x hm).1 hx
  have hG : w.grownBy w' none := Only.toGrown m3 k3 fun b hb => (hC b hb).2
  have hnew : ∀ g, v'.ownBlock = some g → g ∉ B := fun g hg hm => by
    rcases k2 g hg with h6 | h6
    · exact (hrow g h6).1 hm
    · have := m1.lt _ hm
      omega
  have hrb' : w'.heap[rb]? = some (rgO mb) := k3.heap hrb.1 fun hm => by
    rcases List.mem_cons.1 hm with e | hm
    · exact nq e
    · exact nrow (mem_ownB.1 hm)
  rcases k1.own.2 with ⟨e, _⟩ | ⟨g, cap, cur, e, e3, e4, _⟩
  · refine ⟨v', [(q, r2O v'), (ob, opO k a b c)], ⟨B, hMk, m2, hG, fun p hp => ?_⟩, k1, by simp, fun g hg => (by rw [e] at hg; cases hg), h5, by simp⟩
    simp only [List.mem_cons, List.not_mem_nil, or_false] at hp
    rcases hp with rfl | rfl | rfl
    · exact ⟨hrb', hrb.2⟩
    · exact ⟨k1.obj, hq⟩
    · exact ⟨hob', hoB⟩
  · have hgo : v'.ownBlock = some g := by rw [e]; rfl
    refine ⟨v', [(q, r2O v'), (g, .cells cur 3 (0, 0)), (ob, opO k a b c)], ⟨B, hMk, m2, hG, fun p hp => ?_⟩, k1, by simp, fun g' hg' => ?_, h5, by simp⟩
    · simp only [List.mem_cons, List.not_mem_nil, or_false] at hp
      rcases hp with rfl | rfl | rfl | rfl
      · exact ⟨hrb', hrb.2⟩
      · exact ⟨k1.obj, hq⟩
      · exact ⟨e4, hnew g hgo⟩
      · exact ⟨hob', hoB⟩
    · rw [hgo] at hg'
      cases hg'
      exact ⟨.cells cur 3 (0, 0), by simp⟩

theorem PX.rset (h : PX rb mb q ob k a b c L l w wk) {z : Int} (hr : Rn z L) (hb : z ≤ 100000) (hl : (L.length : Int) ≤ z) (f t g : Int) :
    Calls Try.prog 20 #[.pointer (some ⟨rb, 0, none⟩), .int .i64 f, .int .i64 t, .int .i64 g] wk fun e w' => e = .returned (.bool (okB f t g)) ∧ PX rb mb q ob k a b c (setX f t g L) l w w' := by
  by_cases ho : okB f t g = true
  · obtain ⟨o1, o2, o3, o4, o5⟩ := okB_true ho
    rw [ho]
    by_cases hft : f < t
    · rw [show setX f t g L = setL f t g L from if_pos ⟨ho, hft⟩]
      obtain ⟨v, K, h1, h2, h3, h4, h5, h6⟩ := h
      refine (rset_walk f t g o1 hft o3 ⟨o4, o5⟩ (hr.ok (by omega)) (by omega) h1).mono ?_
      rintro e w' ⟨rfl, k1⟩
      exact ⟨rfl, PX.reg h1 h2 h3 h4 h5 h6 k1⟩
    · have e : f = t := by omega
      subst e
      rw [show setX f f g L = L from if_neg (fun h => hft h.2)]
      refine (rset_eq rb f g o1 o3 o4 o5 wk).mono ?_
      rintro e w' ⟨rfl, rfl⟩
      exact ⟨rfl, h⟩
  · rw [show setX f t g L = L from if_neg (fun h => ho h.1), Bool.eq_false_iff.2 ho]
    refine (rset_bad rb f t g (okB_false ho) wk).mono ?_
    rintro e w' ⟨rfl, rfl⟩
    exact ⟨rfl, h⟩

theorem PX.redit (h : PX rb mb q ob k a b c L l w wk) {z : Int} (hr : Rn z L) (hb : z ≤ 100000) (hl : (L.length : Int) ≤ z) (x d i : Int) (hi : -9223372036854775808 ≤ i ∧ i ≤ 1000000) :
    Calls Try.prog 22 #[.pointer (some ⟨rb, 0, none⟩), .int .i64 x, .int .i64 d, .int .i64 i] wk fun e w' => e = .returned (.tuple #[]) ∧ PX rb mb q ob k a b c (evenE (cutI x) (cutI d) (cutI i) L) l w w' := by
  obtain ⟨v, K, h1, h2, h3, h4, h5, h6⟩ := h
  refine (redit_walk x d i hi (hr.ok (by omega)) (hr.low (by omega)) (by omega) h1).mono ?_
  rintro e w' ⟨rfl, k1⟩
  exact ⟨rfl, PX.reg h1 h2 h3 h4 h5 h6 k1⟩

theorem PX.wset (h : PX rb mb q ob k a b c L l w wk) (f t g : Int) (ht : t ≤ 3000) :
    Calls Try.prog 21 #[.pointer (some ⟨q, 0, none⟩), .int .i64 f, .int .i64 t, .int .i64 g] wk fun e w' => e = .returned (.bool (okB f t g)) ∧ PX rb mb q ob k a b c L (setY f t g l) w w' := by
  by_cases ho : okB f t g = true
  · obtain ⟨o1, o2, o3, o4, o5⟩ := okB_true ho
    rw [ho, show setY f t g l = fillN f.toNat g (t.toNat - f.toNat) (padZ (t.toNat - l.length) l) from if_pos ho]
    obtain ⟨v, K, h1, h2, h3, h4, h5, h6⟩ := h
    obtain ⟨F, rfl⟩ : ∃ F : Nat, f = (F : Int) := ⟨f.toNat, by omega⟩
    obtain ⟨T, rfl⟩ : ∃ T : Nat, t = (T : Int) := ⟨t.toNat, by omega⟩
    rw [Int.toNat_natCast, Int.toNat_natCast]
    refine (set22_walk F T g (by omega) (by omega) ⟨o4, o5⟩ h2).mono ?_
    rintro e w' ⟨rfl, k1⟩
    exact ⟨rfl, PX.ref h1 h2 h3 h4 h5 h6 k1⟩
  · rw [show setY f t g l = l from if_neg ho, Bool.eq_false_iff.2 ho]
    refine (set22_bad q f t g (okB_false ho) wk).mono ?_
    rintro e w' ⟨rfl, rfl⟩
    exact ⟨rfl, h⟩
end
end Go.Proofs.Ytijpienjejfmiaa

namespace Go.Proofs.Ytijpienjejfmiaa
open Go Go.RowKit

theorem wsetX_alloc {w : World} {o : Obj} : w.grownBy (w.alloc o) none := grownBy_alloc (grownBy_refl w none) o

set_option maxRecDepth 100000 in
set_option maxHeartbeats 4000000 in
theorem plays_walk (zs : List Op4) (A : Option Addr) (n c : Nat) (at_ : Int) (w : World) (hn : n ≤ 9223372036854775807) (hA : Sl w 4 A n (rowO zs) ∧ ∀ z ∈ zs, OpIn z) (hat : In64 at_) :
    Calls Try.prog 5 #[.slice A n c, .int .i64 at_] w (TrueRes w) := by
  obtain ⟨hA, hz⟩ := hA
  have HA := Lib.hid hA
  have HZ := Lib.hid hz
  have hxl : zs.length = n := by have := hA.1; rw [rowO_length] at this; omega
  have HXL := Lib.hid hxl
  have HIN := Lib.hid hat
  clear hA hxl hz hat
  go_enter Try.func5, Try.ntmps5
  go_wp2_with fail
  refine (rnew_walk w).mono ?_
  rintro e w1 ⟨rb, mb, rfl, h1⟩
  have H2 := Lib.hid (PN.start h1)
  clear h1
  by_cases hbig : 60 < n
  · have b1 : (60 : Int) < (n : Int) := by omega
    have HG2 := Lib.hid H2.out.grown
    go_wp2_with fail
    refine (awake22_walk _).mono ?_
    rintro e w8 ⟨rfl, hg8⟩
    have HG8 := Lib.hid (grownBy_trans HG2.out hg8 nofun)
    clear hg8
    go_wp2_with fail
    go_ret
    exact ⟨rfl, HG8.out⟩
  · have b1 : ¬ (60 : Int) < (n : Int) := by omega
    go_wp2_with fail
    go_loopw [7] (fun iv wr => NumRel rb mb w1.heap.size n w iv wr) (fun iv _ => n - (RowKit.intOf iv).toNat)
    case atStart => exact ⟨0, Nat.zero_le _, rfl, [], [], H2.out, Agree.nil.mono (by omega)⟩
    case round =>
      obtain ⟨j, hj, rfl, L, l, hp, hag⟩ := hrel.out
      rcases Nat.lt_or_ge j n with hlt | hge
      · have hltI : (j : Int) < (n : Int) := Int.ofNat_lt.2 hlt
        obtain ⟨p1, o1, rfl, hc1⟩ := (HA.out.kept hp.grown nofun).2.2 (by omega)
        have hjx : j < zs.length := by rw [HXL.out]; exact hlt
        have hin := HZ.out zs[j] (List.getElem_mem hjx)
        obtain ⟨r0, r1, r2, r3⟩ := rowO_at zs j hjx
        have x0 := hc1 _ _ r0
        have x1 := hc1 _ _ r1
        have x2 := hc1 _ _ r2
        have x3 := hc1 _ _ r3
        rw [← Nat.add_assoc] at x1 x2 x3
        have hpl := fun w => place_any zs[j].k 5 w (by decide) (by decide)
        have hpa := fun w => place_any at_ 4000 w (by decide) (by decide)
        have hkb : 0 ≤ zs[j].k % 5 ∧ zs[j].k % 5 < 5 := by omega
        have hab : 0 ≤ at_ % 4000 ∧ at_ % 4000 < 4000 := by omega
        generalize zs[j] = s at *
        generalize s.k % 5 = m5 at *
        generalize at_ % 4000 = kk at *
        have HP := Lib.hid hp
        have HAG := Lib.hid hag
        have HI := Lib.hid hin
        have HAB := Lib.hid hab
        have hj60 : j < 60 := by omega
        clear hc1 hjx hp hag r0 r1 r2 r3 hin HXL HZ hab
        go_upto_region 8 with (fail)
        have hA7 := heap_new wr (opO s.k s.a s.b s.c)
        have hg7 := grownBy_alloc (grownBy_refl wr none) (opO s.k s.a s.b s.c)
        generalize hw7 : wr.alloc (opO s.k s.a s.b s.c) = w7 at *
        have hobl : wr.heap.size ≤ wr.heap.size := Nat.le_refl _
        generalize hob : wr.heap.size = ob at hA7 ⊢
        rw [hob] at hobl
        have a0 := cell_of_heap hA7 0
        have a1 := cell_of_heap hA7 1
        have a2 := cell_of_heap hA7 2
        have a3 := cell_of_heap hA7 3
        have fz2 := frozen_of_heap hA7 2
        have fz3 := frozen_of_heap hA7 3
        have HA7 := Lib.hid hA7
        have HG7 := Lib.hid hg7
        have HOB := Lib.hid hob
        clear hA7 hg7 hw7 hob x0 x1 x2 x3 hobl
        go_wp2_with fail
        refine (hpl _).mono ?_
        rintro e u1 ⟨rfl, eu⟩
        subst eu
        go_upto_if 38 with (fail)
        go_cut [] from 25 to 105 (fun wx => ∃ L l, PN rb mb w1.heap.size L l w wx ∧ Agree (3000 + 300 * ((j : Int) + 1)) L l)
        case first =>
          have hb1 : 0 ≤ 3000 + 300 * (j : Int) ∧ 3000 + 300 * (j : Int) ≤ 100000 := by omega
          have hLl := HAG.out.runs_length hb1.1 HP.out.ord
          have HHB := Lib.hid (And.intro hb1 hLl)
          clear hb1 hLl
          by_cases hm : m5 < 3
          · obtain ⟨B, hB⟩ : ∃ B, min s.b 3000 = B := ⟨_, rfl⟩
            have hB3 : B ≤ 3000 := by omega
            have hmn : ∀ (ts : Array TypeId) (ty : TypeId) (w : World), (Builtin.min_ ts ty #[.int .i64 s.b, .int .i64 3000]).run Try.prog w = .ok (.int .i64 B) w := by
              intro ts ty w
              rw [run_min_int2]; congr 2; split <;> omega
            have hA9 : (w7.setCell ⟨ob, 2, none⟩ (.int .i64 B)).heap[ob]? = some (opO s.k s.a B s.c) := heap_setCell HA7.out 2 _
            have hg9 : wr.grownBy (w7.setCell ⟨ob, 2, none⟩ (.int .i64 B)) none := grownBy_setCell HG7.out ob 2 _ (.inr (by rw [HOB.out]; exact Nat.le_refl _))
            have HX := Lib.hid (HP.out.box hg9 hA9 (by rw [HOB.out]; exact Nat.le_refl _))
            have HB3 := Lib.hid hB3
            clear hA9 hg9 hB hB3
            go_upto_region 10 with (fail)
            generalize hw9 : w7.setCell ⟨ob, 2, none⟩ (.int .i64 B) = w9 at *
            have hO9 : w9.drew.heap[ob]? = some (opO s.k s.a B s.c) := HX.out.obj
            refine region_hw (fun u => u.heap[ob]? = some (opO s.k s.a B s.c)) (by kernel_rfl) hO9 (fun hHeld => ?_)
            clear a0 a1 a2 a3 fz2 fz3 hw9 hO9
            go_simp
            refine hw_take 0 (v := ?_) rfl (by kernel_rfl) (by kernel_rfl) (by kernel_rfl) (fun _ _ _ h => h) (by rfl) (fun u hu => ?_) (by assumption) ?_
            rotate_left
            focus ((try dsimp only at hu); (have a1 := cell_of_heap hu 1; have a2 := cell_of_heap hu 2; have a3 := cell_of_heap hu 3); go_simp; (try with_reducible rfl); done)
            try simp only [Act.put, List.setIfInBounds_toArray, List.set_cons_zero, List.set_cons_succ]
            refine hw_take 1 (v := ?_) rfl (by kernel_rfl) (by kernel_rfl) (by kernel_rfl) (fun _ _ _ h => h) (by rfl) (fun u hu => ?_) (by assumption) ?_
            rotate_left
            focus ((try dsimp only at hu); (have a1 := cell_of_heap hu 1; have a2 := cell_of_heap hu 2; have a3 := cell_of_heap hu 3); go_simp; (try with_reducible rfl); done)
            try simp only [Act.put, List.setIfInBounds_toArray, List.set_cons_zero, List.set_cons_succ]
            refine hw_take 2 (v := ?_) rfl (by kernel_rfl) (by kernel_rfl) (by kernel_rfl) (fun _ _ _ h => h) (by rfl) (fun u hu => ?_) (by assumption) ?_
            rotate_left
            focus ((try dsimp only at hu); (have a1 := cell_of_heap hu 1; have a2 := cell_of_heap hu 2; have a3 := cell_of_heap hu 3); go_simp; (try with_reducible rfl); done)
            try simp only [Act.put, List.setIfInBounds_toArray, List.set_cons_zero, List.set_cons_succ]
            refine hw_take 3 (v := ?_) rfl (by kernel_rfl) (by kernel_rfl) (by kernel_rfl) (fun _ _ _ h => h) (by rfl) (fun u hu => ?_) (by assumption) ?_
            rotate_left
            focus ((try dsimp only at hu); (have a1 := cell_of_heap hu 1; have a2 := cell_of_heap hu 2; have a3 := cell_of_heap hu 3); go_simp; (try with_reducible rfl); done)
            try simp only [Act.put, List.setIfInBounds_toArray, List.set_cons_zero, List.set_cons_succ]
            refine hw_take 4 (v := ?_) rfl (by kernel_rfl) (by kernel_rfl) (by kernel_rfl) (fun _ _ _ h => h) (by rfl) (fun u hu => ?_) (by assumption) ?_
            rotate_left
            focus ((try dsimp only at hu); (have a1 := cell_of_heap hu 1; have a2 := cell_of_heap hu 2; have a3 := cell_of_heap hu 3); go_simp; (try with_reducible rfl); done)
            try simp only [Act.put, List.setIfInBounds_toArray, List.set_cons_zero, List.set_cons_succ]
            refine hw_take 5 (v := ?_) rfl (by kernel_rfl) (by kernel_rfl) (by kernel_rfl) (fun _ _ _ h => h) (by rfl) (fun u hu => ?_) (by assumption) ?_
            rotate_left
            focus ((try dsimp only at hu); (have a1 := cell_of_heap hu 1; have a2 := cell_of_heap hu 2; have a3 := cell_of_heap hu 3); go_simp; (try with_reducible rfl); done)
            try simp only [Act.put, List.setIfInBounds_toArray, List.set_cons_zero, List.set_cons_succ]
            refine hw_take 6 (v := ?_) rfl (by kernel_rfl) (by kernel_rfl) (by kernel_rfl) (fun _ _ _ h => h) (by rfl) (fun u hu => ?_) (by assumption) ?_
            rotate_left
            focus ((try dsimp only at hu); (have a1 := cell_of_heap hu 1; have a2 := cell_of_heap hu 2; have a3 := cell_of_heap hu 3); go_simp; (try with_reducible rfl); done)
            try simp only [Act.put, List.setIfInBounds_toArray, List.set_cons_zero, List.set_cons_succ]
            refine hw_take 8 (v := ?_) rfl (by kernel_rfl) (by kernel_rfl) (by kernel_rfl) (fun _ _ _ h => h) (by rfl) (fun u hu => ?_) (by assumption) ?_
            rotate_left
            focus ((try dsimp only at hu); (have a1 := cell_of_heap hu 1; have a2 := cell_of_heap hu 2; have a3 := cell_of_heap hu 3); go_simp; (try with_reducible rfl); done)
            try simp only [Act.put, List.setIfInBounds_toArray, List.set_cons_zero, List.set_cons_succ]
            refine hw_take 9 (v := ?_) rfl (by kernel_rfl) (by kernel_rfl) (by kernel_rfl) (fun _ _ _ h => h) (by rfl) (fun u hu => ?_) (by assumption) ?_
            rotate_left
            focus ((try dsimp only at hu); (have a1 := cell_of_heap hu 1; have a2 := cell_of_heap hu 2; have a3 := cell_of_heap hu 3); go_simp; (try with_reducible rfl); done)
            try simp only [Act.put, List.setIfInBounds_toArray, List.set_cons_zero, List.set_cons_succ]
            refine hw_take 10 (v := ?_) rfl (by kernel_rfl) (by kernel_rfl) (by kernel_rfl) (fun _ _ _ h => h) (by rfl) (fun u hu => ?_) (by assumption) ?_
            rotate_left
            focus ((try dsimp only at hu); (have a1 := cell_of_heap hu 1; have a2 := cell_of_heap hu 2; have a3 := cell_of_heap hu 3); go_simp; (try with_reducible rfl); done)
            try simp only [Act.put, List.setIfInBounds_toArray, List.set_cons_zero, List.set_cons_succ]
            refine hw_take 11 (v := ?_) rfl (by kernel_rfl) (by kernel_rfl) (by kernel_rfl) (fun _ _ _ h => h) (by rfl) (fun u hu => ?_) (by assumption) ?_
            rotate_left
            focus ((try dsimp only at hu); (have a1 := cell_of_heap hu 1; have a2 := cell_of_heap hu 2; have a3 := cell_of_heap hu 3); go_simp; (try with_reducible rfl); done)
            try simp only [Act.put, List.setIfInBounds_toArray, List.set_cons_zero, List.set_cons_succ]
            refine hw_take 12 (v := ?_) rfl (by kernel_rfl) (by kernel_rfl) (by kernel_rfl) (fun _ _ _ h => h) (by rfl) (fun u hu => ?_) (by assumption) ?_
            rotate_left
            focus ((try dsimp only at hu); (have a1 := cell_of_heap hu 1; have a2 := cell_of_heap hu 2; have a3 := cell_of_heap hu 3); go_simp; (try with_reducible rfl); done)
            try simp only [Act.put, List.setIfInBounds_toArray, List.set_cons_zero, List.set_cons_succ]
            refine hw_take 13 (v := ?_) rfl (by kernel_rfl) (by kernel_rfl) (by kernel_rfl) (fun _ _ _ h => h) (by rfl) (fun u hu => ?_) (by assumption) ?_
            rotate_left
            focus ((try dsimp only at hu); (have a1 := cell_of_heap hu 1; have a2 := cell_of_heap hu 2; have a3 := cell_of_heap hu 3); go_simp; (try with_reducible rfl); done)
            try simp only [Act.put, List.setIfInBounds_toArray, List.set_cons_zero, List.set_cons_succ]
            refine hw_take 14 (v := ?_) rfl (by kernel_rfl) (by kernel_rfl) (by kernel_rfl) (fun _ _ _ h => h) (by rfl) (fun u hu => ?_) (by assumption) ?_
            rotate_left
            focus ((try dsimp only at hu); (have a1 := cell_of_heap hu 1; have a2 := cell_of_heap hu 2; have a3 := cell_of_heap hu 3); go_simp; (try with_reducible rfl); done)
            try simp only [Act.put, List.setIfInBounds_toArray, List.set_cons_zero, List.set_cons_succ]
            refine hw_one 7 (by kernel_rfl) rfl (fun K hK => ?_)
            go_simp
            go_at_call 20
            refine ((HX.out.kept (grownBy_drew (grownBy_refl w9 none))).rset HAG.out.rn HHB.out.1.2 HHB.out.2 s.a B s.c).mono ?_
            rintro e w2 ⟨rfl, hx2⟩
            have HX2 := Lib.hid hx2
            obtain ⟨β, hβ⟩ : ∃ β, okB s.a B s.c = β := ⟨_, rfl⟩
            have HBE := Lib.hid hβ
            rw [hβ]
            clear hx2 hβ
            try go_simp
            refine hK.out _ _ (by exact HX2.out.obj) (fun hHeld7 => ?_)
            clear hK K
            try simp only [Act.put, List.setIfInBounds_toArray, List.set_cons_zero, List.set_cons_succ]
            refine hw_one 15 (by kernel_rfl) rfl (fun K hK => ?_)
            go_simp
            go_at_call 21
            refine (HX2.out.wset s.a B s.c HB3.out).mono ?_
            rintro e w3 ⟨rfl, hx3⟩
            rw [HBE.out]
            have HX3 := Lib.hid hx3
            clear hx3
            have hbb : (β != β) = false := by simp
            try go_simp
            refine hK.out _ _ (by exact HX3.out.obj) (fun hHeld15 => ?_)
            clear hK K
            try simp only [Act.put, List.setIfInBounds_toArray, List.set_cons_zero, List.set_cons_succ]
            refine hw_take 16 (v := ?_) rfl (by kernel_rfl) (by kernel_rfl) (by kernel_rfl) (fun _ _ _ h => h) (by rfl) (fun u hu => ?_) (by assumption) ?_
            rotate_left
            focus ((try dsimp only at hu); (have a1 := cell_of_heap hu 1; have a2 := cell_of_heap hu 2; have a3 := cell_of_heap hu 3); go_simp; (try with_reducible rfl); done)
            try simp only [Act.put, List.setIfInBounds_toArray, List.set_cons_zero, List.set_cons_succ]
            refine hw_done (by kernel_rfl) ?_
            go_wp2_with fail
            go_meet
            exact ⟨_, _, HX3.out.pn, (HAG.out.setB s.a B s.c (by have := HB3.out; have := HHB.out.1; omega)).mono (by omega)⟩
          · obtain ⟨C, hC⟩ : ∃ C, min s.c 300 = C := ⟨_, rfl⟩
            have hC3 : C ≤ 300 := by omega
            have hC4 : -9223372036854775808 ≤ C := by have := HI.out.2.2.2.1; omega
            have hmn : ∀ (ts : Array TypeId) (ty : TypeId) (w : World), (Builtin.min_ ts ty #[.int .i64 s.c, .int .i64 300]).run Try.prog w = .ok (.int .i64 C) w := by
              intro ts ty w
              rw [run_min_int2]; congr 2; split <;> omega
            have hA9 : (w7.setCell ⟨ob, 3, none⟩ (.int .i64 C)).heap[ob]? = some (opO s.k s.a s.b C) := heap_setCell HA7.out 3 _
            have hg9 : wr.grownBy (w7.setCell ⟨ob, 3, none⟩ (.int .i64 C)) none := grownBy_setCell HG7.out ob 3 _ (.inr (by rw [HOB.out]; exact Nat.le_refl _))
            have HX := Lib.hid (HP.out.box hg9 hA9 (by rw [HOB.out]; exact Nat.le_refl _))
            have HC3 := Lib.hid (And.intro hC3 hC4)
            clear hA9 hg9 hC hC3 hC4
            go_upto_region 13 with (fail)
            generalize hw9 : w7.setCell ⟨ob, 3, none⟩ (.int .i64 C) = w9 at *
            have hO9 := HX.out.obj
            clear a0 a1 a2 a3 fz2 fz3 hw9
            have a1 := cell_of_heap hO9 1
            have a2 := cell_of_heap hO9 2
            have a3 := cell_of_heap hO9 3
            have HS1 := Lib.hid (HX.out.redit HAG.out.rn HHB.out.1.2 HHB.out.2 s.a s.b C (by have := HC3.out; omega))
            clear hO9
            go_wp2_with fail
            refine HS1.out.mono ?_
            rintro e w2 ⟨rfl, hx2⟩
            have hO2 := hx2.obj
            clear a1 a2 a3
            have a1 := cell_of_heap hO2 1
            have a2 := cell_of_heap hO2 2
            have a3 := cell_of_heap hO2 3
            have HS2 := Lib.hid (hx2.pn.wedit s.a s.b C HC3.out.1 (by have := HAG.out.len; have := HHB.out.1; omega))
            clear hO2 hx2
            go_wp2_with fail
            refine HS2.out.mono ?_
            rintro e w3 ⟨rfl, hp3⟩
            have HP3 := Lib.hid hp3
            clear hp3 a1 a2 a3
            go_wp2_with fail
            go_meet
            exact ⟨_, _, HP3.out, (HAG.out.editB s.a s.b C HC3.out.1 HHB.out.1).mono (by omega)⟩
        case rest =>
          clear HP HAG a0 a1 a2 a3 fz2 fz3 HA7 HG7 HOB HI hkb hpl
          obtain ⟨L2, l2, hp2, hag2⟩ := hcut
          have hab := HAB.out
          have hin := HIN.out
          unfold In64 at hin
          have hb1 : 0 ≤ 3000 + 300 * ((j : Int) + 1) ∧ 3000 + 300 * ((j : Int) + 1) ≤ 100000 := by omega
          have hLl := hag2.runs_length hb1.1 hp2.ord
          have hall := hag2.all hp2.ord
          have ha1 := hag2.at_ at_
          have ha2 := hag2.at_ kk
          have hRl : (runsL L2).length ≤ 100000 := by
            have := runsL_length L2 L2.length (Nat.le_refl _)
            rw [List.take_length] at this
            omega
          obtain ⟨R, hR⟩ : ∃ R, runsL L2 = R := ⟨_, rfl⟩
          have hC1 := hp2.rall hag2.rn hb1.2 hLl
          rw [hR] at hC1 hall hRl
          have HC1 := Lib.hid hC1
          have HALL := Lib.hid hall.symm
          have HRL := Lib.hid hRl
          have HAT := Lib.hid (And.intro ha1 ha2)
          have HFF := Lib.hid (And.intro hin (And.intro hab (And.intro hb1.2 hag2.len)))
          have HAG2 := Lib.hid hag2
          clear hp2 hag2 hab hin hb1 hLl hall ha1 ha2 hRl hR hC1
          go_wp2_with fail
          refine (hpa _).mono ?_
          rintro e u1 ⟨rfl, eu⟩
          subst eu
          go_wp2_with fail
          refine HC1.out.mono ?_
          rintro e w2 ⟨A1, c1, rfl, hs1, hp3⟩
          have hC2 := hp3.wall (by have := HFF.out; omega)
          rw [HALL.out] at hC2
          have HC2 := Lib.hid hC2
          have HS1 := Lib.hid hs1
          clear hC2 hs1 hp3
          go_wp2_with fail
          refine HC2.out.mono ?_
          rintro e w3 ⟨A2, c2, rfl, hs2, hp4, hg3⟩
          have hC3 := same21_walk (c1 := c1) (c2 := c2) (by have := HRL.out; omega) (HS1.out.kept hg3 nofun) hs2
          have HC3 := Lib.hid hC3
          have HP4 := Lib.hid hp4
          clear hC3 hs2 hp4 hg3
          go_wp2_with fail
          refine HC3.out.mono ?_
          rintro e w4 ⟨rfl, hg4⟩
          have hp5 := HP4.out.kept hg4
          have hC4 := hp5.rat HAG2.out.rn at_ HFF.out.1 HFF.out.2.2.1
          rw [HAT.out.1] at hC4
          have HC4 := Lib.hid hC4
          clear hg4 hp5 hC4
          go_wp2_with fail
          refine HC4.out.mono ?_
          rintro e w5 ⟨rfl, hp6⟩
          have HC5 := Lib.hid (hp6.wat at_)
          clear hp6
          go_wp2_with fail
          refine HC5.out.mono ?_
          rintro e w6 ⟨rfl, hp7⟩
          have hne : (getL l2 at_ != getL l2 at_) = false := by simp
          have hC6 := hp7.rat HAG2.out.rn kk (by have := HFF.out.2.1; omega) HFF.out.2.2.1
          rw [HAT.out.2] at hC6
          have HC6 := Lib.hid hC6
          clear hp7 hC6
          go_wp2_with fail
          refine HC6.out.mono ?_
          rintro e w7 ⟨rfl, hp8⟩
          have HC7 := Lib.hid (hp8.wat kk)
          clear hp8
          go_wp2_with fail
          refine HC7.out.mono ?_
          rintro e w8 ⟨rfl, hp9⟩
          have hne2 : (getL l2 kk != getL l2 kk) = false := by simp
          have HP9 := Lib.hid hp9
          clear hp9
          go_wp2_with fail
          go_roundw
          case rel =>
            have hfin : NumRel rb mb w1.heap.size n w (.int .i64 ((j : Int) + 1)) w8 := ⟨⟨j + 1, hlt, by simp, L2, l2, HP9.out, HAG2.out.mono (by omega)⟩⟩
            exact hfin
          case measure => exact meas hlt
      · have b2 : ¬ (j : Int) < (n : Int) := by omega
        have HG := Lib.hid hp.grown
        clear hp hag
        go_wp2_with fail
        refine (awake22_walk _).mono ?_
        rintro e w8 ⟨rfl, hg8⟩
        have HG8 := Lib.hid (grownBy_trans HG.out hg8 nofun)
        clear hg8
        go_wp2_with fail
        go_ret
        exact ⟨rfl, HG8.out⟩
end Go.Proofs.Ytijpienjejfmiaa
