/-
  Region's Set where it is refused; a region and the document's places, side by side in memory. Conditions: at most 100000 places.
-/
import Derived.Test.YtijpienjejfmiaaRg3
import Derived.Test.YtijpienjejfmiaaRg16
namespace Go.Proofs.Ytijpienjejfmiaa
open Go Go.RowKit

set_option maxRecDepth 100000 in
set_option maxHeartbeats 1000000 in
theorem rset_bad (rb : Nat) (f t g : Int) (hbad : f < 0 ∨ t < f ∨ 1099511627776 < t ∨ g < 0 ∨ 400 < g) (w : World) :
    Calls Try.prog 20 #[.pointer (some ⟨rb, 0, none⟩), .int .i64 f, .int .i64 t, .int .i64 g] w fun e w' => e = .returned (.bool false) ∧ w' = w := by
  go_enter Try.func20, Try.ntmps20
  by_cases h1 : f < 0
  · go_wp2_with fail
    go_ret
    exact ⟨rfl, rfl⟩
  · by_cases h2 : t < f
    · go_wp2_with fail
      go_ret
      exact ⟨rfl, rfl⟩
    · by_cases h3 : 1099511627776 < t
      · go_wp2_with fail
        go_ret
        exact ⟨rfl, rfl⟩
      · by_cases h4 : g < 0
        · go_wp2_with fail
          go_ret
          exact ⟨rfl, rfl⟩
        · have h5 : 400 < g := by omega
          clear hbad
          go_wp2_with fail
          go_ret
          exact ⟨rfl, rfl⟩

set_option maxRecDepth 100000 in
set_option maxHeartbeats 1000000 in
theorem rset_eq (rb : Nat) (f g : Int) (h1 : 0 ≤ f) (h2 : f ≤ 1099511627776) (h3 : 0 ≤ g) (h4 : g ≤ 400) (w : World) :
    Calls Try.prog 20 #[.pointer (some ⟨rb, 0, none⟩), .int .i64 f, .int .i64 f, .int .i64 g] w fun e w' => e = .returned (.bool true) ∧ w' = w := by
  have n1 : ¬ f < 0 := by omega
  have n2 : ¬ f < f := by omega
  have n3 : ¬ 1099511627776 < f := by omega
  have n4 : ¬ g < 0 := by omega
  have n5 : ¬ 400 < g := by omega
  go_enter Try.func20, Try.ntmps20
  go_wp2_with fail
  go_ret
  exact ⟨rfl, rfl⟩
end Go.Proofs.Ytijpienjejfmiaa

namespace Go.Proofs.Ytijpienjejfmiaa
open Go Go.RowKit

abbrev r2O (v : Value) : Obj := .cells #[v] 42

/-- Both in memory. -/
def PN (rb mb q : Nat) (L : List Sp) (l : List Int) (w wk : World) : Prop :=
  ∃ v K, RN rb mb K L w wk ∧ R2 q l v wk ∧ (q, r2O v) ∈ K ∧ (∀ g, v.ownBlock = some g → ∃ o, (g, o) ∈ K) ∧ w.heap.size ≤ q

section
variable {rb mb q : Nat} {L L' : List Sp} {l l' : List Int} {w wk w' : World}

theorem PN.grown (h : PN rb mb q L l w wk) : w.grownBy wk none := by
  obtain ⟨v, K, h1, _⟩ := h
  exact MN.grown h1

theorem PN.ord (h : PN rb mb q L l w wk) : Ord L := by
  obtain ⟨v, K, h1, _⟩ := h
  exact (MN.ord h1).1

/-- What is held by the runs' side stays. -/
theorem R2.held {v : Value} {K : List (Nat × Obj)} (h2 : R2 q l v wk) (h1 : RN rb mb K L w wk) (k1 : RN rb mb K L' w w') (h3 : (q, r2O v) ∈ K) (h4 : ∀ g, v.ownBlock = some g → ∃ o, (g, o) ∈ K) : R2 q l v w' := by
  refine ⟨MN.held k1 (p := (q, r2O v)) (by simp [h3]), ?_⟩
  obtain ⟨e1, e2⟩ := h2.own
  refine ⟨e1, ?_⟩
  rcases e2 with e2 | ⟨g, cap, cur, rfl, e3, e4, e5⟩
  · exact .inl e2
  · refine .inr ⟨g, cap, cur, rfl, e3, ?_, e5⟩
    obtain ⟨o, ho⟩ := h4 g rfl
    have q1 := MN.held h1 (p := (g, o)) (by simp [ho])
    have q2 := MN.held k1 (p := (g, o)) (by simp [ho])
    rw [e4] at q1
    cases q1
    exact q2

theorem PN.reg {v : Value} {K : List (Nat × Obj)} (h1 : RN rb mb K L w wk) (h2 : R2 q l v wk) (h3 : (q, r2O v) ∈ K) (h4 : ∀ g, v.ownBlock = some g → ∃ o, (g, o) ∈ K) (h5 : w.heap.size ≤ q) (k1 : RN rb mb K L' w w') : PN rb mb q L' l w w' :=
  ⟨v, K, k1, h2.held h1 k1 h3 h4, h3, h4, h5⟩

theorem PN.kept (h : PN rb mb q L l w wk) (g : wk.grownBy w' none) : PN rb mb q L l w w' := by
  obtain ⟨v, K, h1, h2, h3, h4, h5⟩ := h
  exact ⟨v, K, MN.kept h1 g, h2.ofHeap g, h3, h4, h5⟩

theorem PN.ref {v : Value} {K : List (Nat × Obj)} (h1 : RN rb mb K L w wk) (h2 : R2 q l v wk) (h3 : (q, r2O v) ∈ K) (h4 : ∀ g, v.ownBlock = some g → ∃ o, (g, o) ∈ K) (h5 : w.heap.size ≤ q) (k : R2s q l' v wk w') : PN rb mb q L l' w w' := by
  obtain ⟨⟨v', k1, k2⟩, k3⟩ := k
  obtain ⟨B, m1, m2, m3, m4⟩ := h1
  have hq : q ∉ B := (m4 (q, r2O v) (by simp [h3])).2
  have hrow : ∀ g, v.ownBlock = some g → g ∉ B ∧ w.heap.size ≤ g := fun g hg => by
    obtain ⟨o, ho⟩ := h4 g hg
    exact ⟨(m4 (g, o) (by simp [ho])).2, by have := (h2.own.lt g hg).1; omega⟩
  have hrb := m4 (rb, rgO mb) (by simp)
  have nq : rb ≠ q := fun e => by
    have e1 := hrb.1
    simp only at e1
    rw [e, h2.obj] at e1
    simp [rgO] at e1
  have nrow : v.ownBlock ≠ some rb := fun e => by
    rcases h2.own.2 with ⟨rfl, _⟩ | ⟨g, cap, cur, rfl, e3, e4, _⟩
    · cases e
    · cases e
      have e1 := hrb.1
      simp only at e1
      rw [e4] at e1
      simp [rgO] at e1
  have hC : ∀ b ∈ q :: ownB v, b ∉ B ∧ w.heap.size ≤ b := fun b hb => by
    rcases List.mem_cons.1 hb with rfl | hb
    · exact ⟨hq, h5⟩
    · exact hrow b (mem_ownB.1 hb)
  have hMk : Mk w' mb B L [] := m1.only k3 fun x hx hm => (hC x hm).1 hx
  have hG : w.grownBy w' none := Only.toGrown m3 k3 fun b hb => (hC b hb).2
  have hnew : ∀ g, v'.ownBlock = some g → g ∉ B := fun g hg hm => by
    rcases k2 g hg with h6 | h6
    · exact (hrow g h6).1 hm
    · have := m1.lt _ hm
      omega
  have hrb' : w'.heap[rb]? = some (rgO mb) := k3.heap hrb.1 fun hm => by
    rcases List.mem_cons.1 hm with e | hm
    · exact nq e
    · exact nrow (mem_ownB.1 hm)
  rcases k1.own.2 with ⟨e, _⟩ | ⟨g, cap, cur, e, e3, e4, _⟩
  · refine ⟨v', [(q, r2O v')], ⟨B, hMk, m2, hG, fun p hp => ?_⟩, k1, by simp, fun g hg => (by rw [e] at hg; cases hg), h5⟩
    simp only [List.mem_cons, List.not_mem_nil, or_false] at hp
    rcases hp with rfl | rfl
    · exact ⟨hrb', hrb.2⟩
    · exact ⟨k1.obj, hq⟩
  · have hgo : v'.ownBlock = some g := by rw [e]; rfl
    refine ⟨v', [(q, r2O v'), (g, .cells cur 3 (0, 0))], ⟨B, hMk, m2, hG, fun p hp => ?_⟩, k1, by simp, fun g' hg' => ?_, h5⟩
    · simp only [List.mem_cons, List.not_mem_nil, or_false] at hp
      rcases hp with rfl | rfl | rfl
      · exact ⟨hrb', hrb.2⟩
      · exact ⟨k1.obj, hq⟩
      · exact ⟨e4, hnew g hgo⟩
    · rw [hgo] at hg'
      cases hg'
      exact ⟨.cells cur 3 (0, 0), by simp⟩

/-- The beginning. -/
theorem PN.start (h : RN rb mb [] [] w wk) : PN rb mb wk.heap.size [] [] w (wk.alloc (r2O (.slice none 0 0))) := by
  refine ⟨.slice none 0 0, [(wk.heap.size, r2O (.slice none 0 0))], RN.swap (MN.alloc h _), ⟨heap_new wk _, World.ownsRow_nil _ _ _ _⟩, by simp, fun g hg => (by cases hg), ?_⟩
  exact (MN.grown h).size

/-- Whether a range may be said. -/
def okB (f t g : Int) : Bool := decide (0 ≤ f) && decide (f ≤ t) && decide (t ≤ 1099511627776) && decide (0 ≤ g) && decide (g ≤ 400)
def setX (f t g : Int) (L : List Sp) : List Sp := if okB f t g = true ∧ f < t then setL f t g L else L
def setY (f t g : Int) (l : List Int) : List Int := if okB f t g = true then fillN f.toNat g (t.toNat - f.toNat) (padZ (t.toNat - l.length) l) else l

theorem okB_true {f t g : Int} (h : okB f t g = true) : 0 ≤ f ∧ f ≤ t ∧ t ≤ 1099511627776 ∧ 0 ≤ g ∧ g ≤ 400 := by
  simp only [okB, Bool.and_eq_true, decide_eq_true_eq] at h
  omega
theorem okB_false {f t g : Int} (h : ¬ okB f t g = true) : f < 0 ∨ t < f ∨ 1099511627776 < t ∨ g < 0 ∨ 400 < g := by
  simp only [okB, Bool.and_eq_true, decide_eq_true_eq] at h
  omega

theorem PN.rset (h : PN rb mb q L l w wk) {b : Int} (hr : Rn b L) (hb : b ≤ 100000) (hl : (L.length : Int) ≤ b) (f t g : Int) :
    Calls Try.prog 20 #[.pointer (some ⟨rb, 0, none⟩), .int .i64 f, .int .i64 t, .int .i64 g] wk fun e w' => e = .returned (.bool (okB f t g)) ∧ PN rb mb q (setX f t g L) l w w' := by
  by_cases ho : okB f t g = true
  · obtain ⟨o1, o2, o3, o4, o5⟩ := okB_true ho
    rw [ho]
    by_cases hft : f < t
    · rw [show setX f t g L = setL f t g L from if_pos ⟨ho, hft⟩]
      obtain ⟨v, K, h1, h2, h3, h4, h5⟩ := h
      refine (rset_walk f t g o1 hft o3 ⟨o4, o5⟩ (hr.ok (by omega)) (by omega) h1).mono ?_
      rintro e w' ⟨rfl, k1⟩
      exact ⟨rfl, PN.reg h1 h2 h3 h4 h5 k1⟩
    · have e : f = t := by omega
      subst e
      rw [show setX f f g L = L from if_neg (fun h => hft h.2)]
      refine (rset_eq rb f g o1 o3 o4 o5 wk).mono ?_
      rintro e w' ⟨rfl, rfl⟩
      exact ⟨rfl, h⟩
  · rw [show setX f t g L = L from if_neg (fun h => ho h.1), Bool.eq_false_iff.2 ho]
    refine (rset_bad rb f t g (okB_false ho) wk).mono ?_
    rintro e w' ⟨rfl, rfl⟩
    exact ⟨rfl, h⟩

theorem PN.wset (h : PN rb mb q L l w wk) (f t g : Int) (ht : t ≤ 3000) :
    Calls Try.prog 21 #[.pointer (some ⟨q, 0, none⟩), .int .i64 f, .int .i64 t, .int .i64 g] wk fun e w' => e = .returned (.bool (okB f t g)) ∧ PN rb mb q L (setY f t g l) w w' := by
  by_cases ho : okB f t g = true
  · obtain ⟨o1, o2, o3, o4, o5⟩ := okB_true ho
    rw [ho, show setY f t g l = fillN f.toNat g (t.toNat - f.toNat) (padZ (t.toNat - l.length) l) from if_pos ho]
    obtain ⟨v, K, h1, h2, h3, h4, h5⟩ := h
    obtain ⟨F, rfl⟩ : ∃ F : Nat, f = (F : Int) := ⟨f.toNat, by omega⟩
    obtain ⟨T, rfl⟩ : ∃ T : Nat, t = (T : Int) := ⟨t.toNat, by omega⟩
    rw [Int.toNat_natCast, Int.toNat_natCast]
    refine (set22_walk F T g (by omega) (by omega) ⟨o4, o5⟩ h2).mono ?_
    rintro e w' ⟨rfl, k1⟩
    exact ⟨rfl, PN.ref h1 h2 h3 h4 h5 k1⟩
  · rw [show setY f t g l = l from if_neg ho, Bool.eq_false_iff.2 ho]
    refine (set22_bad q f t g (okB_false ho) wk).mono ?_
    rintro e w' ⟨rfl, rfl⟩
    exact ⟨rfl, h⟩

theorem Agree.setB {b : Int} (h : Agree b L l) (f t g : Int) (ht : t ≤ b) : Agree b (setX f t g L) (setY f t g l) := by
  unfold setX setY
  by_cases ho : okB f t g = true
  · obtain ⟨o1, o2, o3, o4, o5⟩ := okB_true ho
    obtain ⟨F, rfl⟩ : ∃ F : Nat, f = (F : Int) := ⟨f.toNat, by omega⟩
    obtain ⟨T, rfl⟩ : ∃ T : Nat, t = (T : Int) := ⟨t.toNat, by omega⟩
    rw [if_pos ho, Int.toNat_natCast, Int.toNat_natCast]
    by_cases hft : (F : Int) < T
    · rw [if_pos ⟨ho, hft⟩]
      exact h.set F T g (by omega) ht ⟨o4, o5⟩
    · have e : F = T := by omega
      subst e
      rw [if_neg (fun h => hft h.2)]
      exact h.pad F g ht
  · rw [if_neg ho, if_neg (fun h => ho h.1)]
    exact h

theorem PN.redit (h : PN rb mb q L l w wk) {b : Int} (hr : Rn b L) (hb : b ≤ 100000) (hl : (L.length : Int) ≤ b) (a d i : Int) (hi : -9223372036854775808 ≤ i ∧ i ≤ 1000000) :
    Calls Try.prog 22 #[.pointer (some ⟨rb, 0, none⟩), .int .i64 a, .int .i64 d, .int .i64 i] wk fun e w' => e = .returned (.tuple #[]) ∧ PN rb mb q (evenE (cutI a) (cutI d) (cutI i) L) l w w' := by
  obtain ⟨v, K, h1, h2, h3, h4, h5⟩ := h
  refine (redit_walk a d i hi (hr.ok (by omega)) (hr.low (by omega)) (by omega) h1).mono ?_
  rintro e w' ⟨rfl, k1⟩
  exact ⟨rfl, PN.reg h1 h2 h3 h4 h5 k1⟩

theorem PN.wedit (h : PN rb mb q L l w wk) (a d i : Int) (hi : i ≤ 300) (hl : l.length ≤ 100000) :
    Calls Try.prog 23 #[.pointer (some ⟨q, 0, none⟩), .int .i64 a, .int .i64 d, .int .i64 i] wk fun e w' => e = .returned (.tuple #[]) ∧ PN rb mb q L (editR (cutI a).toNat (cutI d).toNat (cutI i).toNat l) w w' := by
  obtain ⟨v, K, h1, h2, h3, h4, h5⟩ := h
  have hc := cutI_le i
  refine (edit22_walk a d i (cutI i).toNat (by omega) (by unfold cutI; omega) (by omega) h2).mono ?_
  rintro e w' ⟨rfl, k1⟩
  exact ⟨rfl, PN.ref h1 h2 h3 h4 h5 k1⟩

theorem Agree.editB {b : Int} (h : Agree b L l) (a d i : Int) (hi : i ≤ 300) (hb : 0 ≤ b ∧ b ≤ 100000) : Agree (b + 300) (evenE (cutI a) (cutI d) (cutI i) L) (editR (cutI a).toNat (cutI d).toNat (cutI i).toNat l) := by
  have h1 := cutI_le a
  have h2 := cutI_le d
  have h3 := cutI_le i
  have h4 : cutI i ≤ 300 := by unfold cutI; omega
  have := h.edit (cutI a).toNat (cutI d).toNat (cutI i).toNat (by omega)
  rw [Int.toNat_of_nonneg h1.1, Int.toNat_of_nonneg h2.1, Int.toNat_of_nonneg h3.1] at this
  exact this.mono (by omega)

theorem PN.rall (h : PN rb mb q L l w wk) {b : Int} (hr : Rn b L) (hb : b ≤ 100000) (hl : (L.length : Int) ≤ b) :
    Calls Try.prog 25 #[.pointer (some ⟨rb, 0, none⟩)] wk fun e w' => ∃ A c, e = .returned (.slice A (runsL L).length c) ∧ Sl w' 3 A (runsL L).length (rowS (runsL L)) ∧ PN rb mb q L l w w' := by
  obtain ⟨v, K, h1, h2, h3, h4, h5⟩ := h
  refine (rall_walk (hr.ok (by omega)) (by omega) h1).mono ?_
  rintro e w' ⟨A, c, rfl, hs, k1⟩
  exact ⟨A, c, rfl, Sl.of_own hs (rowS_one _), PN.reg h1 h2 h3 h4 h5 k1⟩

theorem PN.wall (h : PN rb mb q L l w wk) (hl : l.length ≤ 100000) :
    Calls Try.prog 26 #[.pointer (some ⟨q, 0, none⟩)] wk fun e w' => ∃ A c, e = .returned (.slice A (allR l).length c) ∧ Sl w' 3 A (allR l).length (rowS (allR l)) ∧ PN rb mb q L l w w' ∧ wk.grownBy w' none := by
  have h' := h
  obtain ⟨v, K, h1, h2, h3, h4, h5⟩ := h
  refine (all22_walk (by omega) h2).mono ?_
  rintro e w' ⟨A, c, rfl, hs, k1⟩
  exact ⟨A, c, rfl, Sl.of_own hs (rowS_one _), h'.kept k1, k1⟩

set_option maxRecDepth 100000 in
set_option maxHeartbeats 1000000 in
theorem rat_last {K : List (Nat × Obj)} (p : Int) (hp : p = 9223372036854775807) (h0 : ∀ x ∈ L, 0 ≤ x.a ∧ x.b ≤ 1099511627776) (h : RN rb mb K L w wk) :
    Calls Try.prog 27 #[.pointer (some ⟨rb, 0, none⟩), .int .i64 p] wk fun e w' => e = .returned (.int .i64 (atL L p)) ∧ RN rb mb K L w w' := by
  have r0 := h.cell
  obtain ⟨m, hm⟩ : ∃ m : Int, m = -9223372036854775808 := ⟨_, rfl⟩
  have hw1 : IntKind.i64.wrap (p + 1) = m := by rw [hp, hm]; decide
  have hp0 : ¬ p < 0 := by omega
  have hat : atL L p = 0 := at_zero fun x hx hc => by
    have := h0 x hx
    unfold Cv at hc
    omega
  rw [hat]
  have hc := h.over p m (by omega) (by omega)
  have hO : overQ p m L = [] := List.filter_eq_nil_iff.2 fun x hx => by
    have := h0 x hx
    simp only [Bool.and_eq_true, decide_eq_true_eq]
    omega
  rw [show overQ p m ([] : List Sp) = [] from rfl, List.append_nil, hO, sortS_ord (l := []) List.Pairwise.nil] at hc
  clear hp hm
  have HC := Lib.hid hc
  clear hc h hat hO
  go_enter Try.func27, Try.ntmps27
  go_wp2_with fail
  refine HC.out.mono ?_
  rintro e w3 ⟨A, c, rfl, hs3, h3⟩
  obtain ⟨A', c', he, hsl⟩ := own_slice hs3
  cases he
  have H3 := Lib.hid h3
  clear h3 r0 hs3 hsl
  go_wp2_with fail
  go_loopw [18] (fun iv wr => iv = .int .i64 0 ∧ wr = w3) (fun _ _ => 0)
  case atStart => exact ⟨rfl, rfl⟩
  case round =>
    obtain ⟨rfl, rfl⟩ := hrel
    go_wp2_with fail
    go_ret
    exact ⟨rfl, H3.out⟩

theorem PN.rat (h : PN rb mb q L l w wk) {b : Int} (hr : Rn b L) (p : Int) (hp : -9223372036854775808 ≤ p ∧ p ≤ 9223372036854775807) (hb : b ≤ 100000) :
    Calls Try.prog 27 #[.pointer (some ⟨rb, 0, none⟩), .int .i64 p] wk fun e w' => e = .returned (.int .i64 (atL L p)) ∧ PN rb mb q L l w w' := by
  obtain ⟨v, K, h1, h2, h3, h4, h5⟩ := h
  by_cases hm : p = 9223372036854775807
  · refine (rat_last p hm (fun x hx => by have := hr x hx; omega) h1).mono ?_
    rintro e w' ⟨rfl, k1⟩
    exact ⟨rfl, PN.reg h1 h2 h3 h4 h5 k1⟩
  · have hv : (if p < 0 then 0 else atL L p) = atL L p := by
      split
      · exact (at_zero fun x hx hc => by have := hr x hx; unfold Cv at hc; omega).symm
      · rfl
    have hc := rat_walk p ⟨hp.1, by omega⟩ (fun x hx => by have := hr x hx; omega) h1
    rw [hv] at hc
    refine hc.mono ?_
    rintro e w' ⟨rfl, k1⟩
    exact ⟨rfl, PN.reg h1 h2 h3 h4 h5 k1⟩

theorem PN.wat (h : PN rb mb q L l w wk) (p : Int) :
    Calls Try.prog 28 #[.pointer (some ⟨q, 0, none⟩), .int .i64 p] wk fun e w' => e = .returned (.int .i64 (getL l p)) ∧ PN rb mb q L l w w' := by
  have h' := h
  obtain ⟨v, K, h1, h2, h3, h4, h5⟩ := h
  refine (at22_walk p h2).mono ?_
  rintro e w' ⟨rfl, rfl⟩
  exact ⟨rfl, h'⟩
end
end Go.Proofs.Ytijpienjejfmiaa
