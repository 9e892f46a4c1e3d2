/-
  Marks in memory of a call's own; the document's example of layer 21. No conditions beyond those that each law names.
-/
import Derived.Test.YtijpienjejfmiaaMkD3
import Derived.Test.YtijpienjejfmiaaTrue
import Derived.Test.YtijpienjejfmiaaPlace
namespace Go.Proofs.Ytijpienjejfmiaa
open Go Go.RowKit

/-- Marks that a call has made. -/
def MN (mb : Nat) (K : List (Nat × Obj)) (L0 L1 : List Sp) (w wk : World) : Prop := ∃ B, Mk wk mb B L0 L1 ∧ (∀ x ∈ B, w.heap.size ≤ x) ∧ w.grownBy wk none ∧ ∀ p ∈ K, wk.heap[p.1]? = some p.2 ∧ p.1 ∉ B

variable {K : List (Nat × Obj)} {mb : Nat} {L0 L1 : List Sp} {w wk w' : World}

theorem MN.grown (h : MN mb K L0 L1 w wk) : w.grownBy wk none := by
  obtain ⟨B, _, _, h, _⟩ := h
  exact h

theorem MN.held (h : MN mb K L0 L1 w wk) {p : Nat × Obj} (hp : p ∈ K) : wk.heap[p.1]? = some p.2 := by
  obtain ⟨B, _, _, _, h⟩ := h
  exact (h p hp).1

theorem MN.alloc (h : MN mb K L0 L1 w wk) (o : Obj) : MN mb ((wk.heap.size, o) :: K) L0 L1 w (wk.alloc o) := by
  obtain ⟨B, h1, h2, h3, h4⟩ := h
  have g := grownBy_alloc (grownBy_refl wk none) o
  refine ⟨B, h1.kept g, h2, grownBy_trans h3 g nofun, fun p hp => ?_⟩
  rcases List.mem_cons.1 hp with rfl | hp
  · exact ⟨heap_new wk o, fun hm => by have := h1.lt _ hm; omega⟩
  · exact ⟨grownBy_heap g (h4 p hp).1 nofun, (h4 p hp).2⟩

theorem MN.kept (h : MN mb K L0 L1 w wk) (g : wk.grownBy w' none) : MN mb K L0 L1 w w' := by
  obtain ⟨B, h1, h2, h3, h4⟩ := h
  exact ⟨B, h1.kept g, h2, grownBy_trans h3 g nofun, fun p hp => ⟨grownBy_heap g (h4 p hp).1 nofun, (h4 p hp).2⟩⟩

/-- What lies beside them. -/
theorem MN.cell (h : MN mb K L0 L1 w wk) {p : Addr} {v : Value} (hp : w.cell? p = some v) : wk.cell? p = some v := h.grown.cell hp nofun

theorem MN.new (w : World) : Calls Try.prog 10 #[] w fun e w' => ∃ mb, e = .returned (.pointer (some ⟨mb, 0, none⟩)) ∧ MN mb [] [] [] w w' := by
  refine (new_walk w).mono ?_
  rintro e w' ⟨mb, B, rfl, h1, h2, h3⟩
  exact ⟨mb, rfl, B, h1, h2, h3, by simp⟩

theorem MN.ofRes {B : List Nat} (h2 : ∀ x ∈ B, w.heap.size ≤ x) (h3 : w.grownBy wk none ∧ ∀ p ∈ K, wk.heap[p.1]? = some p.2 ∧ p.1 ∉ B) (r : MkRes mb B L0 L1 wk w') : MN mb K L0 L1 w w' := by
  obtain ⟨⟨B', q1, q2⟩, q3⟩ := r
  refine ⟨B', q1, fun x hx => ?_, Only.toGrown h3.1 q3 h2, fun p hp => ⟨q3.heap (h3.2 p hp).1 (h3.2 p hp).2, fun hm => ?_⟩⟩
  · rcases q2 x hx with h | h
    · exact h2 x h
    · exact Nat.le_trans h3.1.size h
  · rcases q2 p.1 hm with h | h
    · exact (h3.2 p hp).2 h
    · have := heap_lt (h3.2 p hp).1
      omega

theorem MN.put (h : MN mb K L0 L1 w wk) (s : Sp) (h1 : 0 ≤ s.a) (h2 : s.a < s.b) (h3 : s.b ≤ 1099511627776) (h4 : 0 ≤ s.k) (h5 : s.k ≤ 1000) (i : Bool) (hi : s.k % 2 = if i then 1 else 0) (hf : (two i L0 L1).length < 1099511627776) :
    Calls Try.prog 11 #[.pointer (some ⟨mb, 0, none⟩), spanV s] wk fun e w' => e = .returned (.bool (!decide (s ∈ two i L0 L1))) ∧ MN mb K (two i (insS s L0) L0) (two i L1 (insS s L1)) w w' := by
  obtain ⟨B, q1, q2, q3⟩ := h
  refine (put_good s h1 h2 h3 h4 h5 i hi hf wk q1).mono ?_
  rintro e w' ⟨rfl, hr⟩
  exact ⟨rfl, MN.ofRes q2 q3 hr⟩

theorem MN.bad (h : MN mb K L0 L1 w wk) (s : Sp) (hbad : s.a < 0 ∨ s.b ≤ s.a ∨ 1099511627776 < s.b ∨ s.k < 0 ∨ 1000 < s.k) :
    Calls Try.prog 11 #[.pointer (some ⟨mb, 0, none⟩), spanV s] wk fun e w' => e = .returned (.bool false) ∧ MN mb K L0 L1 w w' := by
  refine (put_bad mb s hbad wk).mono ?_
  rintro e w' ⟨rfl, hg⟩
  exact ⟨rfl, h.kept hg⟩

theorem MN.remove (h : MN mb K L0 L1 w wk) (s : Sp) (i : Bool) (hi : s.k % 2 = if i then 1 else 0) :
    Calls Try.prog 13 #[.pointer (some ⟨mb, 0, none⟩), spanV s] wk fun e w' => e = .returned (.bool (decide (s ∈ two i L0 L1))) ∧ MN mb K (two i (remS s L0) L0) (two i L1 (remS s L1)) w w' := by
  obtain ⟨B, q1, q2, q3⟩ := h
  refine (remove_walk s i hi wk q1).mono ?_
  rintro e w' ⟨rfl, hr⟩
  exact ⟨rfl, MN.ofRes q2 q3 hr⟩

theorem MN.ofWithin {R : List Sp} {B : List Nat} {e : Ending} (h2 : ∀ x ∈ B, w.heap.size ≤ x) (h3 : w.grownBy wk none ∧ ∀ p ∈ K, wk.heap[p.1]? = some p.2 ∧ p.1 ∉ B) (r : WithinRes mb B L0 L1 R wk e w') : ∃ A c, e = .returned (.slice A R.length c) ∧ Spans w' wk.heap.size (.slice A R.length c) R ∧ MN mb K L0 L1 w w' := by
  obtain ⟨v, rfl, q1, q2, q3⟩ := r
  obtain ⟨A, c, rfl, _⟩ := own_slice q1
  exact ⟨A, c, rfl, q1, B, q2, h2, Only.toGrown h3.1 q3 h2, fun p hp => ⟨q3.heap (h3.2 p hp).1 (h3.2 p hp).2, (h3.2 p hp).2⟩⟩

theorem MN.all (h : MN mb K L0 L1 w wk) : Calls Try.prog 17 #[.pointer (some ⟨mb, 0, none⟩)] wk fun e w' => ∃ A c, e = .returned (.slice A (sortS (L0 ++ L1)).length c) ∧ Spans w' wk.heap.size (.slice A (sortS (L0 ++ L1)).length c) (sortS (L0 ++ L1)) ∧ MN mb K L0 L1 w w' := by
  obtain ⟨B, q1, q2, q3⟩ := h
  refine (all_walk wk q1).mono ?_
  intro e w' hr
  exact MN.ofWithin q2 q3 hr

theorem MN.over (h : MN mb K L0 L1 w wk) (f t : Int) (hf : -9223372036854775808 ≤ f ∧ f ≤ 9223372036854775807) (ht : -9223372036854775808 ≤ t ∧ t ≤ 9223372036854775807) : Calls Try.prog 16 #[.pointer (some ⟨mb, 0, none⟩), .int .i64 f, .int .i64 t] wk fun e w' => ∃ A c, e = .returned (.slice A (sortS (overQ f t L0 ++ overQ f t L1)).length c) ∧ Spans w' wk.heap.size (.slice A (sortS (overQ f t L0 ++ overQ f t L1)).length c) (sortS (overQ f t L0 ++ overQ f t L1)) ∧ MN mb K L0 L1 w w' := by
  obtain ⟨B, q1, q2, q3⟩ := h
  refine (over_all f t hf ht wk q1).mono ?_
  intro e w' hr
  exact MN.ofWithin q2 q3 hr

theorem MN.len (h : MN mb K L0 L1 w wk) : Calls Try.prog 14 #[.pointer (some ⟨mb, 0, none⟩)] wk fun e w' => e = .returned (.int .i64 ((L0.length : Int) + (L1.length : Int))) ∧ w' = wk := by
  obtain ⟨B, q1, q2, q3⟩ := h
  exact len_walk wk q1

theorem MN.height (h : MN mb K L0 L1 w wk) (h1 : L0.length + L1.length = 1) : Calls Try.prog 36 #[.pointer (some ⟨mb, 0, none⟩)] wk fun e w' => e = .returned (.int .i64 1) ∧ w' = wk := by
  obtain ⟨B, q1, q2, q3⟩ := h
  refine (height_walk wk q1).mono ?_
  rintro e w' ⟨z, rfl, rfl, hz⟩
  rw [hz h1]
  exact ⟨rfl, rfl⟩

theorem MN.edit (h : MN mb K L0 L1 w wk) (a d i : Int) (k0 : ∀ x ∈ L0, x.k % 2 = 0) (k1 : ∀ x ∈ L1, x.k % 2 = 1) (g0 : ∀ x ∈ L0, InG x) (g1 : ∀ x ∈ L1, InG x) (m0 : L0.length ≤ 274877906944) (m1 : L1.length ≤ 274877906944) :
    Calls Try.prog 35 #[.pointer (some ⟨mb, 0, none⟩), .int .i64 a, .int .i64 d, .int .i64 i] wk fun e w' => e = .returned (.tuple #[]) ∧ MN mb K (evenE (cutI a) (cutI d) (cutI i) L0) (oddE (cutI a) (cutI d) (cutI i) L1) w w' := by
  obtain ⟨B, q1, q2, q3⟩ := h
  refine (edit_walk a d i wk q1 k0 k1 g0 g1 m0 m1).mono ?_
  rintro e w' ⟨rfl, hr⟩
  exact ⟨rfl, MN.ofRes q2 q3 hr⟩

theorem sortS_one (s : Sp) : sortS [s] = [s] := by simp [sortS]

set_option maxRecDepth 100000 in
set_option maxHeartbeats 1000000 in
theorem awake21_walk (w : World) : Calls Try.prog 15 #[] w (TrueRes w) := by
  go_enter Try.func15, Try.ntmps15
  go_wp2_with fail
  refine (MN.new w).mono ?_
  rintro e w1 ⟨mb, rfl, h1⟩
  have hc1 := h1.put ⟨5, 9, 1⟩ (by decide) (by decide) (by decide) (by decide) (by decide) true (by decide) (by decide)
  have HC1 := Lib.hid hc1
  clear h1 hc1
  go_wp2_with fail
  refine HC1.out.mono ?_
  rintro e w2 ⟨rfl, h2⟩
  rw [show (!decide ((⟨5, 9, 1⟩ : Sp) ∈ two true [] [])) = true from rfl]
  change MN mb [] [] [⟨5, 9, 1⟩] w w2 at h2
  have hc2 := h2.put ⟨5, 9, 1⟩ (by decide) (by decide) (by decide) (by decide) (by decide) true (by decide) (by decide)
  have HC2 := Lib.hid hc2
  clear h2 hc2
  go_wp2_with fail
  refine HC2.out.mono ?_
  rintro e w3 ⟨rfl, h3⟩
  rw [show (!decide ((⟨5, 9, 1⟩ : Sp) ∈ two true [] [⟨5, 9, 1⟩])) = false from rfl]
  change MN mb [] [] [⟨5, 9, 1⟩] w w3 at h3
  have hc3 := h3.edit 0 0 3 (by simp) (by simp) (by simp) (by simp [InG]) (by decide) (by decide)
  rw [show evenE (cutI 0) (cutI 0) (cutI 3) [] = [] from by decide, show oddE (cutI 0) (cutI 0) (cutI 3) [⟨5, 9, 1⟩] = [⟨8, 12, 1⟩] from by decide] at hc3
  have HC3 := Lib.hid hc3
  clear h3 hc3
  go_wp2_with fail
  refine HC3.out.mono ?_
  rintro e w4 ⟨rfl, h4⟩
  have hc4 := h4.all
  rw [show ([] : List Sp) ++ [⟨8, 12, 1⟩] = [⟨8, 12, 1⟩] from rfl, sortS_one] at hc4
  have HC4 := Lib.hid hc4
  clear h4 hc4
  go_wp2_with fail
  refine HC4.out.mono ?_
  rintro e w5 ⟨A, c, rfl, hs5, h5⟩
  obtain ⟨A', c', he, hsl⟩ := own_slice hs5
  cases he
  obtain ⟨b, o, rfl, hc⟩ := hsl.2.2 (by decide)
  have x0 : w5.cell? ⟨b, o, none⟩ = some (.int .i64 8) := hc 0 _ rfl
  have x1 : w5.cell? ⟨b, o + 1, none⟩ = some (.int .i64 12) := hc 1 _ rfl
  have HL := Lib.hid h5.len
  have HH := Lib.hid (h5.height rfl)
  have HG := Lib.hid h5.grown
  clear hs5 hsl hc h5
  go_wp2_with fail
  refine HL.out.mono ?_
  rintro e u1 ⟨rfl, eu⟩
  have eu := eu.symm
  subst eu
  go_wp2_with fail
  refine HH.out.mono ?_
  rintro e u1 ⟨rfl, eu⟩
  have eu := eu.symm
  subst eu
  go_wp2_with fail
  go_ret
  exact ⟨rfl, HG.out⟩
end Go.Proofs.Ytijpienjejfmiaa
