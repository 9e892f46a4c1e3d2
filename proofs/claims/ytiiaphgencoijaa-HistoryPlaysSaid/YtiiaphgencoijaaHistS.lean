/-
  The document's own history: Undo and Redo; Same and SameGroup of equal groups. Conditions: groups of at most 20 edits.
-/
import Derived.Test.YtiiaphgencoijaaHistR
namespace Go.Proofs.Ytiiaphgencoijaa
open Go Go.RowKit

def RTurnRes (b d : Nat) (L : List Nat) (U R : List (List Value)) (g : List Value) (w : World) (e : Ending) (w' : World) : Prop :=
  ∃ A n c, e = .returned (.tuple #[.slice A n c, .bool true]) ∧ w.grownBy w' (some b) ∧ n ≤ 20 ∧ Sl w' 3 A n g ∧ RefH w' b d L U R

theorem refh_undo_none (b d : Nat) (L : List Nat) (R : List (List Value)) (w : World) (h : RefH w b d L [] R) :
    Calls Try.prog 19 #[.pointer (some ⟨b, 0, none⟩)] w fun e w' => e = .returned (.tuple #[.slice none 0 0, .bool false]) ∧ w = w' := by
  obtain ⟨hb, hL, hu, hr', UA, uc, RA, rc, us, rs, hh, huc, hrc, h1, h2, o1, o2, g1, g2⟩ := h
  have c1 : w.cell? ⟨b, 1, none⟩ = some (.slice UA 0 uc) := cell_of_heap hh 1
  have h0 : (((0 : Nat) : Int) == 0) = true := rfl
  clear hh
  go_enter Try.func19, Try.ntmps19
  go_wp2_with fail
  go_ret2
  exact ⟨rfl, rfl⟩

theorem refh_redo_none (b d : Nat) (L : List Nat) (U : List (List Value)) (w : World) (h : RefH w b d L U []) :
    Calls Try.prog 22 #[.pointer (some ⟨b, 0, none⟩)] w fun e w' => e = .returned (.tuple #[.slice none 0 0, .bool false]) ∧ w = w' := by
  obtain ⟨hb, hL, hu, hr', UA, uc, RA, rc, us, rs, hh, huc, hrc, h1, h2, o1, o2, g1, g2⟩ := h
  have c1 : w.cell? ⟨b, 2, none⟩ = some (.slice RA 0 rc) := cell_of_heap hh 2
  have h0 : (((0 : Nat) : Int) == 0) = true := rfl
  clear hh
  go_enter Try.func22, Try.ntmps22
  go_wp2_with fail
  go_ret2
  exact ⟨rfl, rfl⟩

set_option maxRecDepth 100000 in
set_option maxHeartbeats 1000000 in
theorem refh_undo (b d : Nat) (L : List Nat) (U R : List (List Value)) (g : List Value) (w : World) (h : RefH w b d L (U ++ [g]) R) (hR : R.length < 50) :
    Calls Try.prog 19 #[.pointer (some ⟨b, 0, none⟩)] w (RTurnRes b d L U (g :: R) g w) := by
  obtain ⟨hb, hL, hu, hr', UA, uc, RA, rc, us, rs, hh, huc, hrc, h1, h2, o1, o2, g1, g2⟩ := h
  simp only [List.length_append, List.length_cons, List.length_nil, Nat.zero_add] at hu hh huc h1 o1
  obtain ⟨i0, hi, hz0, hz1, hz2⟩ := info_parts hist_info22
  have hul : us.length = U.length + 1 := by simpa using g1.1
  obtain ⟨p, o, rfl, hc⟩ := h1.2.2 (by omega)
  have hlast : us[U.length]? = some (us[U.length]'(by omega)) := List.getElem?_eq_getElem (by omega)
  obtain ⟨A, n, c, hA, hn, hs, ho⟩ := g1.2 U.length _ g hlast (by simp)
  rw [hA] at hlast
  have cl := hc U.length _ hlast
  have c1 : w.cell? ⟨b, 1, none⟩ = some (.slice (some ⟨p, o, none⟩) (U.length + 1) uc) := cell_of_heap hh 1
  have c2 : w.cell? ⟨b, 2, none⟩ = some (.slice RA R.length rc) := cell_of_heap hh 2
  have z1 := frozen_of_heap hh 1
  have z2 := frozen_of_heap hh 2
  have hn0 : ((((U.length + 1 : Nat) : Int)) == 0) = false := by rw [beq_eq_false_iff_ne]; omega
  have HH := Lib.hid hh
  have HC := Lib.hid hc
  clear hh hc hA hlast hul
  have hw1 := fun v => Lib.hid (grownBy_setCell (grownBy_refl w (some b)) b 1 v (.inl rfl))
  go_enter Try.func19, Try.ntmps19
  go_wp2_with (at_builtin; refine wpList_append_sl _ rfl _ (.tmp 35) 22 rfl w.heap.size 32 i0 _ 1 24 Try.underlying22 hi hz0 hz1 hz2 rfl (by decide) (.slice none 0 0) 0 [] rfl (World.ownsRow_nil _ _ _ _) RA R.length rc rs rfl ?ha (by unfold maxLen; omega) (by omega) (by simp) ?_)
  case ha => exact h2.kept (hw1 _).out (fun l e => by cases e; exact o2 b hb)
  rintro v1 w2 ⟨hown1, hg2, hat1⟩
  have hg2' : World.grownBy _ w2 none := hg2
  have hsx : Sl (w2.alloc (.cells #[.slice A n c] 32)) 1 (some ⟨w2.heap.size, 0, none⟩) 1 [.slice A n c] :=
    ⟨rfl, by simp [Value.oneCell'], fun _ => ⟨_, _, rfl, by intro j u hu; rcases j with _ | j; simp at hu; subst hu; simp; simp at hu⟩⟩
  go_wp2_with (at_builtin; refine wpList_append_sl _ rfl _ (.tmp 38) 22 rfl w.heap.size 32 i0 _ 1 24 Try.underlying22 hi hz0 hz1 hz2 rfl (by decide) v1 _ _ rfl (hown1.alloc _) (some ⟨w2.heap.size, 0, none⟩) 1 1 _ rfl hsx (by unfold maxLen; omega) (by omega) (by simp; have := hg2.size; simp at this; omega) ?_)
  rintro v3 w3 ⟨hown4, hg3, hat3⟩
  obtain ⟨q3, cap3, hv3, hc3, hq3, hq3'⟩ := own_form hown4 (by omega)
  subst hv3
  have hbw := hL b hb
  have hgw2 : w.grownBy w2 (some b) := grownBy_trans (hw1 _).out hg2' nofun
  have hgw3 : w.grownBy w3 (some b) := grownBy_trans (grownBy_alloc hgw2 _) hg3 (fun i e => .inr (hown1.lt i e).1)
  have hh3 : w3.heap[b]? = some (.cells #[.int .i64 d, .slice (some ⟨p, o, none⟩) U.length uc, .slice RA R.length rc] 40 (0, 0)) := by
    have ha := heap_setCell HH.out 1 (.slice (some ⟨p, o, none⟩) U.length uc)
    have hb2 := grownBy_heap (grownBy_trans (grownBy_alloc (grownBy_refl w2 none) (.cells #[.slice A n c] 32)) (s := none) (grownBy_refl _ _) nofun) (grownBy_heap hg2' ha nofun) nofun
    exact grownBy_heap hg3 hb2 (by intro e; have := (hown1.lt b e).1; omega)
  have z2' := frozen_of_heap hh3 2
  have c2' := cell_of_heap hh3 2
  simp only [List.getElem?_toArray, List.getElem?_cons_zero, List.getElem?_cons_succ] at c2'
  have HH3 := Lib.hid hh3
  clear hh3
  go_wp2_with fail
  go_ret2
  have hg34 := grownBy_setCell (grownBy_refl w3 (some b)) b 2 (.slice (some ⟨q3, 0, none⟩) (R.length + 1) cap3) (.inl rfl)
  have hgw4 := grownBy_trans hgw3 hg34 (fun i e => .inl e)
  have hL3 : ∀ l ∈ L, l ≠ q3 := fun l hl e => by have := hL l hl; omega
  refine ⟨A, n, c, rfl, hgw4, hn, hs.kept hgw4 (fun l e => by cases e; exact ho b hb), hb, fun l hl => Nat.lt_of_lt_of_le (hL l hl) hgw4.size, by omega, by simp; omega,
    some ⟨p, o, none⟩, uc, some ⟨q3, 0, none⟩, cap3, us.take U.length, rs ++ [.slice A n c], ?_, by omega, by simpa using hc3, ?_, ?_, ?_, ?_, ?_, ?_⟩
  · rw [heap_setCell HH3.out]; rfl
  · have := (h1.take (m := U.length) (by omega)).kept hgw4 (fun l e => by cases e; intro h0; exact o1 b hb (by omega))
    rwa [Nat.mul_one] at this
  · have hown5 := hown4.kept hg34 (.inr (by intro e; have : q3 = b := by simpa [Value.ownBlock] using e
                                            omega))
    have := Sl.of_own hown5 (by
      intro x hx
      rcases List.mem_append.1 hx with hx | hx
      · exact g2.cells1 x hx
      · simp at hx; subst hx; rfl)
    simpa using this
  · exact fun l hl h0 => o1 l hl (by omega)
  · exact fun l hl _ a ha e => by cases ha; exact hL3 l hl e.symm
  · exact g1.init.kept hgw4 (fun l e => .inl (by cases e; exact hb))
  · rw [List.reverse_cons]
    exact (g2.kept hgw4 (fun l e => .inl (by cases e; exact hb))).snoc ⟨A, n, c, rfl, hn, hs.kept hgw4 (fun l e => by cases e; exact ho b hb), ho⟩

set_option maxRecDepth 100000 in
set_option maxHeartbeats 1000000 in
theorem refh_redo (b d : Nat) (L : List Nat) (U R : List (List Value)) (g : List Value) (w : World) (h : RefH w b d L U (g :: R)) (hU : U.length < 50) :
    Calls Try.prog 22 #[.pointer (some ⟨b, 0, none⟩)] w (RTurnRes b d L (U ++ [g]) R g w) := by
  obtain ⟨hb, hL, hu, hr', UA, uc, RA, rc, us, rs, hh, huc, hrc, h1, h2, o1, o2, g1, g2⟩ := h
  simp only [List.length_cons] at hr' hh hrc h2 o2
  rw [List.reverse_cons] at g2
  obtain ⟨i0, hi, hz0, hz1, hz2⟩ := info_parts hist_info22
  have hul : rs.length = R.length + 1 := by simpa using g2.1
  obtain ⟨p, o, rfl, hc⟩ := h2.2.2 (by omega)
  have hlast : rs[R.length]? = some (rs[R.length]'(by omega)) := List.getElem?_eq_getElem (by omega)
  obtain ⟨A, n, c, hA, hn, hs, ho⟩ := g2.2 R.length _ g hlast (by simp)
  rw [hA] at hlast
  have cl := hc R.length _ hlast
  have c1 : w.cell? ⟨b, 1, none⟩ = some (.slice UA U.length uc) := cell_of_heap hh 1
  have c2 : w.cell? ⟨b, 2, none⟩ = some (.slice (some ⟨p, o, none⟩) (R.length + 1) rc) := cell_of_heap hh 2
  have z1 := frozen_of_heap hh 1
  have z2 := frozen_of_heap hh 2
  have hn0 : ((((R.length + 1 : Nat) : Int)) == 0) = false := by rw [beq_eq_false_iff_ne]; omega
  have HH := Lib.hid hh
  have HC := Lib.hid hc
  clear hh hc hA hlast hul
  have hw1 := fun v => Lib.hid (grownBy_setCell (grownBy_refl w (some b)) b 2 v (.inl rfl))
  go_enter Try.func22, Try.ntmps22
  go_wp2_with (at_builtin; refine wpList_append_sl _ rfl _ (.tmp 35) 22 rfl w.heap.size 32 i0 _ 1 24 Try.underlying22 hi hz0 hz1 hz2 rfl (by decide) (.slice none 0 0) 0 [] rfl (World.ownsRow_nil _ _ _ _) UA U.length uc us rfl ?ha (by unfold maxLen; omega) (by omega) (by simp) ?_)
  case ha => exact h1.kept (hw1 _).out (fun l e => by cases e; exact o1 b hb)
  rintro v1 w2 ⟨hown1, hg2, hat1⟩
  have hg2' : World.grownBy _ w2 none := hg2
  have hsx : Sl (w2.alloc (.cells #[.slice A n c] 32)) 1 (some ⟨w2.heap.size, 0, none⟩) 1 [.slice A n c] :=
    ⟨rfl, by simp [Value.oneCell'], fun _ => ⟨_, _, rfl, by intro j u hu; rcases j with _ | j; simp at hu; subst hu; simp; simp at hu⟩⟩
  go_wp2_with (at_builtin; refine wpList_append_sl _ rfl _ (.tmp 38) 22 rfl w.heap.size 32 i0 _ 1 24 Try.underlying22 hi hz0 hz1 hz2 rfl (by decide) v1 _ _ rfl (hown1.alloc _) (some ⟨w2.heap.size, 0, none⟩) 1 1 _ rfl hsx (by unfold maxLen; omega) (by omega) (by simp; have := hg2.size; simp at this; omega) ?_)
  rintro v3 w3 ⟨hown4, hg3, hat3⟩
  obtain ⟨q3, cap3, hv3, hc3, hq3, hq3'⟩ := own_form hown4 (by omega)
  subst hv3
  have hbw := hL b hb
  have hgw2 : w.grownBy w2 (some b) := grownBy_trans (hw1 _).out hg2' nofun
  have hgw3 : w.grownBy w3 (some b) := grownBy_trans (grownBy_alloc hgw2 _) hg3 (fun i e => .inr (hown1.lt i e).1)
  have hh3 : w3.heap[b]? = some (.cells #[.int .i64 d, .slice UA U.length uc, .slice (some ⟨p, o, none⟩) R.length rc] 40 (0, 0)) := by
    have ha := heap_setCell HH.out 2 (.slice (some ⟨p, o, none⟩) R.length rc)
    have hb2 := grownBy_heap (grownBy_trans (grownBy_alloc (grownBy_refl w2 none) (.cells #[.slice A n c] 32)) (s := none) (grownBy_refl _ _) nofun) (grownBy_heap hg2' ha nofun) nofun
    exact grownBy_heap hg3 hb2 (by intro e; have := (hown1.lt b e).1; omega)
  have z2' := frozen_of_heap hh3 1
  have c2' := cell_of_heap hh3 1
  simp only [List.getElem?_toArray, List.getElem?_cons_zero, List.getElem?_cons_succ] at c2'
  have HH3 := Lib.hid hh3
  clear hh3
  go_wp2_with fail
  go_ret2
  have hg34 := grownBy_setCell (grownBy_refl w3 (some b)) b 1 (.slice (some ⟨q3, 0, none⟩) (U.length + 1) cap3) (.inl rfl)
  have hgw4 := grownBy_trans hgw3 hg34 (fun i e => .inl e)
  have hL3 : ∀ l ∈ L, l ≠ q3 := fun l hl e => by have := hL l hl; omega
  refine ⟨A, n, c, rfl, hgw4, hn, hs.kept hgw4 (fun l e => by cases e; exact ho b hb), hb, fun l hl => Nat.lt_of_lt_of_le (hL l hl) hgw4.size, by simp; omega, by omega,
    some ⟨q3, 0, none⟩, cap3, some ⟨p, o, none⟩, rc, us ++ [.slice A n c], rs.take R.length, ?_, by simpa using hc3, by omega, ?_, ?_, ?_, ?_, ?_, ?_⟩
  · rw [heap_setCell HH3.out, List.length_append]; rfl
  · have hown5 := hown4.kept hg34 (.inr (by intro e; have : q3 = b := by simpa [Value.ownBlock] using e
                                            omega))
    have := Sl.of_own hown5 (by
      intro x hx
      rcases List.mem_append.1 hx with hx | hx
      · exact g1.cells1 x hx
      · simp at hx; subst hx; rfl)
    simpa using this
  · have := (h2.take (m := R.length) (by omega)).kept hgw4 (fun l e => by cases e; intro h0; exact o2 b hb (by omega))
    rwa [Nat.mul_one] at this
  · exact fun l hl _ a ha e => by cases ha; exact hL3 l hl e.symm
  · exact fun l hl h0 => o2 l hl (by omega)
  · exact (g1.kept hgw4 (fun l e => .inl (by cases e; exact hb))).snoc ⟨A, n, c, rfl, hn, hs.kept hgw4 (fun l e => by cases e; exact ho b hb), ho⟩
  · have := g2.init.kept hgw4 (fun l e => .inl (by cases e; exact hb))
    simpa using this
end Go.Proofs.Ytiiaphgencoijaa
