/-
  The document's own history (package abecedaryref08) and SameGroup: their contracts, told by lists. Conditions: groups of at most 20 edits.
-/
import Derived.Test.YtiiaphgencoijaaHistP
import Derived.Test.YtiiaphgencoijaaSl
import Derived.StillTailTactics
namespace Go.Proofs.Ytiiaphgencoijaa
open Go Go.RowKit

theorem hist_info22 : (Try.prog.info? 32).map (fun i => (i.zero, i.size, i.bytes)) = some (some (.slice none 0 0), 1, 24) := by kernel_rfl

/-- A group as a list of the document's history holds it. -/
def GV (w : World) (L : List Nat) (v : Value) (g : List Value) : Prop := ∃ A n c, v = .slice A n c ∧ n ≤ 20 ∧ Sl w 3 A n g ∧ ∀ l ∈ L, Off A n l

/-- A list of groups. -/
def GL (w : World) (L : List Nat) (us : List Value) (U : List (List Value)) : Prop := us.length = U.length ∧ ∀ (i : Nat) v g, us[i]? = some v → U[i]? = some g → GV w L v g

/-- The document's history at block b. -/
def RefH (w : World) (b d : Nat) (L : List Nat) (U R : List (List Value)) : Prop :=
  b ∈ L ∧ (∀ l ∈ L, l < w.heap.size) ∧ U.length ≤ 50 ∧ R.length ≤ 50 ∧ ∃ UA uc RA rc us rs,
    w.heap[b]? = some (.cells #[.int .i64 d, .slice UA U.length uc, .slice RA R.length rc] 40 (0, 0)) ∧ U.length ≤ uc ∧ R.length ≤ rc ∧
    Sl w 1 UA U.length us ∧ Sl w 1 RA R.length rs ∧ (∀ l ∈ L, Off UA U.length l) ∧ (∀ l ∈ L, Off RA R.length l) ∧ GL w L us U ∧ GL w L rs R.reverse

theorem GV.kept {w w' : World} {L : List Nat} {v : Value} {g : List Value} (h : GV w L v g) {r : Option Nat} (k : w.grownBy w' r) (hr : ∀ l, r = some l → l ∈ L ∨ w.heap.size ≤ l) : GV w' L v g := by
  obtain ⟨A, n, c, rfl, hn, hs, ho⟩ := h
  exact ⟨A, n, c, rfl, hn, hs.kept k (fun l e => (hr l e).elim (ho l) (hs.off_new (by omega))), ho⟩

theorem GL.kept {w w' : World} {L : List Nat} {us : List Value} {U : List (List Value)} (h : GL w L us U) {r : Option Nat} (k : w.grownBy w' r) (hr : ∀ l, r = some l → l ∈ L ∨ w.heap.size ≤ l) : GL w' L us U :=
  ⟨h.1, fun i v g hv hg => (h.2 i v g hv hg).kept k hr⟩

theorem GL.nil (w : World) (L : List Nat) : GL w L [] [] := ⟨rfl, fun i v g hv => by simp at hv⟩

theorem GL.snoc {w : World} {L : List Nat} {us : List Value} {U : List (List Value)} {v : Value} {g : List Value} (h : GL w L us U) (hv : GV w L v g) : GL w L (us ++ [v]) (U ++ [g]) := by
  refine ⟨by simp [h.1], fun i v' g' h1 h2 => ?_⟩
  rcases Nat.lt_or_ge i us.length with hi | hi
  · rw [List.getElem?_append_left hi] at h1
    rw [List.getElem?_append_left (by have := h.1; omega)] at h2
    exact h.2 i v' g' h1 h2
  · rw [List.getElem?_append_right hi] at h1
    rw [List.getElem?_append_right (by have := h.1; omega), ← h.1] at h2
    rcases Nat.eq_zero_or_pos (i - us.length) with h0 | h0
    · rw [h0] at h1 h2
      simp at h1 h2
      subst h1 h2
      exact hv
    · rw [List.getElem?_eq_none (by simp; omega)] at h1; cases h1

theorem GL.tail {w : World} {L : List Nat} {us : List Value} {U : List (List Value)} (h : GL w L us U) : GL w L us.tail U.tail :=
  ⟨by simp [h.1], fun i v g h1 h2 => h.2 (i + 1) v g (by simpa using h1) (by simpa using h2)⟩

theorem GL.init {w : World} {L : List Nat} {us : List Value} {U : List (List Value)} {g : List Value} (h : GL w L us (U ++ [g])) : GL w L (us.take U.length) U := by
  have hl := h.1
  simp at hl
  refine ⟨by simp [hl], fun i v g' h1 h2 => ?_⟩
  have hi : i < U.length := (List.getElem?_eq_some_iff.1 h2).1
  rw [List.getElem?_take_of_lt hi] at h1
  exact h.2 i v g' h1 (by rw [List.getElem?_append_left hi]; exact h2)

theorem GL.cells1 {w : World} {L : List Nat} {us : List Value} {U : List (List Value)} (h : GL w L us U) : ∀ x ∈ us, x.oneCell' = true := by
  intro x hx
  obtain ⟨i, hi, rfl⟩ := List.mem_iff_getElem.1 hx
  obtain ⟨A, n, c, e, _⟩ := h.2 i us[i] _ (List.getElem?_eq_getElem hi) (List.getElem?_eq_getElem (by have := h.1; omega))
  rw [e]; rfl

theorem RefH.kept {w w' : World} {b d : Nat} {L : List Nat} {U R : List (List Value)} (h : RefH w b d L U R) {r : Option Nat} (k : w.grownBy w' r) (hr : ∀ l, r = some l → l ≠ b ∧ (l ∈ L ∨ w.heap.size ≤ l)) : RefH w' b d L U R := by
  obtain ⟨hb, hL, hu, hr', UA, uc, RA, rc, us, rs, hh, huc, hrc, h1, h2, o1, o2, g1, g2⟩ := h
  refine ⟨hb, fun l hl => Nat.lt_of_lt_of_le (hL l hl) k.size, hu, hr', UA, uc, RA, rc, us, rs, grownBy_heap k hh (fun e => (hr b e).1 rfl), huc, hrc, h1.kept k ?_, h2.kept k ?_, o1, o2, g1.kept k fun l e => (hr l e).2, g2.kept k fun l e => (hr l e).2⟩
  · exact fun l e => (hr l e).2.elim (o1 l) (h1.off_new (by omega))
  · exact fun l e => (hr l e).2.elim (o2 l) (h2.off_new (by omega))

def RNewRes (d : Int) (L : List Nat) (w : World) (e : Ending) (w' : World) : Prop :=
  e = .returned (.pointer (some ⟨w.heap.size, 0, none⟩)) ∧ w.grownBy w' none ∧ w.heap.size < w'.heap.size ∧ ∃ D : Nat, D ≤ 50 ∧ (D : Int) = max 0 (min d 50) ∧ RefH w' w.heap.size D (w.heap.size :: L) [] []

theorem refh_new_fin (D : Nat) (L : List Nat) (w : World) (hL : ∀ l ∈ L, l < w.heap.size) :
    RefH (w.alloc (.cells #[.int .i64 D, .slice none 0 0, .slice none 0 0] 40)) w.heap.size D (w.heap.size :: L) [] [] :=
  ⟨by simp, fun l hl => by rcases List.mem_cons.1 hl with rfl | hl; simp; have := hL l hl; simp; omega, by simp, by simp, none, 0, none, 0, [], [], heap_alloc_new _ _, by simp, by simp, Sl.nil _ _ _, Sl.nil _ _ _, fun _ _ h => absurd h (by simp), fun _ _ h => absurd h (by simp), GL.nil _ _, GL.nil _ _⟩

set_option maxRecDepth 100000 in
set_option maxHeartbeats 400000 in
theorem refh_new (d : Int) (L : List Nat) (w : World) (hL : ∀ l ∈ L, l < w.heap.size) : Calls Try.prog 13 #[.int .i64 d] w (RNewRes d L w) := by
  go_enter Try.func13, Try.ntmps13
  go_wp2
  · go_ret
    exact ⟨rfl, World.grownBy_alloc _ _ _, by simp, 0, by omega, by omega, refh_new_fin 0 L w hL⟩
  · go_ret
    exact ⟨rfl, World.grownBy_alloc _ _ _, by simp, 50, by omega, by omega, refh_new_fin 50 L w hL⟩
  · go_ret
    obtain ⟨D, rfl⟩ := Int.eq_ofNat_of_zero_le (show 0 ≤ d by omega)
    exact ⟨rfl, World.grownBy_alloc _ _ _, by simp, D, by omega, by omega, refh_new_fin D L w hL⟩

set_option maxRecDepth 100000 in
set_option maxHeartbeats 400000 in
theorem refh_push_none (b : Nat) (A : Option Addr) (c : Nat) (w : World) :
    Calls Try.prog 17 #[.pointer (some ⟨b, 0, none⟩), .slice A 0 c] w fun e w' => e = .returned (.tuple #[]) ∧ w = w' := by
  have h0 : (((0 : Nat) : Int) == 0) = true := rfl
  go_enter Try.func17, Try.ntmps17
  go_wp2_with fail
  exact bodyPost_ret (results_none rfl _ _ _) rfl ⟨rfl, rfl⟩

def RPushRes (b d : Nat) (L : List Nat) (U : List (List Value)) (g : List Value) (w : World) (e : Ending) (w' : World) : Prop :=
  e = .returned (.tuple #[]) ∧ w.grownBy w' (some b) ∧ RefH w' b d L (pushU d U g) []

/-- The end of Push: what is stored makes the document's history of the longer list. -/
theorem refh_pushed {b d : Nat} {L : List Nat} {V : List (List Value)} {w w' : World} {A : Option Addr} {c : Nat} {us : List Value} (hb : b ∈ L) (hL : ∀ l ∈ L, l < w.heap.size) (hg : w.grownBy w' (some b))
    (hV : V.length ≤ 50) (hh : w'.heap[b]? = some (.cells #[.int .i64 d, .slice A V.length c, .slice none 0 0] 40 (0, 0))) (hc : V.length ≤ c)
    (hs : Sl w' 1 A V.length us) (ho : ∀ l ∈ L, Off A V.length l) (hG : GL w' L us V) : RefH w' b d L V [] :=
  ⟨hb, fun l hl => Nat.lt_of_lt_of_le (hL l hl) hg.size, hV, by simp, A, c, none, 0, us, [], hh, hc, by simp, hs, Sl.nil _ _ _, ho, fun _ _ h => absurd h (by simp), hG, GL.nil _ _⟩

set_option maxRecDepth 100000 in
set_option maxHeartbeats 1000000 in
theorem refh_push (b d : Nat) (L : List Nat) (U R : List (List Value)) (A : Option Addr) (n c : Nat) (g : List Value) (w : World) (h : RefH w b d L U R) (hd : d ≤ 50) (hUd : U.length ≤ d) (hn : 0 < n) (hn20 : n ≤ 20) (hs : Sl w 3 A n g) :
    Calls Try.prog 17 #[.pointer (some ⟨b, 0, none⟩), .slice A n c] w (RPushRes b d L U g w) := by
  obtain ⟨hb, hL, hu, hr', UA, uc, RA, rc, us, rs, hh, huc, hrc, h1, h2, o1, o2, g1, g2⟩ := h
  obtain ⟨i0, hi, hz0, hz1, hz2⟩ := info_parts hist_info22
  obtain ⟨j0, hj, hy0, hy1, hy2⟩ := info_parts hist_info31
  have hn0 : ((n : Int) == 0) = false := by rw [beq_eq_false_iff_ne]; omega
  have c1 : w.cell? ⟨b, 1, none⟩ = some (.slice UA U.length uc) := cell_of_heap hh 1
  have hown0 := World.ownsRow_nil w w.heap.size 32 1
  have HH := Lib.hid hh
  clear hh
  go_enter Try.func17, Try.ntmps17
  go_wp2_with (at_builtin; refine wpList_append_sl _ rfl _ (.tmp 11) 22 rfl w.heap.size 32 i0 _ 1 24 Try.underlying22 hi hz0 hz1 hz2 rfl (by decide) (.slice none 0 0) _ _ rfl hown0 UA U.length uc us rfl h1 (by unfold maxLen; omega) (by omega) (by simp) ?_)
  rintro v1 w1 ⟨hown1, hg1, hat1⟩
  have hg1' : w.grownBy w1 none := hg1
  have hs1 := hs.kept hg1' nofun
  have hown2 := World.ownsRow_nil w1 w1.heap.size 31 3
  go_wp2_with (at_builtin; refine wpList_append_sl _ rfl _ (.tmp 13) 32 rfl w1.heap.size 31 j0 _ 3 40 Try.underlying32 hj hy0 hy1 hy2 rfl (by decide) (.slice none 0 0) _ _ rfl hown2 A n c g rfl hs1 (by unfold maxLen; omega) (by omega) (by simp) ?_)
  rintro v2 w2 ⟨hown3, hg2, hat2⟩
  have hg2' : w1.grownBy w2 none := hg2
  obtain ⟨q, cap, hv2⟩ : ∃ q cap, v2 = .slice (some ⟨q, 0, none⟩) n cap := by
    rcases hown3.2 with ⟨_, h0⟩ | ⟨q, cap, _, hv, _⟩
    · omega
    · exact ⟨q, cap, hv⟩
  subst hv2
  have hown1' : (w2.alloc (.cells #[.slice (some ⟨q, 0, none⟩) n cap] 32)).ownsRow w.heap.size 32 1 v1 U.length us := (hown1.kept hg2' (own_none _)).alloc _
  have hsx : Sl (w2.alloc (.cells #[.slice (some ⟨q, 0, none⟩) n cap] 32)) 1 (some ⟨w2.heap.size, 0, none⟩) 1 [.slice (some ⟨q, 0, none⟩) n cap] :=
    ⟨rfl, by simp [Value.oneCell'], fun _ => ⟨_, _, rfl, by intro j u hu; rcases j with _ | j; simp at hu; subst hu; simp; simp at hu⟩⟩
  go_wp2_with (at_builtin; refine wpList_append_sl _ rfl _ (.tmp 15) 22 rfl w.heap.size 32 i0 _ 1 24 Try.underlying22 hi hz0 hz1 hz2 rfl (by decide) v1 _ _ rfl hown1' (some ⟨w2.heap.size, 0, none⟩) 1 1 _ rfl hsx (by unfold maxLen; omega) (by omega) (by simp; have := hg1.size; have := hg2.size; omega) ?_)
  rintro v3 w3 ⟨hown4, hg3, hat3⟩
  obtain ⟨q3, cap3, hv3, hc3, hq3, hq3'⟩ := own_form hown4 (by omega)
  subst hv3
  have hgw2 : w.grownBy w2 none := grownBy_trans hg1' hg2' nofun
  have hgw3 : w.grownBy w3 none := grownBy_trans (grownBy_alloc hgw2 _) hg3 (fun i e => .inr (hown1.lt i e).1)
  have hq0 := hown3.lt q rfl
  have hown3' : w3.ownsRow w1.heap.size 31 3 (.slice (some ⟨q, 0, none⟩) n cap) n g := (hown3.alloc _).kept hg3 (.inr (by intro e; have := (hown1.lt q e.symm).2; omega))
  have hh3 := grownBy_heap hgw3 HH.out nofun
  have f1 := frozen_of_heap hh3 1
  have f2 := frozen_of_heap hh3 2
  have c1' := cell_of_heap hh3 1
  have c2' := cell_of_heap hh3 2
  simp only [List.getElem?_toArray, List.getElem?_cons_zero, List.getElem?_cons_succ] at c1' c2'
  have HH3 := Lib.hid hh3
  have hbw := hL b hb
  have hs1' := hg1'.size
  have hs2' := hg2'.size
  clear hh3 c1 hown1' hown2 hown0 hsx hown1 hat1 hat2 hat3 hg3 hg1 hg2
  go_wp2_with fail
  generalize hw4 : (w3.setCell ⟨b, 1, none⟩ (.slice (some ⟨q3, 0, none⟩) (U.length + 1) cap3)).setCell ⟨b, 2, none⟩ (.slice none 0 0) = w4
  have hh4 : w4.heap[b]? = some (.cells #[.int .i64 d, .slice (some ⟨q3, 0, none⟩) (U.length + 1) cap3, .slice none 0 0] 40 (0, 0)) := by
    rw [← hw4, heap_setCell (heap_setCell HH3.out _ _) _ _]; rfl
  have hg34 : w3.grownBy w4 (some b) := by rw [← hw4]; exact grownBy_setCell (grownBy_setCell (grownBy_refl _ _) _ _ _ (.inl rfl)) _ _ _ (.inl rfl)
  have hgw4 : w.grownBy w4 (some b) := grownBy_trans (grownBy_trans (grownBy_refl w _) hgw3 nofun) hg34 (fun i e => .inl e)
  have hown4' := hown4.kept hg34 (.inr (by intro e; have : q3 = b := by simpa [Value.ownBlock] using e
                                           omega))
  have hown3'' := hown3'.kept hg34 (.inr (by intro e; have : q = b := by simpa [Value.ownBlock] using e
                                             omega))
  have hGV : GV w4 L (.slice (some ⟨q, 0, none⟩) n cap) g := ⟨_, n, cap, rfl, hn20, Sl.of_own hown3'' hs.2.1, fun l hl _ a ha e => by cases ha; have := hL l hl; simp at e; omega⟩
  have hGL := (g1.kept hgw4 (fun l e => .inl (by cases e; exact hb))).snoc hGV
  have hSl := Sl.of_own hown4' hGL.cells1
  have hOff : ∀ m, ∀ l ∈ L, ∀ k, Off (some ⟨q3, k, none⟩) m l := fun m l hl k _ a ha e => by cases ha; have := hL l hl; simp at e; omega
  have d0 := cell_of_heap hh4 0
  have d1 := cell_of_heap hh4 1
  have z1 := frozen_of_heap hh4 1
  simp only [List.getElem?_toArray, List.getElem?_cons_zero, List.getElem?_cons_succ] at d0 d1
  have HH4 := Lib.hid hh4
  have HS := Lib.hid hSl
  have HG := Lib.hid hGL
  clear hw4 hh4 hown4' hown3'' hown3' hGV c1' c2' f1 f2 hSl hGL
  by_cases hdu : d < U.length + 1
  · have hdu' : decide ((d : Int) < (U.length : Int) + 1) = true := by simp; omega
    have hpu : pushU d U g = (U ++ [g]).tail := by rw [pushU, if_neg (by omega)]
    have hlt : (U ++ [g]).tail.length = U.length := by simp
    by_cases hcap : cap3 = 1
    · subst hcap
      have hU0 : U.length = 0 := by omega
      go_quiet (fail)
      go_wp2_with fail
      go_end0
      have hg5 : w4.grownBy _ (some b) := grownBy_setCell (grownBy_drewN (grownBy_refl w4 (some b)) nq) b 1 (.slice (some ⟨q3, 0, none⟩) 0 0) (.inl rfl)
      have hg5' := grownBy_trans hgw4 hg5 (fun i e => .inl e)
      refine ⟨rfl, hg5', ?_⟩
      rw [hpu]
      refine refh_pushed (A := some ⟨q3, 0, none⟩) (c := 0) hb hL hg5' (by omega) (by rw [hlt, hU0]; exact heap_setCell (w := w4) HH4.out 1 _) (by omega) (us := (us ++ [Value.slice (some ⟨q, 0, none⟩) n cap]).tail) ?_ (fun l hl => hOff _ l hl 0) (HG.out.tail.kept hg5 (fun l e => .inl (by cases e; exact hb)))
      rw [hlt]
      exact (HS.out.tail (A := some ⟨q3, 0, none⟩) (fun h => by omega)).kept hg5 (fun l e => by cases e; exact hOff _ b hb 0)
    · go_quiet (fail)
      go_wp2_with fail
      go_end0
      have hg5 : w4.grownBy _ (some b) := grownBy_setCell (grownBy_drewN (grownBy_refl w4 (some b)) nq) b 1 (.slice (some ⟨q3, 1, none⟩) U.length (cap3 - 1)) (.inl rfl)
      have hg5' := grownBy_trans hgw4 hg5 (fun i e => .inl e)
      refine ⟨rfl, hg5', ?_⟩
      rw [hpu]
      refine refh_pushed (A := some ⟨q3, 1, none⟩) (c := cap3 - 1) hb hL hg5' (by omega) (by rw [hlt]; exact heap_setCell (w := w4) HH4.out 1 _) (by omega) (us := (us ++ [Value.slice (some ⟨q, 0, none⟩) n cap]).tail) ?_ (fun l hl => hOff _ l hl 1) (HG.out.tail.kept hg5 (fun l e => .inl (by cases e; exact hb)))
      rw [hlt]
      exact (HS.out.tail (A := some ⟨q3, 1, none⟩) (fun _ => rfl)).kept hg5 (fun l e => by cases e; exact hOff _ b hb 1)
  · have hdu' : decide ((d : Int) < (U.length : Int) + 1) = false := by simp; omega
    go_quiet (fail)
    go_wp2_with fail
    go_end0
    refine ⟨rfl, grownBy_drewN hgw4 _, ?_⟩
    rw [pushU, if_pos (by omega)]
    exact (refh_pushed hb hL hgw4 (by simp; omega) (by simpa using HH4.out) (by simpa using hc3) (by simpa using HS.out) (fun l hl => hOff _ l hl 0) HG.out).kept (grownBy_drewN (grownBy_refl w4 none) _) nofun
end Go.Proofs.Ytiiaphgencoijaa
