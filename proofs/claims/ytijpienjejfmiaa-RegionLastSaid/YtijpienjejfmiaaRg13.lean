/-
  The document's places: Edit. Conditions: at most 150000 places, at most 300 are put in.
-/
import Derived.Test.YtijpienjejfmiaaRg12
namespace Go.Proofs.Ytijpienjejfmiaa
open Go Go.RowKit

set_option maxHeartbeats 1000000 in
theorem cut20_walk (v : Int) (w : World) : Calls Try.prog 40 #[.int .i64 v] w fun e w' => e = .returned (.int .i64 (cutI v)) ∧ w' = w := by
  have hmax : ∀ (ts : Array TypeId) (ty : TypeId) (w : World), (Builtin.max_ ts ty #[.int .i64 v, .int .i64 0]).run Try.prog w = .ok (.int .i64 (max v 0)) w := by
    intro ts ty w
    rw [run_max_int2]; congr 2; split <;> omega
  have hmin : ∀ (ts : Array TypeId) (ty : TypeId) (w : World), (Builtin.min_ ts ty #[.int .i64 (max v 0), .int .i64 1099511627776]).run Try.prog w = .ok (.int .i64 (cutI v)) w := by
    intro ts ty w
    rw [run_min_int2]; congr 2; unfold cutI; split <;> omega
  generalize cutI v = c at *
  generalize max v 0 = m at *
  go_enter Try.func40, Try.ntmps40
  go_wp2_with fail
  go_ret
  exact ⟨rfl, rfl⟩

/-- A change of the row. -/
def editR (A D I : Nat) (l : List Int) : List Int := if l.length ≤ A then l else l.take A ++ List.replicate I (l.getD A 0) ++ l.drop (min (A + D) l.length)

/-- The loop that puts places in. -/
def InsRel (base : Nat) (P : List Int) (u : Int) (I : Nat) (w : World) (mv iv : Value) (wr : World) : Prop :=
  ∃ k : Nat, k ≤ I ∧ iv = .int .i64 (k : Int) ∧ Ints wr base mv (P ++ List.replicate k u) ∧ w.grownBy wr none

/-- A cut's end. -/
theorem Sl.drop {w : World} {A : Option Addr} {b o n : Nat} {cs : List Value} (h : Sl w 1 (some ⟨b, o, none⟩) n cs) (m : Nat) (hA : m < n → A = some ⟨b, o + m, none⟩) : Sl w 1 A (n - m) (cs.drop m) := by
  refine ⟨by rw [List.length_drop, h.1]; omega, fun x hx => h.2.1 x (List.mem_of_mem_drop hx), fun hn => ⟨b, o + m, hA (by omega), fun j u hu => ?_⟩⟩
  obtain ⟨b', o', e, hc⟩ := h.2.2 (by omega)
  cases e
  rw [Nat.add_assoc]
  exact hc (m + j) u (by rw [List.getElem?_drop] at hu; exact hu)

theorem R2.ofHeap {q : Nat} {l : List Int} {v : Value} {w w' : World} (h : R2 q l v w) (g : w.grownBy w' none) : R2 q l v w' := ⟨grownBy_heap g h.obj nofun, ownsRow_kept h.own g (own_none _)⟩

set_option maxRecDepth 100000 in
set_option maxHeartbeats 2000000 in
theorem edit22_walk {q : Nat} {l : List Int} {v : Value} {w : World} (a d i : Int) (I : Nat) (hI : cutI i = (I : Int)) (hI3 : I ≤ 300) (hl : l.length ≤ 150000) (h : R2 q l v w) :
    Calls Try.prog 23 #[.pointer (some ⟨q, 0, none⟩), .int .i64 a, .int .i64 d, .int .i64 i] w fun e w' => e = .returned (.tuple #[]) ∧ R2s q (editR (cutI a).toNat (cutI d).toNat I l) v w w' := by
  obtain ⟨i0, hi, hz0, hz1, hz2⟩ := info_parts int_info
  have hca := fun w => cut20_walk a w
  have hcd := fun w => cut20_walk d w
  have hci := fun w => cut20_walk i w
  obtain ⟨A, hA⟩ : ∃ A : Nat, cutI a = (A : Int) := ⟨(cutI a).toNat, by have := cutI_le a; omega⟩
  obtain ⟨D, hD⟩ : ∃ D : Nat, cutI d = (D : Int) := ⟨(cutI d).toNat, by have := cutI_le d; omega⟩
  have hA2 : (A : Int) ≤ 1099511627776 := by have := (cutI_le a).2; omega
  have hD2 : (D : Int) ≤ 1099511627776 := by have := (cutI_le d).2; omega
  simp only [hA, hD, hI] at hca hcd hci
  rw [hA, hD, Int.toNat_natCast, Int.toNat_natCast]
  clear hA hD hI
  have r0 := h.cell
  obtain ⟨rA, c, rfl, hsl⟩ := int_slice h.own
  obtain ⟨N, hN⟩ : ∃ N, l.length = N := ⟨_, rfl⟩
  rw [hN] at r0 h hsl hl
  have HN := Lib.hid hN
  have H := Lib.hid h
  have HSL := Lib.hid hsl
  have hqlt := heap_lt h.obj
  clear hN h hsl
  rw [HN.out]
  go_enter Try.func23, Try.ntmps23
  go_wp2_with fail
  refine (hca w).mono ?_
  rintro e u1 ⟨rfl, eu⟩
  have eu := eu.symm
  subst eu
  go_wp2_with fail
  refine (hcd w).mono ?_
  rintro e u1 ⟨rfl, eu⟩
  have eu := eu.symm
  subst eu
  go_wp2_with fail
  refine (hci w).mono ?_
  rintro e u1 ⟨rfl, eu⟩
  have eu := eu.symm
  subst eu
  clear hca hcd hci
  go_upto_region 1 with (fail)
  rcases Nat.lt_or_ge A N with hlt | hge
  · have b1 : ¬ (N : Int) ≤ (A : Int) := by omega
    have b1' : (A : Int) ≤ (N : Int) := by omega
    have hown : w.ownsRow (q + 1) 3 1 (.slice rA N c) N (iV l) := by
      have h5 := H.out.own
      unfold Ints at h5
      rw [HN.out] at h5
      exact h5
    obtain ⟨rb, cap, hv, hcap, hq1, hq2⟩ := own_form hown (by omega)
    cases hv
    clear hown
    have hsl : Sl w 1 (some ⟨rb, 0, none⟩) A ((iV l).take A) := by
      have h5 := HSL.out.take (m := A) (Nat.le_of_lt hlt)
      rw [Nat.mul_one] at h5
      exact h5
    have HS2 := Lib.hid hsl
    clear hsl
    have hIT : Try.underlying40 = Try.underlying40 := rfl
    clear hIT
    go_wp2_with (at_builtin; refine wpList_append_sl _ rfl (.const (.slice none 0 0)) (.tmp 28) 40 rfl w.heap.size 3 i0 _ 1 8 Try.underlying40 hi hz0 hz1 hz2 rfl (by decide) (.slice none 0 0) 0 [] rfl (World.ownsRow_nil _ _ _ _) (some ⟨rb, 0, none⟩) A c _ rfl HS2.out (by unfold maxLen; omega) (by omega) (Nat.le_refl _) ?_)
    rintro v1 w1 ⟨hs1, hg1, _⟩
    have hAl : A < l.length := by rw [HN.out]; exact hlt
    obtain ⟨u, hu⟩ : ∃ u, l.getD A 0 = u := ⟨_, rfl⟩
    have huv : (iV l)[A]? = some (.int .i64 u) := by
      rw [List.getElem?_map, List.getElem?_eq_getElem hAl, ← hu, List.getD_eq_getElem?_getD, List.getElem?_eq_getElem hAl]
      rfl
    have hE : editR A D I l = l.take A ++ List.replicate I u ++ l.drop (min (A + D) N) := by
      unfold editR
      rw [if_neg (by omega), hu, HN.out]
    have hP : (l.take A).length = A := by rw [List.length_take]; omega
    have hs1' : Ints w1 w.heap.size v1 (l.take A ++ List.replicate 0 u) := by
      unfold Ints
      rw [List.replicate_zero, List.append_nil, hP, show iV (l.take A) = (iV l).take A from List.map_take]
      exact hs1
    obtain ⟨rA1, c1, rfl⟩ := own_val hs1
    have HS1 := Lib.hid hs1'
    have HG1 := Lib.hid (show w.grownBy w1 none from hg1)
    have HE := Lib.hid hE
    have HP := Lib.hid hP
    have hbI : A < N := hlt
    have b2 : (A : Int) < (N : Int) := by omega
    clear hs1 hg1 hs1' hE hP hu b1 b1' r0
    go_wp2_with fail
    go_loopw [8, 9] (fun mv iv wr => InsRel w.heap.size (l.take A) u I w mv iv wr) (fun _ iv _ => I - (RowKit.intOf iv).toNat)
    case atStart => exact ⟨0, Nat.zero_le _, rfl, HS1.out, HG1.out⟩
    case round =>
      obtain ⟨k, hk, rfl, hm, hgr⟩ := hrel
      have h2 := H.out.ofHeap hgr
      have r0 := h2.cell
      obtain ⟨mA, mc, rfl⟩ := own_val hm
      obtain ⟨M, hM⟩ : ∃ M, (l.take A ++ List.replicate k u).length = M := ⟨_, rfl⟩
      have hM2 : M = A + k := by rw [← hM, List.length_append, HP.out, List.length_replicate]
      unfold Ints at hm
      rw [hM] at hm ⊢
      have HM := Lib.hid hM
      obtain ⟨X, hX0⟩ : ∃ X, iV (l.take A ++ List.replicate k u) = X := ⟨_, rfl⟩
      rw [hX0] at hm
      have HX0 := Lib.hid hX0
      clear hX0
      have hMb : M ≤ 150300 := by omega
      have c3 := hgr.size
      have HM2 := Lib.hid hM2
      clear hM h2 hM2
      rcases Nat.lt_or_ge k I with hlt2 | hge
      · have b1 : (k : Int) < (I : Int) := Int.ofNat_lt.2 hlt2
        have b3 : (M : Int) < 200000 := by omega
        have cA : wr.cell? ⟨rb, A, none⟩ = some (.int .i64 u) := by
          obtain ⟨b', o', e, hc⟩ := (HSL.out.kept hgr nofun).2.2 (by omega)
          cases e
          have h5 := hc A _ huv
          rw [Nat.zero_add] at h5
          exact h5
        have hX := grownBy_alloc (grownBy_refl wr none) (Obj.cells #[.int .i64 u] 3)
        have hsl9 := Sl.of_own (World.ownsRow_lit (base := 0) (size := 1) (e := 3) wr #[.int .i64 u] 1 (Nat.zero_le _) (by decide) rfl) (iV_one [u])
        have hown9 := ownsRow_kept hm hX (own_none _)
        have HSL9 := Lib.hid hsl9
        have HO9 := Lib.hid hown9
        have HG9 := Lib.hid (grownBy_trans hgr hX nofun)
        clear hsl9 hown9 hX hm hgr
        go_wp2_with (at_builtin; refine wpList_append_sl _ rfl (.tmp 40) (.tmp 48) 40 rfl w.heap.size 3 i0 _ 1 8 Try.underlying40 hi hz0 hz1 hz2 rfl (by decide) (.slice mA M mc) M _ rfl HO9.out (some ⟨wr.heap.size, 0, none⟩) 1 1 _ rfl HSL9.out (by unfold maxLen; omega) (by omega) (by simp; omega) ?_)
        rintro v' w10 ⟨hs10, hg10, _⟩
        have hg11 : w.grownBy w10 none := grownBy_trans HG9.out hg10 (fun i e => .inr ((HO9.out.lt i e).1))
        have hs11 : Ints w10 w.heap.size v' (l.take A ++ List.replicate (k + 1) u) := by
          unfold Ints
          rw [List.replicate_succ', ← List.append_assoc, List.length_append, HM.out, show iV (l.take A ++ List.replicate k u ++ [u]) = X ++ [.int .i64 u] from by rw [← HX0.out]; simp [iV]]
          exact hs10
        have HS11 := Lib.hid hs11
        have HG11 := Lib.hid hg11
        obtain ⟨nA, nc, rfl⟩ := own_val hs10
        clear hs10 hg10 hs11 hg11 cA r0 huv
        go_wp2_with fail
        go_roundw
        case rel => exact ⟨k + 1, hlt2, by simp, HS11.out, HG11.out⟩
        case measure => exact meas hlt2
      · have b1 : ¬ (k : Int) < (I : Int) := fun h => absurd (Int.ofNat_lt.1 h) (Nat.not_lt.2 hge)
        have hkI : k = I := Nat.le_antisymm hk hge
        subst hkI
        obtain ⟨E, hE⟩ : ∃ E, min (A + D) N = E := ⟨_, rfl⟩
        have hmin : ∀ (ts : Array TypeId) (ty : TypeId) (w : World), (Builtin.min_ ts ty #[.int .i64 ((A : Int) + (D : Int)), .int .i64 (N : Int)]).run Try.prog w = .ok (.int .i64 (E : Int)) w := by
          intro ts ty w
          rw [run_min_int2]; congr 2; split <;> omega
        have hEN : E ≤ N := by omega
        have hENI : (E : Int) ≤ (N : Int) := by omega
        have HEE := Lib.hid hE
        clear hE
        go_upto_region 7 with (fail)
        have HQ : wr.drew.heap[q]? = some (.cells #[.slice (some ⟨rb, 0, none⟩) N c] 42 (0, 0)) := (H.out.ofHeap hgr).obj
        have hw1 : IntKind.i64.wrap ((A : Int) + (D : Int)) = (A : Int) + (D : Int) := by rw [IntKind.wrap_i64]; omega
        refine region_pre 19 (fun u => u.heap[q]? = some (.cells #[.slice (some ⟨rb, 0, none⟩) N c] 42 (0, 0))) (by kernel_rfl) HQ (fun hHeld => ?_)
        go_simp
        refine pre_free 0 (v := ?_) rfl (by kernel_rfl) (by kernel_rfl) (by kernel_rfl) (by kernel_rfl) (fun _ _ _ h => h) (by rfl) (fun u => ?_) (by assumption) ?_
        rotate_left
        focus (go_simp; (try with_reducible rfl); done)
        try simp only [Act.put, List.setIfInBounds_toArray, List.set_cons_zero, List.set_cons_succ]
        refine pre_free 1 (v := ?_) rfl (by kernel_rfl) (by kernel_rfl) (by kernel_rfl) (by kernel_rfl) (fun _ _ _ h => h) (by rfl) (fun u => ?_) (by assumption) ?_
        rotate_left
        focus (go_simp; (try with_reducible rfl); done)
        try simp only [Act.put, List.setIfInBounds_toArray, List.set_cons_zero, List.set_cons_succ]
        refine pre_free 2 (v := ?_) rfl (by kernel_rfl) (by kernel_rfl) (by kernel_rfl) (by kernel_rfl) (fun _ _ _ h => h) (by rfl) (fun u => ?_) (by assumption) ?_
        rotate_left
        focus (go_simp; (try with_reducible rfl); done)
        try simp only [Act.put, List.setIfInBounds_toArray, List.set_cons_zero, List.set_cons_succ]
        refine pre_free 3 (v := ?_) rfl (by kernel_rfl) (by kernel_rfl) (by kernel_rfl) (by kernel_rfl) (fun _ _ _ h => h) (by rfl) (fun u => ?_) (by assumption) ?_
        rotate_left
        focus (go_simp; (try with_reducible rfl); done)
        try simp only [Act.put, List.setIfInBounds_toArray, List.set_cons_zero, List.set_cons_succ]
        refine pre_free 4 (v := ?_) rfl (by kernel_rfl) (by kernel_rfl) (by kernel_rfl) (by kernel_rfl) (fun _ _ _ h => h) (by rfl) (fun u => ?_) (by assumption) ?_
        rotate_left
        focus (go_simp; (try with_reducible rfl); done)
        try simp only [Act.put, List.setIfInBounds_toArray, List.set_cons_zero, List.set_cons_succ]
        refine pre_load 5 (v := ?_) rfl (by kernel_rfl) (by kernel_rfl) (by kernel_rfl) (by kernel_rfl) (fun _ _ _ h => h) (by rfl) (fun u hu => ?_) (by assumption) ?_
        rotate_left
        focus ((try dsimp only at hu); have a0 := cell_of_heap hu 0; go_simp; (try with_reducible rfl); done)
        try simp only [Act.put, List.setIfInBounds_toArray, List.set_cons_zero, List.set_cons_succ]
        refine pre_free 6 (v := ?_) rfl (by kernel_rfl) (by kernel_rfl) (by kernel_rfl) (by kernel_rfl) (fun _ _ _ h => h) (by rfl) (fun u => ?_) (by assumption) ?_
        rotate_left
        focus (go_simp; (try with_reducible rfl); done)
        try simp only [Act.put, List.setIfInBounds_toArray, List.set_cons_zero, List.set_cons_succ]
        refine pre_free 7 (v := ?_) rfl (by kernel_rfl) (by kernel_rfl) (by kernel_rfl) (by kernel_rfl) (fun _ _ _ h => h) (by rfl) (fun u => ?_) (by assumption) ?_
        rotate_left
        focus (go_simp; (try with_reducible rfl); done)
        try simp only [Act.put, List.setIfInBounds_toArray, List.set_cons_zero, List.set_cons_succ]
        refine pre_free 8 (v := ?_) rfl (by kernel_rfl) (by kernel_rfl) (by kernel_rfl) (by kernel_rfl) (fun _ _ _ h => h) (by rfl) (fun u => ?_) (by assumption) ?_
        rotate_left
        focus (go_simp; (try with_reducible rfl); done)
        try simp only [Act.put, List.setIfInBounds_toArray, List.set_cons_zero, List.set_cons_succ]
        refine pre_free 9 (v := ?_) rfl (by kernel_rfl) (by kernel_rfl) (by kernel_rfl) (by kernel_rfl) (fun _ _ _ h => h) (by rfl) (fun u => ?_) (by assumption) ?_
        rotate_left
        focus (go_simp; (try with_reducible rfl); done)
        try simp only [Act.put, List.setIfInBounds_toArray, List.set_cons_zero, List.set_cons_succ]
        refine pre_free 10 (v := ?_) rfl (by kernel_rfl) (by kernel_rfl) (by kernel_rfl) (by kernel_rfl) (fun _ _ _ h => h) (by rfl) (fun u => ?_) (by assumption) ?_
        rotate_left
        focus (go_simp; (try with_reducible rfl); done)
        try simp only [Act.put, List.setIfInBounds_toArray, List.set_cons_zero, List.set_cons_succ]
        refine pre_free 11 (v := ?_) rfl (by kernel_rfl) (by kernel_rfl) (by kernel_rfl) (by kernel_rfl) (fun _ _ _ h => h) (by rfl) (fun u => ?_) (by assumption) ?_
        rotate_left
        focus (go_simp; (try with_reducible rfl); done)
        try simp only [Act.put, List.setIfInBounds_toArray, List.set_cons_zero, List.set_cons_succ]
        refine pre_load 12 (v := ?_) rfl (by kernel_rfl) (by kernel_rfl) (by kernel_rfl) (by kernel_rfl) (fun _ _ _ h => h) (by rfl) (fun u hu => ?_) (by assumption) ?_
        rotate_left
        focus ((try dsimp only at hu); have a0 := cell_of_heap hu 0; go_simp; (try with_reducible rfl); done)
        try simp only [Act.put, List.setIfInBounds_toArray, List.set_cons_zero, List.set_cons_succ]
        refine pre_free 13 (v := ?_) rfl (by kernel_rfl) (by kernel_rfl) (by kernel_rfl) (by kernel_rfl) (fun _ _ _ h => h) (by rfl) (fun u => ?_) (by assumption) ?_
        rotate_left
        focus (go_simp; (try with_reducible rfl); done)
        try simp only [Act.put, List.setIfInBounds_toArray, List.set_cons_zero, List.set_cons_succ]
        refine pre_free 14 (v := ?_) rfl (by kernel_rfl) (by kernel_rfl) (by kernel_rfl) (by kernel_rfl) (fun _ _ _ h => h) (by rfl) (fun u => ?_) (by assumption) ?_
        rotate_left
        focus (go_simp; (try with_reducible rfl); done)
        try simp only [Act.put, List.setIfInBounds_toArray, List.set_cons_zero, List.set_cons_succ]
        refine pre_free 15 (v := ?_) rfl (by kernel_rfl) (by kernel_rfl) (by kernel_rfl) (by kernel_rfl) (fun _ _ _ h => h) (by rfl) (fun u => ?_) (by assumption) ?_
        rotate_left
        focus (go_simp; (try with_reducible rfl); done)
        try simp only [Act.put, List.setIfInBounds_toArray, List.set_cons_zero, List.set_cons_succ]
        have hmd : wr.drew.ownsRow w.heap.size 3 1 (.slice mA M mc) M X := hm
        have hsd : Sl wr.drew 1 (if c = E then some ⟨rb, 0, none⟩ else some ⟨rb, E, none⟩) (N - E) ((iV l).drop E) := by
          have h5 : Sl wr.drew 1 (some ⟨rb, 0, none⟩) N (iV l) := HSL.out.kept (grownBy_drew hgr) nofun
          exact h5.drop E (fun h => by rw [if_neg (by omega), Nat.zero_add])
        refine pre_one 16 (by kernel_rfl) (by kernel_rfl) rfl (fun K hK => ?_)
        refine step_append_sl _ rfl (.tmp 51) (.tmp 65) 40 rfl w.heap.size 3 i0 _ 1 8 Try.underlying40 hi hz0 hz1 hz2 rfl (by decide) (.slice mA M mc) M X rfl hmd (if c = E then some ⟨rb, 0, none⟩ else some ⟨rb, E, none⟩) (N - E) (c - E) _ rfl hsd (by unfold maxLen; omega) (by omega) c3 ?_
        rintro v' w10 ⟨hs10, hg10, _⟩
        have hg11 : w.grownBy w10 none := grownBy_trans (grownBy_drew hgr) hg10 (fun i e => .inr ((hm.lt i e).1))
        have hobj10 := grownBy_heap hg11 H.out.obj nofun
        obtain ⟨nA, nc, rfl⟩ := own_val hs10
        refine hK.out _ _ (by exact hobj10) (fun hHeld2 => ?_)
        clear hK K
        try simp only [Act.put, List.setIfInBounds_toArray, List.set_cons_zero, List.set_cons_succ]
        have f10 := frozen_of_heap hobj10 0
        have r10 := cell_of_heap hobj10 0
        have hoff : (Value.slice nA (M + (N - E)) nc).ownBlock ≠ some q := fun e => by
          have := (hs10.lt q e).1
          omega
        have hnew : R2 q (editR A D k l) (.slice nA (M + (N - E)) nc) (w10.setCell ⟨q, 0, none⟩ (.slice nA (M + (N - E)) nc)) := by
          refine ⟨heap_setCell hobj10 0 _, ?_⟩
          have h5 := ownsRow_base (ownsRow_setCell hs10 hoff 0 (.slice nA (M + (N - E)) nc)) hqlt
          unfold Ints
          rw [HE.out, HEE.out, List.length_append, HM.out, List.length_drop, HN.out, show iV (l.take A ++ List.replicate k u ++ l.drop E) = X ++ (iV l).drop E from by rw [← HX0.out]; simp [iV]]
          exact h5
        have hon : R2s q (editR A D k l) (.slice (some ⟨rb, 0, none⟩) N c) w (w10.setCell ⟨q, 0, none⟩ (.slice nA (M + (N - E)) nc)) :=
          ⟨⟨_, hnew, fun g hg => .inr ((hs10.lt g hg).1)⟩, (Only.ofGrown hg11).setCell (.inl (by simp)) _⟩
        have HF := Lib.hid hon
        clear hs10 hg10 hg11 hoff hnew hon hmd hsd
        refine pre_free 17 (v := ?_) rfl (by kernel_rfl) (by kernel_rfl) (by kernel_rfl) (by kernel_rfl) (fun _ _ _ h => h) (by rfl) (fun u => ?_) (by assumption) ?_
        rotate_left
        focus (go_simp; (try with_reducible rfl); done)
        try simp only [Act.put, List.setIfInBounds_toArray, List.set_cons_zero, List.set_cons_succ]
        refine pre_free 18 (v := ?_) rfl (by kernel_rfl) (by kernel_rfl) (by kernel_rfl) (by kernel_rfl) (fun _ _ _ h => h) (by rfl) (fun u => ?_) (by assumption) ?_
        rotate_left
        focus (go_simp; (try with_reducible rfl); done)
        try simp only [Act.put, List.setIfInBounds_toArray, List.set_cons_zero, List.set_cons_succ]
        refine pre_last (by kernel_rfl) rfl (fun K hK => ?_)
        go_simp
        refine hK.out _ _ ?_
        clear hK K
        try simp only [Act.put, List.setIfInBounds_toArray, List.set_cons_zero, List.set_cons_succ]
        refine aw_done (by kernel_rfl) ?_
        have HF1 : ∀ c', c = c' → R2s q (editR A D k l) (.slice (some ⟨rb, 0, none⟩) N c') w (w10.setCell ⟨q, 0, none⟩ (.slice nA (M + (N - E)) nc)) := fun c' h => by rw [← h]; exact HF.out
        have HF2 := Lib.hid HF1
        clear HF HF1
        go_wp2_with fail
        all_goals (go_end0; refine ⟨rfl, ?_⟩; exact HF2.out _ (by first | rfl | assumption))
  · have b1 : (N : Int) ≤ (A : Int) := by omega
    have hE : editR A D I l = l := if_pos (by rw [HN.out]; exact hge)
    have HE := Lib.hid hE
    clear hE
    go_wp2_with fail
    refine bodyPost_ret (results_none rfl _ _ _) rfl ?_
    rw [HE.out]
    exact ⟨rfl, R2s.refl H.out⟩
end Go.Proofs.Ytijpienjejfmiaa
