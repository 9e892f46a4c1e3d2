/-
  Marks' within, All, Over: the walks. No conditions beyond those that each law names.
-/
import Derived.Test.YtijpienjejfmiaaMk1
import Derived.Test.YtijpienjejfmiaaMkQ
namespace Go.Proofs.Ytijpienjejfmiaa
open Go Go.RowKit

set_option maxRecDepth 100000 in
set_option maxHeartbeats 1000000 in
theorem quiet49_walk {mb : Nat} (c0 c1 c2 c3 : Value) (R : World → Prop) (w : World) (hm : OwnAt mb w)
    (hc : Calls Try.prog 49 #[c0, c1, c2, c3] w fun e w1 => e = .returned (.tuple #[]) ∧ R w1 ∧ OwnAt mb w1) :
    Calls Try.prog 29 #[.pointer (some ⟨mb, 0, none⟩), .func (.func 49) #[] #[c0, c1, c2, c3]] w fun e w' => e = .returned (.tuple #[]) ∧ ∃ w1 st, R w1 ∧ w' = w1.setCell ⟨mb, 2, none⟩ (.int .i64 st) := by
  obtain ⟨p0, p1, st, hm⟩ := hm
  have c2' := cell_of_heap hm 2
  go_enter Try.func29, Try.ntmps29
  go_wp2_with fail
  refine hc.mono ?_
  rintro e w1 ⟨rfl, hr, q0, q1, st1, hm1⟩
  have d2 := cell_of_heap hm1 2
  have f2 := frozen_of_heap hm1 2
  have HR := Lib.hid hr
  clear hr hm1 hm hc
  go_wp2_with fail
  go_end0
  exact ⟨rfl, w1, st, HR.out, rfl⟩

theorem wboxes_new (mb : Nat) (f g : Int) (w : World) : WBoxes mb f g w.heap.size (w.heap.size + 1 + 1 + 1) (w.heap.size + 1) (w.heap.size + 1 + 1) (.slice none 0 0) ((((w.alloc (Obj.cells #[Value.pointer (some ⟨mb, 0, none⟩)] 22)).alloc (Obj.cells #[.int .i64 f] 3)).alloc (Obj.cells #[.int .i64 g] 3)).alloc (Obj.cells #[.slice none 0 0] 32)) ∧ w.grownBy ((((w.alloc (Obj.cells #[Value.pointer (some ⟨mb, 0, none⟩)] 22)).alloc (Obj.cells #[.int .i64 f] 3)).alloc (Obj.cells #[.int .i64 g] 3)).alloc (Obj.cells #[.slice none 0 0] 32)) none := by
  refine ⟨⟨?_, ?_, ?_, ?_⟩, grownBy_alloc (grownBy_alloc (grownBy_alloc (grownBy_alloc (grownBy_refl w none) _) _) _) _⟩
  · rw [Below.heap_alloc _ _ _ (by simp <;> omega), Below.heap_alloc _ _ _ (by simp <;> omega), Below.heap_alloc _ _ _ (by simp)]
    exact heap_new _ _
  · exact heap_new' _ _ (by simp)
  · rw [Below.heap_alloc _ _ _ (by simp <;> omega), Below.heap_alloc _ _ _ (by simp)]
    exact heap_new' _ _ (by simp)
  · rw [Below.heap_alloc _ _ _ (by simp)]
    exact heap_new' _ _ (by simp)

/-- What is answered: spans in order, in memory of the call's own; Marks as they were. -/
def WithinRes (mb : Nat) (B : List Nat) (L0 L1 R : List Sp) (w : World) (e : Ending) (w' : World) : Prop :=
  ∃ v, e = .returned v ∧ Spans w' w.heap.size v R ∧ Mk w' mb B L0 L1 ∧ Only B w w'

set_option maxRecDepth 100000 in
set_option maxHeartbeats 1000000 in
theorem within_walk {mb : Nat} {B : List Nat} {L0 L1 : List Sp} (f g : Int) (hg : 0 ≤ g) (w : World) (h : Mk w mb B L0 L1) :
    Calls Try.prog 37 #[.pointer (some ⟨mb, 0, none⟩), .int .i64 f, .int .i64 g] w (WithinRes mb B L0 L1 (sortS (overS f g L0 ++ overS f g L1)) w) := by
  have hlts := h.lt
  have hmem := h.mem
  go_enter Try.func37, Try.ntmps37
  go_upto_region 1 with (fail)
  obtain ⟨hb, hgr⟩ := wboxes_new mb f g w
  have hk := h.kept hgr
  have hsz := hgr.size
  have m0 := cell_of_heap hb.m 0
  have HB := Lib.hid hb
  have HK := Lib.hid hk
  have HG := Lib.hid hgr
  clear h hb hk hgr
  generalize hw3 : ((((w.alloc (Obj.cells #[Value.pointer (some ⟨mb, 0, none⟩)] 22)).alloc (Obj.cells #[.int .i64 f] 3)).alloc (Obj.cells #[.int .i64 g] 3)).alloc (Obj.cells #[.slice none 0 0] 32)) = w3 at *
  clear hw3
  generalize hszz : w.heap.size = sz at *
  obtain ⟨tb0, tb1, T0, T1, st, hm, rfl, rfl, rfl⟩ := HK.out
  have hn : ∀ x, sz ≤ x → x ∉ mkB mb tb0 tb1 T0 T1 := fun x hx hm => by have := hlts x hm; omega
  have hfew0 := hm.g0.few
  have hfew1 := hm.g1.few
  have HM := Lib.hid hm
  clear hm
  have hsz4 : sz + 1 + 1 + 1 < w3.heap.size := heap_lt HB.out.l
  go_wp2_with fail
  refine (quiet49_walk (mb := mb) _ _ _ _ (fun w' => ∃ T0' T1' st' v, MkAt w' mb tb0 tb1 T0' T1' st' ∧ flat T0' = flat T0 ∧ flat T1' = flat T1 ∧ blks T0' = blks T0 ∧ blks T1' = blks T1 ∧ WBoxes mb f g sz (sz + 1 + 1 + 1) (sz + 1) (sz + 1 + 1) v w' ∧ Spans w' w3.heap.size v (overS f g (flat T0) ++ overS f g (flat T1)) ∧ Only ((sz + 1 + 1 + 1) :: mkB mb tb0 tb1 T0 T1) w3 w') w3 ⟨_, _, _, HM.out.m⟩ ((within1_walk f g hg sz (sz + 1 + 1 + 1) (sz + 1) (sz + 1 + 1) w3 HM.out HB.out (hn _ (by omega)) (hn _ (by omega)) (hn _ (by omega)) (hn _ (by omega)) ⟨by omega, by omega, by omega⟩).mono ?_)).mono ?_
  · rintro e w4 ⟨rfl, T0', T1', st', v, q1, q⟩
    exact ⟨rfl, ⟨T0', T1', st', v, q1, q⟩, ⟨_, _, _, q1.m⟩⟩
  · rintro e w5 ⟨rfl, w4, st5, ⟨T0', T1', st', v, q1, q2, q3, q4, q5, q6, q7, q8⟩, rfl⟩
    have hmk4 : Mk w4 mb (mkB mb tb0 tb1 T0 T1) (flat T0) (flat T1) := ⟨tb0, tb1, T0', T1', st', q1, q2, q3, by unfold mkB; rw [q4, q5]⟩
    have hmk5 := hmk4.steps st5
    have ho5 := (Only.refl [mb] w4).setCell (p := ⟨mb, 2, none⟩) (.inl (by simp)) (.int .i64 st5)
    have hmbn : ∀ x, sz ≤ x → x ∉ [mb] := fun x hx hm' => by have := hlts mb hmem; have := List.mem_singleton.1 hm'; omega
    have hwb5 := q6.only ho5 (hmbn _ (by omega)) (hmbn _ (by omega)) (hmbn _ (by omega)) (hmbn _ (by omega))
    have hsp5 := own_only q7 ho5 (fun k hk => hmbn k (by have := (q7.lt k hk).1; omega))
    have hO5 := q8.trans ho5 (fun x hx => .inl (by rw [List.mem_singleton.1 hx]; exact List.mem_cons_of_mem _ hmem))
    have hge : ∀ x ∈ ownB v, w3.heap.size ≤ x := own_ge q7
    clear q1 q2 q3 q4 q5 q6 q7 q8 hmk4 ho5 hmbn
    generalize hw5 : w4.setCell ⟨mb, 2, none⟩ (.int .i64 st5) = w5 at *
    clear hw5
    have l0 := cell_of_heap hwb5.l 0
    have HMK5 := Lib.hid hmk5
    have HWB5 := Lib.hid hwb5
    have HSP5 := Lib.hid hsp5
    have HO5 := Lib.hid hO5
    have HGE := Lib.hid hge
    clear hmk5 hwb5 hsp5 hO5 hge m0
    go_wp2_with fail
    refine (sort_walk w5 HSP5.out (by rw [List.length_append]; have e1 := overS_length f g (flat T0); have e2 := overS_length f g (flat T1); omega)).mono ?_
    rintro e w6 ⟨rfl, hs6, hg6⟩
    have hB6 := own_grown hg6
    have hn6 : ∀ x, x < w3.heap.size → x ∉ ownB v := fun x hx hm' => by have := HGE.out x hm'; omega
    have hwb6 := HWB5.out.only hB6 (hn6 _ (by omega)) (hn6 _ (by omega)) (hn6 _ (by omega)) (hn6 _ (by omega))
    have hmk6 := HMK5.out.only hB6 (fun x hx => hn6 x (by have := hlts x hx; omega))
    have hO6 := HO5.out.trans hB6 (fun x hx => .inr (HGE.out x hx))
    obtain ⟨A, c, hv, _⟩ := own_slice hs6
    generalize hkn : (sortS (overS f g (flat T0) ++ overS f g (flat T1))).length = kn at hv
    subst hv
    have l6 := cell_of_heap hwb6.l 0
    have f6 := frozen_of_heap hwb6.l 0
    have hx7 := heap_setCell hwb6.l 0 (.slice A kn c)
    have l7 := cell_of_heap hx7 0
    have ho7 := (Only.refl [sz + 1 + 1 + 1] w6).setCell (p := ⟨sz + 1 + 1 + 1, 0, none⟩) (.inl (by simp)) (.slice A kn c)
    have hmk7 := hmk6.only ho7 (fun x hx hm' => by have := hlts x hx; have := List.mem_singleton.1 hm'; omega)
    have hs7 := own_only hs6 ho7 (fun k hk hm' => by have := (hs6.lt k hk).1; have := List.mem_singleton.1 hm'; omega)
    have hG0 : Only (mkB mb tb0 tb1 T0 T1) w w3 := Only.ofGrown HG.out
    have hO7 := hG0.trans (hO6.trans ho7 (fun x hx => .inl (by rw [List.mem_singleton.1 hx]; simp))) (fun x hx => by
      rcases List.mem_cons.1 hx with rfl | hx
      · exact .inr (by omega)
      · exact .inl hx)
    have HMK7 := Lib.hid hmk7
    have HS7 := Lib.hid hs7
    have HO7 := Lib.hid hO7
    have HKN := Lib.hid hkn
    clear hs6 hg6 hB6 hwb6 hmk6 hO6 hx7 ho7 hmk7 hs7 hG0 hO7 l0 hkn
    go_wp2_with fail
    (try simp only [Exit.inBlock, Exit.then])
    refine bodyPost_ret (v := .slice A kn c) ?_ rfl ⟨_, rfl, ?_, HMK7.out, HO7.out⟩
    · simp [results, Try.results37, go_sem, l7]
    · rw [hszz]
      exact ownsRow_base HS7.out (by omega)
end Go.Proofs.Ytijpienjejfmiaa
