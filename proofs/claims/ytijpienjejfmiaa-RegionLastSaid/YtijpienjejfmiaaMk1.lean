/-
  Marks' within's inner function: what lies over a range, of both trees: the walk. No conditions beyond those that each law names.
-/
import Derived.Test.YtijpienjejfmiaaMkZ
import Derived.Test.YtijpienjejfmiaaMkY
namespace Go.Proofs.Ytijpienjejfmiaa
open Go Go.RowKit

/-- The boxes that the inner function holds. -/
structure WBoxes (mb : Nat) (f g : Int) (xm xl xf xt : Nat) (v : Value) (w : World) : Prop where
  m : w.heap[xm]? = some (.cells #[.pointer (some ⟨mb, 0, none⟩)] 22 (0, 0))
  l : w.heap[xl]? = some (.cells #[v] 32 (0, 0))
  f : w.heap[xf]? = some (.cells #[.int .i64 f] 3 (0, 0))
  t : w.heap[xt]? = some (.cells #[.int .i64 g] 3 (0, 0))

/-- The loop: so many trees are looked at. -/
def WRel (mb tb0 tb1 : Nat) (T0 T1 : Tr) (f g : Int) (xm xl xf xt : Nat) (w : World) (iv : Value) (wr : World) : Prop :=
  ∃ i : Nat, i ≤ 2 ∧ iv = .int .i64 (i : Int) ∧ ∃ T0' T1' st v, MkAt wr mb tb0 tb1 T0' T1' st ∧ flat T0' = flat T0 ∧ flat T1' = flat T1 ∧ blks T0' = blks T0 ∧ blks T1' = blks T1 ∧ WBoxes mb f g xm xl xf xt v wr ∧
    Spans wr w.heap.size v (if i = 0 then [] else if i = 1 then overS f g (flat T0) else overS f g (flat T0) ++ overS f g (flat T1)) ∧ Only (xl :: mkB mb tb0 tb1 T0 T1) w wr

/-- What the region's loads lean on. -/
def WS (tb mb xl xf xt : Nat) (rv v : Value) (f g : Int) (u : World) : Prop :=
  u.heap[xl]? = some (.cells #[v] 32 (0, 0)) ∧ u.heap[xf]? = some (.cells #[.int .i64 f] 3 (0, 0)) ∧ u.heap[xt]? = some (.cells #[.int .i64 g] 3 (0, 0)) ∧ u.heap[tb]? = some (.cells #[rv, .pointer (some ⟨mb, 2, none⟩)] 59 (0, 0))

theorem WS.only {tb mb xl xf xt : Nat} {rv v : Value} {f g : Int} {u u' : World} {B : List Nat} (h : WS tb mb xl xf xt rv v f g u) (k : Only B u u') (h1 : xl ∉ B) (h2 : xf ∉ B) (h3 : xt ∉ B) (h4 : tb ∉ B) : WS tb mb xl xf xt rv v f g u' :=
  ⟨k.heap h.1 h1, k.heap h.2.1 h2, k.heap h.2.2.1 h3, k.heap h.2.2.2 h4⟩

theorem WBoxes.only {mb xm xl xf xt : Nat} {v : Value} {f g : Int} {u u' : World} {B : List Nat} (h : WBoxes mb f g xm xl xf xt v u) (k : Only B u u') (h0 : xm ∉ B) (h1 : xl ∉ B) (h2 : xf ∉ B) (h3 : xt ∉ B) : WBoxes mb f g xm xl xf xt v u' :=
  ⟨k.heap h.m h0, k.heap h.l h1, k.heap h.f h2, k.heap h.t h3⟩

/-- The block of a row, if it has one. -/
def ownB (v : Value) : List Nat := match v.ownBlock with | some k => [k] | none => []
theorem own_grown {v : Value} {w w' : World} (h : w.grownBy w' v.ownBlock) : Only (ownB v) w w' := Only.grown h (fun k hk => by simp [ownB, hk])
theorem own_ge {v : Value} {w : World} {base : Nat} {l : List Sp} (h : Spans w base v l) : ∀ x ∈ ownB v, base ≤ x := fun x hx => by
  unfold ownB at hx
  cases hv : v.ownBlock with
  | none => rw [hv] at hx; simp at hx
  | some k => rw [hv] at hx; simp at hx; have := (h.lt k hv).1; omega

set_option maxRecDepth 100000 in
set_option maxHeartbeats 2000000 in
theorem within1_walk {mb tb0 tb1 : Nat} {T0 T1 : Tr} {st : Int} (f g : Int) (hg : 0 ≤ g) (xm xl xf xt : Nat) (w : World) (h : MkAt w mb tb0 tb1 T0 T1 st) (hb : WBoxes mb f g xm xl xf xt (.slice none 0 0) w) (hxm : xm ∉ mkB mb tb0 tb1 T0 T1) (hxl : xl ∉ mkB mb tb0 tb1 T0 T1) (hxf : xf ∉ mkB mb tb0 tb1 T0 T1) (hxt : xt ∉ mkB mb tb0 tb1 T0 T1) (hd : xl ≠ xm ∧ xl ≠ xf ∧ xl ≠ xt) :
    Calls Try.prog 49 #[.pointer (some ⟨xm, 0, none⟩), .pointer (some ⟨xl, 0, none⟩), .pointer (some ⟨xf, 0, none⟩), .pointer (some ⟨xt, 0, none⟩)] w fun e w' => e = .returned (.tuple #[]) ∧
      ∃ T0' T1' st' v, MkAt w' mb tb0 tb1 T0' T1' st' ∧ flat T0' = flat T0 ∧ flat T1' = flat T1 ∧ blks T0' = blks T0 ∧ blks T1' = blks T1 ∧ WBoxes mb f g xm xl xf xt v w' ∧ Spans w' w.heap.size v (overS f g (flat T0) ++ overS f g (flat T1)) ∧ Only (xl :: mkB mb tb0 tb1 T0 T1) w w' := by
  obtain ⟨i0, hi, hz0, hz1, hz2⟩ := info_parts span_info
  have hw1 : IntKind.i64.wrap 1 = 1 := by decide
  have hw2 : IntKind.i64.wrap 2 = 2 := by decide
  have hs0 := tree0 (.pointer (some ⟨tb0, 0, none⟩)) (.pointer (some ⟨tb1, 0, none⟩))
  have hs1 := tree1 (.pointer (some ⟨tb0, 0, none⟩)) (.pointer (some ⟨tb1, 0, none⟩))
  have hlts := h.lt
  have blm := heap_lt hb.m
  have bll := heap_lt hb.l
  have blf := heap_lt hb.f
  have blt := heap_lt hb.t
  have m0 := cell_of_heap h.m 0
  have m1 := cell_of_heap h.m 1
  have x0 := cell_of_heap hb.m 0
  have HM := Lib.hid h
  have HB := Lib.hid hb
  clear h hb
  generalize hsz : w.heap.size = sz at *
  go_enter Try.func49, Try.ntmps49
  go_wp2_with fail
  go_loopw [10] (fun iv wr => WRel mb tb0 tb1 T0 T1 f g xm xl xf xt w iv wr) (fun iv _ => 2 - (RowKit.intOf iv).toNat)
  case atStart => exact ⟨0, by omega, rfl, T0, T1, st, _, HM.out, rfl, rfl, rfl, rfl, HB.out, World.ownsRow_nil _ _ _ _, Only.refl _ _⟩
  case round =>
    clear m0 m1 x0
    obtain ⟨i, hile, rfl, T0', T1', st1, v, hm, hf0, hf1, hb0, hb1, hwb, hsp, hO⟩ := hrel
    have HF0 := Lib.hid hf0
    have HF1 := Lib.hid hf1
    have HBL0 := Lib.hid hb0
    have HBL1 := Lib.hid hb1
    clear hf0 hf1 hb0 hb1
    have hO' := Lib.hid hO
    rw [hsz] at hsp
    rcases (show i = 0 ∨ i = 1 ∨ i = 2 by omega) with rfl | rfl | rfl
    · rw [if_pos rfl] at hsp
      have hmkB : mkB mb tb0 tb1 T0' T1' = mkB mb tb0 tb1 T0 T1 := by unfold mkB; rw [HBL0.out, HBL1.out]
      have htr := hm.tr false
      have hsub : ∀ x ∈ mb :: blks T0', x ∈ mkB mb tb0 tb1 T0 T1 := fun x hx => hmkB ▸ two_sub (mb := mb) (tb0 := tb0) (tb1 := tb1) (T0 := T0') (T1 := T1') false x (List.mem_cons_of_mem _ hx)
      have hWS : WS tb0 mb xl xf xt (ptrV T0') v f g wr.drew := ⟨hwb.l, hwb.f, hwb.t, htr.t⟩
      have HMr := Lib.hid hm
      have HWB := Lib.hid hwb
      have HSP := Lib.hid hsp
      have HTR := Lib.hid htr
      have hszr := hO.size
      rw [hsz] at hszr
      clear hm hwb hsp htr hO
      go_upto_region 3 with (fail)
      refine region_pre 10 (fun u => WS tb0 mb xl xf xt (ptrV T0') v f g u) (by kernel_rfl) hWS (fun hHeld => ?_)
      refine pre_free 1 (v := ?_) rfl (by kernel_rfl) (by kernel_rfl) (by kernel_rfl) (by kernel_rfl) (fun _ _ _ h => h) (by rfl) (fun u => ?_) (by assumption) ?_
      rotate_left
      focus (go_simp; (try with_reducible rfl); done)
      try simp only [Act.put, List.setIfInBounds_toArray, List.set_cons_zero, List.set_cons_succ]
      refine pre_free 2 (v := ?_) rfl (by kernel_rfl) (by kernel_rfl) (by kernel_rfl) (by kernel_rfl) (fun _ _ _ h => h) (by rfl) (fun u => ?_) (by assumption) ?_
      rotate_left
      focus (go_simp; (try with_reducible rfl); done)
      try simp only [Act.put, List.setIfInBounds_toArray, List.set_cons_zero, List.set_cons_succ]
      refine pre_free 3 (v := ?_) rfl (by kernel_rfl) (by kernel_rfl) (by kernel_rfl) (by kernel_rfl) (fun _ _ _ h => h) (by rfl) (fun u => ?_) (by assumption) ?_
      rotate_left
      focus (go_simp; (try with_reducible rfl); done)
      try simp only [Act.put, List.setIfInBounds_toArray, List.set_cons_zero, List.set_cons_succ]
      refine pre_free 4 (v := ?_) rfl (by kernel_rfl) (by kernel_rfl) (by kernel_rfl) (by kernel_rfl) (fun _ _ _ h => h) (by rfl) (fun u => ?_) (by assumption) ?_
      rotate_left
      focus (go_simp; (try with_reducible rfl); done)
      try simp only [Act.put, List.setIfInBounds_toArray, List.set_cons_zero, List.set_cons_succ]
      refine pre_load 0 (v := ?_) rfl (by kernel_rfl) (by kernel_rfl) (by kernel_rfl) (by kernel_rfl) (fun _ _ _ h => h) (by rfl) (fun u hu => ?_) (by assumption) ?_
      rotate_left
      focus ((try dsimp only at hu); (have a0 := cell_of_heap hu.1 0; have a1 := cell_of_heap hu.2.1 0; have a2 := cell_of_heap hu.2.2.1 0; have a3 := cell_of_heap hu.2.2.2 0); go_simp; (try with_reducible rfl); done)
      try simp only [Act.put, List.setIfInBounds_toArray, List.set_cons_zero, List.set_cons_succ]
      refine pre_load 5 (v := ?_) rfl (by kernel_rfl) (by kernel_rfl) (by kernel_rfl) (by kernel_rfl) (fun _ _ _ h => h) (by rfl) (fun u hu => ?_) (by assumption) ?_
      rotate_left
      focus ((try dsimp only at hu); (have a0 := cell_of_heap hu.1 0; have a1 := cell_of_heap hu.2.1 0; have a2 := cell_of_heap hu.2.2.1 0; have a3 := cell_of_heap hu.2.2.2 0); go_simp; (try with_reducible rfl); done)
      try simp only [Act.put, List.setIfInBounds_toArray, List.set_cons_zero, List.set_cons_succ]
      refine pre_load 6 (v := ?_) rfl (by kernel_rfl) (by kernel_rfl) (by kernel_rfl) (by kernel_rfl) (fun _ _ _ h => h) (by rfl) (fun u hu => ?_) (by assumption) ?_
      rotate_left
      focus ((try dsimp only at hu); (have a0 := cell_of_heap hu.1 0; have a1 := cell_of_heap hu.2.1 0; have a2 := cell_of_heap hu.2.2.1 0; have a3 := cell_of_heap hu.2.2.2 0); go_simp; (try with_reducible rfl); done)
      try simp only [Act.put, List.setIfInBounds_toArray, List.set_cons_zero, List.set_cons_succ]
      refine pre_load 7 (v := ?_) rfl (by kernel_rfl) (by kernel_rfl) (by kernel_rfl) (by kernel_rfl) (fun _ _ _ h => h) (by rfl) (fun u hu => ?_) (by assumption) ?_
      rotate_left
      focus ((try dsimp only at hu); (have a0 := cell_of_heap hu.1 0; have a1 := cell_of_heap hu.2.1 0; have a2 := cell_of_heap hu.2.2.1 0; have a3 := cell_of_heap hu.2.2.2 0); go_simp; (try with_reducible rfl); done)
      try simp only [Act.put, List.setIfInBounds_toArray, List.set_cons_zero, List.set_cons_succ]
      refine pre_one 8 (by kernel_rfl) (by kernel_rfl) rfl (fun K hK => ?_)
      go_simp
      go_at_call 46
      refine (over_walk (tb := tb0) (mb := mb) f g hg _ T0' st1 wr.drew (Nat.le_refl _) (HMr.out.good false) ((HMr.out.lay false).same rfl) (HMr.out.nodup false) (HTR.out.only (Only.refl [] wr).drew (by simp) (by simp)) (HMr.out.tbn false) (HMr.out.mbn false)).mono ?_
      rintro e w3 ⟨v3, T', rfl, hs3, q1, q2, q3, q4, q5, q6, ⟨st3, q7⟩, q8⟩
      have q8' : Only (mb :: blks T0') wr w3 := (Only.refl _ wr).drew.trans q8 (fun x hx => .inl hx)
      have hne : ∀ x, x ∉ mkB mb tb0 tb1 T0 T1 → x ∉ mb :: blks T0' := fun x hx hm => hx (hsub x hm)
      have htbn : tb0 ∉ mb :: blks T0' := fun hm => by
        rcases List.mem_cons.1 hm with e | hm
        · exact HTR.out.ne e
        · exact HMr.out.tbn false hm
      have hWS3 := (show WS tb0 mb xl xf xt (ptrV T0') v f g wr from hWS).only q8' (hne xl hxl) (hne xf hxf) (hne xt hxt) htbn
      have hWB3 := HWB.out.only q8' (hne xm hxm) (hne xl hxl) (hne xf hxf) (hne xt hxt)
      have hge : ∀ x ∈ ownB v, sz ≤ x := own_ge HSP.out
      have hSP3 := own_only HSP.out q8' (fun k hk hm => by
        have h1 := hge k (by simp [ownB, hk])
        have h2 := hlts k (hsub k hm)
        omega)
      have hM3 := HMr.out.step false q1 (by rw [q4]; exact HMr.out.nodup false) q2 (fun x hx => .inl (q4 ▸ hx)) q7 (congrArg Value.pointer q5.symm) q8' (fun x hx => .inl (List.mem_cons_of_mem _ hx))
      have hO3 := hO'.out.trans q8' (fun x hx => .inl (List.mem_cons_of_mem _ (hsub x hx)))
      obtain ⟨A3, c3, rfl, hsl⟩ := own_slice hs3
      have hfew0 := HMr.out.g0.few
      have hfew1 := HMr.out.g1.few
      have hz3 := q8'.size
      have HWS3 := Lib.hid hWS3
      have HWB3 := Lib.hid hWB3
      have HSP3 := Lib.hid hSP3
      have HM3 := Lib.hid hM3.1
      have HO3 := Lib.hid hO3
      have HSL := Lib.hid hsl
      have HGE := Lib.hid hge
      have HQ : Hid (flat T' = flat T0' ∧ blks T' = blks T0') := Lib.hid ⟨q3, q4⟩
      clear q1 q2 q3 q4 q5 q6 q7 q8 q8' hWS3 hWB3 hge hSP3 hM3 hO3 hsl hs3
      try go_simp
      refine hK.out _ _ HWS3.out (fun hHeld8 => ?_)
      clear hK K
      try simp only [Act.put, List.setIfInBounds_toArray, List.set_cons_zero, List.set_cons_succ]
      have hl1 : (([] : List Sp)).length ≤ 1099511627776 := by simp
      have hl2 : (overS f g (flat T0')).length ≤ 1099511627776 := by have := overS_length f g (flat T0'); omega
      refine pre_one 9 (by kernel_rfl) (by kernel_rfl) rfl (fun K hK => ?_)
      refine step_append_sl w3 rfl (.tmp 13) (.tmp 21) 32 rfl sz 25 i0 _ 3 24 Try.underlying32 hi hz0 hz1 hz2 rfl (by decide) v (([] : List Sp)).length _ rfl HSP3.out A3 (overS f g (flat T0')).length c3 _ rfl HSL.out (by unfold maxLen; omega) (by omega) (by omega) ?_
      rintro v' w4 ⟨hs4, hg4, hat4⟩
      have hs4' : Spans w4 sz v' ((([] : List Sp)) ++ overS f g (flat T0')) := by
        unfold Spans
        rw [List.length_append, rowS_append]
        exact hs4
      obtain ⟨A', c', hv, _⟩ := own_slice hs4'
      generalize hkn : ((([] : List Sp)) ++ overS f g (flat T0')).length = kn at hv
      subst hv
      clear hs4'
      have hB4 := own_grown hg4
      have hn4 : ∀ x, x < sz → x ∉ ownB v := fun x hx hm => by have := HGE.out x hm; omega
      have hnB : ∀ x ∈ mkB mb tb0 tb1 (two false T' T0') (two false T1' T'), x ∉ ownB v := fun x hx => hn4 x (hlts x (by
        have hq := HQ.out.2
        simp only [two, mkB, Bool.false_eq_true, if_false, if_true] at hx ⊢
        rw [hq, HBL0.out, HBL1.out] at hx
        exact hx))
      have hM4 := HM3.out.only hB4 hnB
      have hWB4 := HWB3.out.only hB4 (hn4 xm blm) (hn4 xl bll) (hn4 xf blf) (hn4 xt blt)
      have hWS4 := HWS3.out.only hB4 (hn4 xl bll) (hn4 xf blf) (hn4 xt blt) (hn4 tb0 (hlts tb0 (by simp [mkB])))
      have hO4 := HO3.out.trans hB4 (fun x hx => .inr (by rw [hsz]; exact HGE.out x hx))
      have c0 := cell_of_heap hWB4.l 0
      have f0 := frozen_of_heap hWB4.l 0
      have ho5 := (Only.refl [xl] w4).setCell (p := ⟨xl, 0, none⟩) (.inl (by simp)) (.slice A' kn c')
      have hxn : ∀ x, x ≠ xl → x ∉ [xl] := fun x hx hm => hx (List.mem_singleton.1 hm)
      have hM5 := hM4.only ho5 (fun x hx => hxn x (fun e => hxl (by
        have hq := HQ.out.2
        rw [← e]
        simp only [two, mkB, Bool.false_eq_true, if_false, if_true] at hx ⊢
        rw [hq, HBL0.out, HBL1.out] at hx
        exact hx)))
      have hWB5 : WBoxes mb f g xm xl xf xt (.slice A' kn c') (w4.setCell ⟨xl, 0, none⟩ (.slice A' kn c')) := ⟨ho5.heap hWB4.m (hxn xm (fun e => hd.1 e.symm)), heap_setCell hWB4.l 0 (.slice A' kn c'), ho5.heap hWB4.f (hxn xf (fun e => hd.2.1 e.symm)), ho5.heap hWB4.t (hxn xt (fun e => hd.2.2 e.symm))⟩
      have hs5 := own_only hs4 ho5 (fun k hk hm => by have := (hs4.lt k hk).1; have := List.mem_singleton.1 hm; omega)
      have hO5 := hO4.trans ho5 (fun x hx => .inl (by rw [List.mem_singleton.1 hx]; simp))
      have HM5 := Lib.hid hM5
      have HWB5 := Lib.hid hWB5
      have HS5 := Lib.hid hs5
      have HO5 := Lib.hid hO5
      have HWS4 := Lib.hid hWS4
      clear hs4 hg4 hat4 hB4 hnB hM4 hWB4 hWS4 hO4 ho5 hM5 hWB5 hs5 hO5
      refine hK.out _ _ HWS4.out (fun hHeld9 => ?_)
      clear hK K
      try simp only [Act.put, List.setIfInBounds_toArray, List.set_cons_zero, List.set_cons_succ]
      refine pre_last (by kernel_rfl) rfl (fun K hK => ?_)
      go_simp
      refine hK.out _ _ ?_
      clear hK K
      try simp only [Act.put, List.setIfInBounds_toArray, List.set_cons_zero, List.set_cons_succ]
      refine aw_done (by kernel_rfl) ?_
      have hfin : Spans (w4.setCell ⟨xl, 0, none⟩ (.slice A' kn c')) sz (.slice A' kn c') ((([] : List Sp)) ++ (overS f g (flat T0'))) := by
        unfold Spans
        rw [List.length_append, rowS_append]
        exact HS5.out
      have HFIN := Lib.hid hfin
      clear hfin c0 f0 hkn
      go_wp2_with fail
      go_roundw
      case rel => exact ⟨1, by omega, by first | rfl | go_num, T', T1', st3, (.slice A' kn c'), HM5.out, HQ.out.1.trans HF0.out, HF1.out, HQ.out.2.trans HBL0.out, HBL1.out, HWB5.out, by rw [hsz]; have := HFIN.out; simpa [HF0.out] using this, HO5.out⟩
      case measure => simp [RowKit.intOf]
    · rw [if_neg (by decide), if_pos rfl] at hsp
      have hmkB : mkB mb tb0 tb1 T0' T1' = mkB mb tb0 tb1 T0 T1 := by unfold mkB; rw [HBL0.out, HBL1.out]
      have htr := hm.tr true
      have hsub : ∀ x ∈ mb :: blks T1', x ∈ mkB mb tb0 tb1 T0 T1 := fun x hx => hmkB ▸ two_sub (mb := mb) (tb0 := tb0) (tb1 := tb1) (T0 := T0') (T1 := T1') true x (List.mem_cons_of_mem _ hx)
      have hWS : WS tb1 mb xl xf xt (ptrV T1') v f g wr.drew := ⟨hwb.l, hwb.f, hwb.t, htr.t⟩
      have HMr := Lib.hid hm
      have HWB := Lib.hid hwb
      have HSP := Lib.hid hsp
      have HTR := Lib.hid htr
      have hszr := hO.size
      rw [hsz] at hszr
      clear hm hwb hsp htr hO
      go_upto_region 3 with (fail)
      refine region_pre 10 (fun u => WS tb1 mb xl xf xt (ptrV T1') v f g u) (by kernel_rfl) hWS (fun hHeld => ?_)
      refine pre_free 1 (v := ?_) rfl (by kernel_rfl) (by kernel_rfl) (by kernel_rfl) (by kernel_rfl) (fun _ _ _ h => h) (by rfl) (fun u => ?_) (by assumption) ?_
      rotate_left
      focus (go_simp; (try with_reducible rfl); done)
      try simp only [Act.put, List.setIfInBounds_toArray, List.set_cons_zero, List.set_cons_succ]
      refine pre_free 2 (v := ?_) rfl (by kernel_rfl) (by kernel_rfl) (by kernel_rfl) (by kernel_rfl) (fun _ _ _ h => h) (by rfl) (fun u => ?_) (by assumption) ?_
      rotate_left
      focus (go_simp; (try with_reducible rfl); done)
      try simp only [Act.put, List.setIfInBounds_toArray, List.set_cons_zero, List.set_cons_succ]
      refine pre_free 3 (v := ?_) rfl (by kernel_rfl) (by kernel_rfl) (by kernel_rfl) (by kernel_rfl) (fun _ _ _ h => h) (by rfl) (fun u => ?_) (by assumption) ?_
      rotate_left
      focus (go_simp; (try with_reducible rfl); done)
      try simp only [Act.put, List.setIfInBounds_toArray, List.set_cons_zero, List.set_cons_succ]
      refine pre_free 4 (v := ?_) rfl (by kernel_rfl) (by kernel_rfl) (by kernel_rfl) (by kernel_rfl) (fun _ _ _ h => h) (by rfl) (fun u => ?_) (by assumption) ?_
      rotate_left
      focus (go_simp; (try with_reducible rfl); done)
      try simp only [Act.put, List.setIfInBounds_toArray, List.set_cons_zero, List.set_cons_succ]
      refine pre_load 0 (v := ?_) rfl (by kernel_rfl) (by kernel_rfl) (by kernel_rfl) (by kernel_rfl) (fun _ _ _ h => h) (by rfl) (fun u hu => ?_) (by assumption) ?_
      rotate_left
      focus ((try dsimp only at hu); (have a0 := cell_of_heap hu.1 0; have a1 := cell_of_heap hu.2.1 0; have a2 := cell_of_heap hu.2.2.1 0; have a3 := cell_of_heap hu.2.2.2 0); go_simp; (try with_reducible rfl); done)
      try simp only [Act.put, List.setIfInBounds_toArray, List.set_cons_zero, List.set_cons_succ]
      refine pre_load 5 (v := ?_) rfl (by kernel_rfl) (by kernel_rfl) (by kernel_rfl) (by kernel_rfl) (fun _ _ _ h => h) (by rfl) (fun u hu => ?_) (by assumption) ?_
      rotate_left
      focus ((try dsimp only at hu); (have a0 := cell_of_heap hu.1 0; have a1 := cell_of_heap hu.2.1 0; have a2 := cell_of_heap hu.2.2.1 0; have a3 := cell_of_heap hu.2.2.2 0); go_simp; (try with_reducible rfl); done)
      try simp only [Act.put, List.setIfInBounds_toArray, List.set_cons_zero, List.set_cons_succ]
      refine pre_load 6 (v := ?_) rfl (by kernel_rfl) (by kernel_rfl) (by kernel_rfl) (by kernel_rfl) (fun _ _ _ h => h) (by rfl) (fun u hu => ?_) (by assumption) ?_
      rotate_left
      focus ((try dsimp only at hu); (have a0 := cell_of_heap hu.1 0; have a1 := cell_of_heap hu.2.1 0; have a2 := cell_of_heap hu.2.2.1 0; have a3 := cell_of_heap hu.2.2.2 0); go_simp; (try with_reducible rfl); done)
      try simp only [Act.put, List.setIfInBounds_toArray, List.set_cons_zero, List.set_cons_succ]
      refine pre_load 7 (v := ?_) rfl (by kernel_rfl) (by kernel_rfl) (by kernel_rfl) (by kernel_rfl) (fun _ _ _ h => h) (by rfl) (fun u hu => ?_) (by assumption) ?_
      rotate_left
      focus ((try dsimp only at hu); (have a0 := cell_of_heap hu.1 0; have a1 := cell_of_heap hu.2.1 0; have a2 := cell_of_heap hu.2.2.1 0; have a3 := cell_of_heap hu.2.2.2 0); go_simp; (try with_reducible rfl); done)
      try simp only [Act.put, List.setIfInBounds_toArray, List.set_cons_zero, List.set_cons_succ]
      refine pre_one 8 (by kernel_rfl) (by kernel_rfl) rfl (fun K hK => ?_)
      go_simp
      go_at_call 46
      refine (over_walk (tb := tb1) (mb := mb) f g hg _ T1' st1 wr.drew (Nat.le_refl _) (HMr.out.good true) ((HMr.out.lay true).same rfl) (HMr.out.nodup true) (HTR.out.only (Only.refl [] wr).drew (by simp) (by simp)) (HMr.out.tbn true) (HMr.out.mbn true)).mono ?_
      rintro e w3 ⟨v3, T', rfl, hs3, q1, q2, q3, q4, q5, q6, ⟨st3, q7⟩, q8⟩
      have q8' : Only (mb :: blks T1') wr w3 := (Only.refl _ wr).drew.trans q8 (fun x hx => .inl hx)
      have hne : ∀ x, x ∉ mkB mb tb0 tb1 T0 T1 → x ∉ mb :: blks T1' := fun x hx hm => hx (hsub x hm)
      have htbn : tb1 ∉ mb :: blks T1' := fun hm => by
        rcases List.mem_cons.1 hm with e | hm
        · exact HTR.out.ne e
        · exact HMr.out.tbn true hm
      have hWS3 := (show WS tb1 mb xl xf xt (ptrV T1') v f g wr from hWS).only q8' (hne xl hxl) (hne xf hxf) (hne xt hxt) htbn
      have hWB3 := HWB.out.only q8' (hne xm hxm) (hne xl hxl) (hne xf hxf) (hne xt hxt)
      have hge : ∀ x ∈ ownB v, sz ≤ x := own_ge HSP.out
      have hSP3 := own_only HSP.out q8' (fun k hk hm => by
        have h1 := hge k (by simp [ownB, hk])
        have h2 := hlts k (hsub k hm)
        omega)
      have hM3 := HMr.out.step true q1 (by rw [q4]; exact HMr.out.nodup true) q2 (fun x hx => .inl (q4 ▸ hx)) q7 (congrArg Value.pointer q5.symm) q8' (fun x hx => .inl (List.mem_cons_of_mem _ hx))
      have hO3 := hO'.out.trans q8' (fun x hx => .inl (List.mem_cons_of_mem _ (hsub x hx)))
      obtain ⟨A3, c3, rfl, hsl⟩ := own_slice hs3
      have hfew0 := HMr.out.g0.few
      have hfew1 := HMr.out.g1.few
      have hz3 := q8'.size
      have HWS3 := Lib.hid hWS3
      have HWB3 := Lib.hid hWB3
      have HSP3 := Lib.hid hSP3
      have HM3 := Lib.hid hM3.1
      have HO3 := Lib.hid hO3
      have HSL := Lib.hid hsl
      have HGE := Lib.hid hge
      have HQ : Hid (flat T' = flat T1' ∧ blks T' = blks T1') := Lib.hid ⟨q3, q4⟩
      clear q1 q2 q3 q4 q5 q6 q7 q8 q8' hWS3 hWB3 hge hSP3 hM3 hO3 hsl hs3
      try go_simp
      refine hK.out _ _ HWS3.out (fun hHeld8 => ?_)
      clear hK K
      try simp only [Act.put, List.setIfInBounds_toArray, List.set_cons_zero, List.set_cons_succ]
      have hl1 : (overS f g (flat T0)).length ≤ 1099511627776 := by have := overS_length f g (flat T0); rw [← HF0.out] at this ⊢; omega
      have hl2 : (overS f g (flat T1')).length ≤ 1099511627776 := by have := overS_length f g (flat T1'); omega
      refine pre_one 9 (by kernel_rfl) (by kernel_rfl) rfl (fun K hK => ?_)
      refine step_append_sl w3 rfl (.tmp 13) (.tmp 21) 32 rfl sz 25 i0 _ 3 24 Try.underlying32 hi hz0 hz1 hz2 rfl (by decide) v (overS f g (flat T0)).length _ rfl HSP3.out A3 (overS f g (flat T1')).length c3 _ rfl HSL.out (by unfold maxLen; omega) (by omega) (by omega) ?_
      rintro v' w4 ⟨hs4, hg4, hat4⟩
      have hs4' : Spans w4 sz v' ((overS f g (flat T0)) ++ overS f g (flat T1')) := by
        unfold Spans
        rw [List.length_append, rowS_append]
        exact hs4
      obtain ⟨A', c', hv, _⟩ := own_slice hs4'
      generalize hkn : ((overS f g (flat T0)) ++ overS f g (flat T1')).length = kn at hv
      subst hv
      clear hs4'
      have hB4 := own_grown hg4
      have hn4 : ∀ x, x < sz → x ∉ ownB v := fun x hx hm => by have := HGE.out x hm; omega
      have hnB : ∀ x ∈ mkB mb tb0 tb1 (two true T' T0') (two true T1' T'), x ∉ ownB v := fun x hx => hn4 x (hlts x (by
        have hq := HQ.out.2
        simp only [two, mkB, Bool.false_eq_true, if_false, if_true] at hx ⊢
        rw [HBL0.out, hq, HBL1.out] at hx
        exact hx))
      have hM4 := HM3.out.only hB4 hnB
      have hWB4 := HWB3.out.only hB4 (hn4 xm blm) (hn4 xl bll) (hn4 xf blf) (hn4 xt blt)
      have hWS4 := HWS3.out.only hB4 (hn4 xl bll) (hn4 xf blf) (hn4 xt blt) (hn4 tb1 (hlts tb1 (by simp [mkB])))
      have hO4 := HO3.out.trans hB4 (fun x hx => .inr (by rw [hsz]; exact HGE.out x hx))
      have c0 := cell_of_heap hWB4.l 0
      have f0 := frozen_of_heap hWB4.l 0
      have ho5 := (Only.refl [xl] w4).setCell (p := ⟨xl, 0, none⟩) (.inl (by simp)) (.slice A' kn c')
      have hxn : ∀ x, x ≠ xl → x ∉ [xl] := fun x hx hm => hx (List.mem_singleton.1 hm)
      have hM5 := hM4.only ho5 (fun x hx => hxn x (fun e => hxl (by
        have hq := HQ.out.2
        rw [← e]
        simp only [two, mkB, Bool.false_eq_true, if_false, if_true] at hx ⊢
        rw [HBL0.out, hq, HBL1.out] at hx
        exact hx)))
      have hWB5 : WBoxes mb f g xm xl xf xt (.slice A' kn c') (w4.setCell ⟨xl, 0, none⟩ (.slice A' kn c')) := ⟨ho5.heap hWB4.m (hxn xm (fun e => hd.1 e.symm)), heap_setCell hWB4.l 0 (.slice A' kn c'), ho5.heap hWB4.f (hxn xf (fun e => hd.2.1 e.symm)), ho5.heap hWB4.t (hxn xt (fun e => hd.2.2 e.symm))⟩
      have hs5 := own_only hs4 ho5 (fun k hk hm => by have := (hs4.lt k hk).1; have := List.mem_singleton.1 hm; omega)
      have hO5 := hO4.trans ho5 (fun x hx => .inl (by rw [List.mem_singleton.1 hx]; simp))
      have HM5 := Lib.hid hM5
      have HWB5 := Lib.hid hWB5
      have HS5 := Lib.hid hs5
      have HO5 := Lib.hid hO5
      have HWS4 := Lib.hid hWS4
      clear hs4 hg4 hat4 hB4 hnB hM4 hWB4 hWS4 hO4 ho5 hM5 hWB5 hs5 hO5
      refine hK.out _ _ HWS4.out (fun hHeld9 => ?_)
      clear hK K
      try simp only [Act.put, List.setIfInBounds_toArray, List.set_cons_zero, List.set_cons_succ]
      refine pre_last (by kernel_rfl) rfl (fun K hK => ?_)
      go_simp
      refine hK.out _ _ ?_
      clear hK K
      try simp only [Act.put, List.setIfInBounds_toArray, List.set_cons_zero, List.set_cons_succ]
      refine aw_done (by kernel_rfl) ?_
      have hfin : Spans (w4.setCell ⟨xl, 0, none⟩ (.slice A' kn c')) sz (.slice A' kn c') ((overS f g (flat T0)) ++ (overS f g (flat T1'))) := by
        unfold Spans
        rw [List.length_append, rowS_append]
        exact HS5.out
      have HFIN := Lib.hid hfin
      clear hfin c0 f0 hkn
      go_wp2_with fail
      go_roundw
      case rel => exact ⟨2, by omega, by first | rfl | go_num, T0', T', st3, (.slice A' kn c'), HM5.out, HF0.out, HQ.out.1.trans HF1.out, HBL0.out, HQ.out.2.trans HBL1.out, HWB5.out, by rw [hsz]; have := HFIN.out; simpa [HF1.out] using this, HO5.out⟩
      case measure => simp [RowKit.intOf]
    · have h1 := Lib.hid hm
      have h2 := Lib.hid hwb
      have h3 := Lib.hid hsp
      clear hm hwb hsp hO
      go_wp2_with fail
      go_end0
      exact ⟨rfl, T0', T1', st1, v, h1.out, HF0.out, HF1.out, HBL0.out, HBL1.out, h2.out, by have := h3.out; simpa using this, hO'.out⟩
end Go.Proofs.Ytijpienjejfmiaa
