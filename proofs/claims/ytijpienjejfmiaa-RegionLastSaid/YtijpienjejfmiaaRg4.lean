/-
  Region's All: the walk. No conditions beyond those that each law names.
-/
import Derived.Test.YtijpienjejfmiaaRg3
namespace Go.Proofs.Ytijpienjejfmiaa
open Go Go.RowKit

/-- One run more: it makes the last one longer, or stands behind it. -/
def mergeS (acc : List Sp) (s : Sp) : List Sp :=
  match acc.getLast? with
  | some z => if z.b = s.a ∧ z.k = s.k / 2 then acc.dropLast ++ [⟨z.a, s.b, z.k⟩] else acc ++ [⟨s.a, s.b, s.k / 2⟩]
  | none => [⟨s.a, s.b, s.k / 2⟩]
def runsL (L : List Sp) : List Sp := L.foldl mergeS []

theorem runsL_take {L : List Sp} {j : Nat} (hj : j < L.length) : runsL (L.take (j + 1)) = mergeS (runsL (L.take j)) L[j] := by
  unfold runsL
  rw [List.take_succ_eq_append_getElem hj, List.foldl_append]
  rfl

theorem mergeS_nil (s : Sp) : mergeS [] s = [⟨s.a, s.b, s.k / 2⟩] := rfl
theorem mergeS_snoc (i : List Sp) (z s : Sp) : mergeS (i ++ [z]) s = if z.b = s.a ∧ z.k = s.k / 2 then i ++ [⟨z.a, s.b, z.k⟩] else i ++ [z] ++ [⟨s.a, s.b, s.k / 2⟩] := by
  unfold mergeS
  simp

theorem mergeS_length (acc : List Sp) (s : Sp) : (mergeS acc s).length ≤ acc.length + 1 := by
  rcases List.eq_nil_or_concat acc with rfl | ⟨i, z, rfl⟩
  · simp [mergeS_nil]
  · rw [List.concat_eq_append, mergeS_snoc]
    split <;> simp

theorem runsL_length (L : List Sp) (j : Nat) (hj : j ≤ L.length) : (runsL (L.take j)).length ≤ j := by
  induction j with
  | zero => simp [runsL]
  | succ j ih =>
    rw [runsL_take (by omega)]
    have := mergeS_length (runsL (L.take j)) L[j]
    have := ih (by omega)
    omega

theorem own_set {w : World} {base : Nat} {e : TypeId} {size n cap q : Nat} {xs : List Value} (h : w.ownsRow base e size (.slice (some ⟨q, 0, none⟩) n cap) n xs) (k : Nat) (hk : k < n * size) (u : Value) : (w.setCell ⟨q, k, none⟩ u).ownsRow base e size (.slice (some ⟨q, 0, none⟩) n cap) n (xs.set k u) := by
  refine ⟨by rw [List.length_set]; exact h.1, ?_⟩
  rcases h.2 with ⟨hv, _⟩ | ⟨g, cap', cur, hv, hb, hh, h1, h2, h3, h4⟩
  · cases hv
  · cases hv
    refine .inr ⟨q, cap, cur.setIfInBounds k u, rfl, hb, heap_setCell hh k u, h1, h2, by simpa using h3, ?_⟩
    rw [Array.toList_setIfInBounds, List.take_set, h4]

theorem rowS_set (i : List Sp) (z : Sp) (v : Int) : (rowS (i ++ [z])).set (i.length * 3 + 1) (.int .i64 v) = rowS (i ++ [⟨z.a, v, z.k⟩]) := by
  rw [rowS_append, rowS_append, List.set_append_right _ _ (by rw [rowS_length]; omega), rowS_length, show i.length * 3 + 1 - i.length * 3 = 1 by omega]
  rfl

theorem MN.all2 {mb : Nat} {K : List (Nat × Obj)} {L0 L1 : List Sp} {w wk : World} (h : MN mb K L0 L1 w wk) : Calls Try.prog 17 #[.pointer (some ⟨mb, 0, none⟩)] wk fun e w' => ∃ A c, e = .returned (.slice A (sortS (L0 ++ L1)).length c) ∧ Spans w' wk.heap.size (.slice A (sortS (L0 ++ L1)).length c) (sortS (L0 ++ L1)) ∧ MN mb K L0 L1 w w' ∧ wk.heap.size ≤ w'.heap.size := by
  obtain ⟨B, q1, q2, q3⟩ := h
  refine (all_walk wk q1).mono ?_
  intro e w' hr
  have hsz : wk.heap.size ≤ w'.heap.size := by
    obtain ⟨v, _, _, _, p3⟩ := hr
    exact p3.size
  obtain ⟨A, c, h1, h2, h3⟩ := MN.ofWithin q2 q3 hr
  exact ⟨A, c, h1, h2, h3, hsz⟩

theorem big_ok {n : Nat} (h : n ≤ 274877906944) : n + 1 ≤ maxLen ∧ (n + 1) * 24 ≤ 140737488355328 := by
  unfold maxLen
  omega

/-- All's loop. -/
def RunsRel (R : List Sp) (w2 : World) (lv iv : Value) (wr : World) : Prop :=
  ∃ j : Nat, j ≤ R.length ∧ iv = .int .i64 (j : Int) ∧ Spans wr w2.heap.size lv (runsL (R.take j)) ∧ w2.grownBy wr none

set_option maxRecDepth 100000 in
set_option maxHeartbeats 2000000 in
theorem rall_walk {rb mb : Nat} {K : List (Nat × Obj)} {L : List Sp} {w wk : World} (hL : RunsOk L) (hl : L.length ≤ 274877906944) (h : RN rb mb K L w wk) :
    Calls Try.prog 25 #[.pointer (some ⟨rb, 0, none⟩)] wk fun e w' => ∃ A c, e = .returned (.slice A (runsL L).length c) ∧ Spans w' wk.heap.size (.slice A (runsL L).length c) (runsL L) ∧ RN rb mb K L w w' := by
  obtain ⟨i0, hi, hz0, hz1, hz2⟩ := info_parts span_info
  have r0 := h.cell
  have hc := h.all2
  rw [List.append_nil, sortS_ord h.ord.1] at hc
  have HC := Lib.hid hc
  have hwk := h.grown.size
  clear hc h
  go_enter Try.func25, Try.ntmps25
  go_wp2_with fail
  refine HC.out.mono ?_
  rintro e w2 ⟨A, c, rfl, hs2, h2, hge2⟩
  obtain ⟨A', c', he, hsl⟩ := own_slice hs2
  cases he
  have HSL := Lib.hid hsl
  have H2 := Lib.hid h2
  clear hs2 hsl h2
  go_wp2_with fail
  go_loopw [3, 13] (fun lv iv wr => RunsRel L w2 lv iv wr) (fun _ iv _ => L.length - (RowKit.intOf iv).toNat)
  case atStart => exact ⟨0, Nat.zero_le _, rfl, World.ownsRow_nil _ _ _ _, grownBy_refl _ _⟩
  case round =>
    obtain ⟨j, hj, rfl, hsp, hgr⟩ := hrel
    rcases Nat.lt_or_ge j L.length with hlt | hge
    · obtain ⟨b, o, rfl, hcc⟩ := (HSL.out.kept hgr nofun).2.2 (by omega)
      obtain ⟨r1, r2, r3⟩ := rowS_at L j hlt
      have hc0 := hcc _ _ r1
      have hc1 := hcc _ _ r2
      have hc2 := hcc _ _ r3
      rw [← Nat.add_assoc] at hc1 hc2
      have hct := runsL_take hlt
      have hlj := runsL_length L j hj
      obtain ⟨⟨s1, s2, s3⟩, s4, s5, s6⟩ := hL _ (List.getElem_mem hlt)
      have hltI : (j : Int) < (L.length : Int) := Int.ofNat_lt.2 hlt
      generalize L[j] = s at *
      have htd : s.k.tdiv 2 = s.k / 2 := Int.tdiv_eq_ediv_of_nonneg s5
      have htx : IntKind.i64.wrap (s.k / 2) = s.k / 2 := by rw [IntKind.wrap_i64]; omega
      obtain ⟨lA, lc, rfl, hsl⟩ := own_slice hsp
      go_upto_region 6 with (fail)
      clear hc0 hc1 hc2 r1 r2 r3 hcc
      have hA := heap_new wr (spO ⟨s.a, s.b, s.k / 2⟩)
      have hg7 := grownBy_alloc hgr (spO ⟨s.a, s.b, s.k / 2⟩)
      have hsp7 := ownsRow_kept hsp (grownBy_alloc (grownBy_refl wr none) (spO ⟨s.a, s.b, s.k / 2⟩)) (own_none _)
      have a0 := cell_of_heap hA 0
      have a1 := cell_of_heap hA 1
      have a2 := cell_of_heap hA 2
      have HA := Lib.hid hA
      have HG7 := Lib.hid hg7
      have HSP7 := Lib.hid hsp7
      have HCT := Lib.hid hct
      have hszr := hgr.size
      clear hA hg7 hsp7 hct hsp hgr
      generalize wr.alloc (spO ⟨s.a, s.b, s.k / 2⟩) = w7 at *
      generalize hbx : wr.heap.size = bx at *
      generalize hacc : runsL (L.take j) = acc at *
      rcases List.eq_nil_or_concat acc with rfl | ⟨ini, z, rfl⟩
      · have hct := HCT.out
        rw [mergeS_nil] at hct
        have HCT2 := Lib.hid hct
        clear hct
        go_upto_region 7 with (fail)
        go_quiet (fail)
        have hA8 : (w7.drewN nq).heap[bx]? = some (spO ⟨s.a, s.b, s.k / 2⟩) := HA.out
        have hsp8 := ownsRow_drewN HSP7.out nq
        have hg8 := grownBy_drewN HG7.out nq
        generalize hw8 : w7.drewN nq = w8 at *
        clear a0 a1 a2 hw8
        have a0 := cell_of_heap hA8 0
        have a1 := cell_of_heap hA8 1
        have a2 := cell_of_heap hA8 2
        go_upto_region 9 with (fail)
        have hX := grownBy_alloc (grownBy_refl w8 none) (spO ⟨s.a, s.b, s.k / 2⟩)
        have hsl9 := Sl.of_own (World.ownsRow_lit (base := 0) (size := 3) (e := 25) w8 #[.int .i64 s.a, .int .i64 s.b, .int .i64 (s.k / 2)] 1 (Nat.zero_le _) (by decide) rfl) (rowS_one [⟨s.a, s.b, s.k / 2⟩])
        have hown9 := ownsRow_kept hsp8 hX (own_none _)
        have HSL9 := Lib.hid hsl9
        have HO9 := Lib.hid hown9
        have HG9 := Lib.hid (grownBy_trans hg8 hX nofun)
        have hsz8 := hg8.size
        clear hsl9 hX hown9 hsp8 hg8
        go_wp2_with (at_builtin; refine wpList_append_sl _ rfl (.tmp 54) (.tmp 56) 32 rfl w2.heap.size 25 i0 _ 3 24 Try.underlying32 hi hz0 hz1 hz2 rfl (by decide) (.slice lA 0 lc) 0 _ rfl HO9.out (some ⟨w8.heap.size, 0, none⟩) 1 1 _ rfl HSL9.out (by unfold maxLen; omega) (by omega) (by simp; omega) ?_)
        rintro v' w10 ⟨hs10, hg10, _⟩
        have hg11 : w2.grownBy w10 none := grownBy_trans HG9.out hg10 (fun i e => .inr ((HO9.out.lt i e).1))
        have hs11 : Spans w10 w2.heap.size v' (([] : List Sp) ++ [⟨s.a, s.b, s.k / 2⟩]) := by
          unfold Spans
          rw [List.length_append, rowS_append]
          exact hs10
        have HS11 := Lib.hid hs11
        have HG11 := Lib.hid hg11
        clear hs10 hg10 hs11 hg11 a0 a1 a2
        go_wp2_with fail
        go_roundw
        case rel => exact ⟨j + 1, hlt, by simp, by rw [HCT2.out]; exact HS11.out, HG11.out⟩
        case measure => exact meas hlt
      · rw [List.concat_eq_append] at *
        obtain ⟨N, hN⟩ : ∃ N, ini.length = N := ⟨_, rfl⟩
        have hlen : (ini ++ [z]).length = N + 1 := by simp [hN]
        have hNj : N + 1 ≤ j := by rw [← hlen]; exact hlj
        have hsp7 := HSP7.out
        have hct := HCT.out
        rw [mergeS_snoc] at hct
        obtain ⟨q, cap', hv, hcap, hq1, hq2⟩ := own_form hsp7 (by rw [hlen]; omega)
        cases hv
        have hzc := Sl.of_own hsp7 (rowS_one _)
        obtain ⟨q', o', he, hzz⟩ := hzc.2.2 (by rw [hlen]; omega)
        cases he
        have hz1' : (rowS (ini ++ [z]))[N * 3 + 1]? = some (.int .i64 z.b) := by
          rw [rowS_append, List.getElem?_append_right (by rw [rowS_length, hN]; omega), rowS_length, hN, show N * 3 + 1 - N * 3 = 1 by omega]
          rfl
        have hz2' : (rowS (ini ++ [z]))[N * 3 + 2]? = some (.int .i64 z.k) := by
          rw [rowS_append, List.getElem?_append_right (by rw [rowS_length, hN]; omega), rowS_length, hN, show N * 3 + 2 - N * 3 = 2 by omega]
          rfl
        have x1 := hzz _ _ hz1'
        have x2 := hzz _ _ hz2'
        rw [Nat.zero_add] at x1 x2
        simp only [hlen] at hsp7 ⊢
        have HCT1 := Lib.hid hct
        have HSP8 := Lib.hid hsp7
        have hn1 : IntKind.i64.wrap ((N : Int) + 1 - 1) = (N : Int) := by rw [IntKind.wrap_i64]; omega
        have hNI : (0 : Int) < (N : Int) + 1 := by omega
        clear hct hzc hzz hz1' hz2' hsp7
        by_cases e1 : z.b = s.a
        · by_cases e2 : z.k = s.k / 2
          · have hct := HCT1.out
            rw [if_pos ⟨e1, e2⟩] at hct
            have HCT2 := Lib.hid hct
            have b1 : (z.b == s.a) = true := by simp [e1]
            have b2 : (z.k == s.k / 2) = true := by simp [e2]
            clear hct
            go_upto_region 7 with (fail)
            go_quiet (fail)
            have hA8 : (w7.drewN nq).heap[bx]? = some (spO ⟨s.a, s.b, s.k / 2⟩) := HA.out
            have hsp8 := ownsRow_drewN HSP8.out nq
            have hg8 := grownBy_drewN HG7.out nq
            have y1 : (w7.drewN nq).cell? ⟨q, N * 3 + 1, none⟩ = some (.int .i64 z.b) := x1
            generalize hw8 : w7.drewN nq = w8 at *
            clear a0 a1 a2 x1 x2 hw8
            have a1 := cell_of_heap hA8 1
            have f1 : w8.frozen? ⟨q, N * 3 + 1, none⟩ = false := by
              rcases hsp8.2 with ⟨hv, _⟩ | ⟨_, _, _, hv, _, hh, _⟩
              · cases hv
              · cases hv
                exact frozen_of_heap hh _
            have hs9 := own_set hsp8 (N * 3 + 1) (by omega) (.int .i64 s.b)
            have hg9 := grownBy_setCell hg8 q (N * 3 + 1) (.int .i64 s.b) (.inr hq1)
            have hs11 : Spans (w8.setCell ⟨q, N * 3 + 1, none⟩ (.int .i64 s.b)) w2.heap.size (.slice (some ⟨q, 0, none⟩) (N + 1) lc) (ini ++ [⟨z.a, s.b, z.k⟩]) := by
              unfold Spans
              rw [List.length_append, hN, ← rowS_set, hN]
              exact hs9
            have HS11 := Lib.hid hs11
            have HG11 := Lib.hid hg9
            clear hsp8 hg8 hs9 hg9 hs11
            go_wp2_with fail
            go_roundw
            case rel => exact ⟨j + 1, hlt, by simp, by rw [HCT2.out]; exact HS11.out, HG11.out⟩
            case measure => exact meas hlt
          · have hct := HCT1.out
            rw [if_neg (fun h => e2 h.2)] at hct
            have HCT2 := Lib.hid hct
            have b1 : (z.b == s.a) = true := by simp [e1]
            have b2 : (z.k == s.k / 2) = false := by simp [e2]
            clear hct
            go_upto_region 7 with (fail)
            go_quiet (fail)
            have hA8 : (w7.drewN nq).heap[bx]? = some (spO ⟨s.a, s.b, s.k / 2⟩) := HA.out
            have hsp8 := ownsRow_drewN HSP8.out nq
            have hg8 := grownBy_drewN HG7.out nq
            generalize hw8 : w7.drewN nq = w8 at *
            clear a0 a1 a2 x1 x2 hw8
            have a0 := cell_of_heap hA8 0
            have a1 := cell_of_heap hA8 1
            have a2 := cell_of_heap hA8 2
            go_upto_region 9 with (fail)
            have hX := grownBy_alloc (grownBy_refl w8 none) (spO ⟨s.a, s.b, s.k / 2⟩)
            have hsl9 := Sl.of_own (World.ownsRow_lit (base := 0) (size := 3) (e := 25) w8 #[.int .i64 s.a, .int .i64 s.b, .int .i64 (s.k / 2)] 1 (Nat.zero_le _) (by decide) rfl) (rowS_one [⟨s.a, s.b, s.k / 2⟩])
            have hown9 := ownsRow_kept hsp8 hX (own_none _)
            have HSL9 := Lib.hid hsl9
            have HO9 := Lib.hid hown9
            have HG9 := Lib.hid (grownBy_trans hg8 hX nofun)
            have hsz8 := hg8.size
            have hmx : N + 1 + 1 ≤ maxLen ∧ (N + 1 + 1) * 24 ≤ 140737488355328 := big_ok (Nat.le_trans hNj (Nat.le_trans hj hl))
            clear hsl9 hX hown9 hsp8 hg8
            go_wp2_with (at_builtin; refine wpList_append_sl _ rfl (.tmp 54) (.tmp 56) 32 rfl w2.heap.size 25 i0 _ 3 24 Try.underlying32 hi hz0 hz1 hz2 rfl (by decide) (.slice (some ⟨q, 0, none⟩) (N + 1) lc) (N + 1) _ rfl HO9.out (some ⟨w8.heap.size, 0, none⟩) 1 1 _ rfl HSL9.out hmx.1 hmx.2 (Nat.le_trans hsz8 (by simp)) ?_)
            rintro v' w10 ⟨hs10, hg10, _⟩
            have hg11 : w2.grownBy w10 none := grownBy_trans HG9.out hg10 (fun i e => .inr ((HO9.out.lt i e).1))
            have hs11 : Spans w10 w2.heap.size v' (ini ++ [z] ++ [⟨s.a, s.b, s.k / 2⟩]) := by
              unfold Spans
              rw [List.length_append, rowS_append, hlen]
              exact hs10
            have HS11 := Lib.hid hs11
            have HG11 := Lib.hid hg11
            clear hs10 hg10 hs11 hg11 a0 a1 a2 hmx
            go_wp2_with fail
            go_roundw
            case rel => exact ⟨j + 1, hlt, by simp, by rw [HCT2.out]; exact HS11.out, HG11.out⟩
            case measure => exact meas hlt
        · have hct := HCT1.out
          rw [if_neg (fun h => e1 h.1)] at hct
          have HCT2 := Lib.hid hct
          have b1 : (z.b == s.a) = false := by simp [e1]
          clear hct
          go_upto_region 7 with (fail)
          go_quiet (fail)
          have hA8 : (w7.drewN nq).heap[bx]? = some (spO ⟨s.a, s.b, s.k / 2⟩) := HA.out
          have hsp8 := ownsRow_drewN HSP8.out nq
          have hg8 := grownBy_drewN HG7.out nq
          generalize hw8 : w7.drewN nq = w8 at *
          clear a0 a1 a2 x1 x2 hw8
          have a0 := cell_of_heap hA8 0
          have a1 := cell_of_heap hA8 1
          have a2 := cell_of_heap hA8 2
          go_upto_region 9 with (fail)
          have hX := grownBy_alloc (grownBy_refl w8 none) (spO ⟨s.a, s.b, s.k / 2⟩)
          have hsl9 := Sl.of_own (World.ownsRow_lit (base := 0) (size := 3) (e := 25) w8 #[.int .i64 s.a, .int .i64 s.b, .int .i64 (s.k / 2)] 1 (Nat.zero_le _) (by decide) rfl) (rowS_one [⟨s.a, s.b, s.k / 2⟩])
          have hown9 := ownsRow_kept hsp8 hX (own_none _)
          have HSL9 := Lib.hid hsl9
          have HO9 := Lib.hid hown9
          have HG9 := Lib.hid (grownBy_trans hg8 hX nofun)
          have hsz8 := hg8.size
          have hmx : N + 1 + 1 ≤ maxLen ∧ (N + 1 + 1) * 24 ≤ 140737488355328 := big_ok (Nat.le_trans hNj (Nat.le_trans hj hl))
          clear hsl9 hX hown9 hsp8 hg8
          go_wp2_with (at_builtin; refine wpList_append_sl _ rfl (.tmp 54) (.tmp 56) 32 rfl w2.heap.size 25 i0 _ 3 24 Try.underlying32 hi hz0 hz1 hz2 rfl (by decide) (.slice (some ⟨q, 0, none⟩) (N + 1) lc) (N + 1) _ rfl HO9.out (some ⟨w8.heap.size, 0, none⟩) 1 1 _ rfl HSL9.out hmx.1 hmx.2 (Nat.le_trans hsz8 (by simp)) ?_)
          rintro v' w10 ⟨hs10, hg10, _⟩
          have hg11 : w2.grownBy w10 none := grownBy_trans HG9.out hg10 (fun i e => .inr ((HO9.out.lt i e).1))
          have hs11 : Spans w10 w2.heap.size v' (ini ++ [z] ++ [⟨s.a, s.b, s.k / 2⟩]) := by
            unfold Spans
            rw [List.length_append, rowS_append, hlen]
            exact hs10
          have HS11 := Lib.hid hs11
          have HG11 := Lib.hid hg11
          clear hs10 hg10 hs11 hg11 a0 a1 a2 hmx
          go_wp2_with fail
          go_roundw
          case rel => exact ⟨j + 1, hlt, by simp, by rw [HCT2.out]; exact HS11.out, HG11.out⟩
          case measure => exact meas hlt
    · have hjR : j = L.length := Nat.le_antisymm hj hge
      subst hjR
      rw [List.take_length] at hsp
      obtain ⟨lA, lc, rfl, _⟩ := own_slice hsp
      have HSP := Lib.hid hsp
      have HF := Lib.hid (H2.out.kept hgr)
      clear hsp hgr
      go_wp2_with fail
      go_ret
      exact ⟨lA, lc, rfl, ownsRow_base HSP.out hge2, HF.out⟩
end Go.Proofs.Ytijpienjejfmiaa
