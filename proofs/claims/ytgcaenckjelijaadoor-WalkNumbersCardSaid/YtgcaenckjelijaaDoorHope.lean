/-
  ref18.hope: is a beginning, cut back, a beginning of something near enough: the walk: where there is hope it says so. Conditions: a beginning of at most 900 bytes, at most 900 codes.
-/
import Derived.Test.YtgcaenckjelijaaDoorRefWalk
import Derived.Deep.RegionLaw
namespace Go.Proofs.YtgcaenckjelijaaDoor
open Go Go.RowKit Go.Lib Go.Maps

theorem cutB_some {n : Nat} {h : Wd} {cs : List Int} (hc : codesB h = some cs) : cutB n h = some cs := by
  cases n with
  | zero => exact hc
  | succ n => unfold cutB; rw [hc]

theorem cutB_next {n : Nat} {h : Wd} (hc : codesB h = none) (h0 : h ≠ []) : cutB (n + 1) h = cutB n h.dropLast := by
  conv => lhs; unfold cutB
  rw [hc]; simp only; rw [if_neg h0]

/-- What hope answers. -/
def HopeRes (codes : List Int) (most : Nat) (head : Wd) (w : World) (e : Ending) (w' : World) : Prop :=
  ∃ b : Bool, e = .returned (.bool b) ∧ (hopeS codes most head = true → b = true) ∧ w.grownBy w' none

/-- The codes of a beginning under way, as they lie. -/
def CutAt (w : World) (h : Wd) (v : Value) (ok : Bool) : Prop :=
  (∃ cs A c, codesB h = some cs ∧ ok = true ∧ v = .slice A cs.length c ∧ Sl w 1 A cs.length (intCells cs)) ∨ (codesB h = none ∧ ok = false ∧ v = .slice none 0 0)

theorem CutAt.kept {w w' : World} {h : Wd} {v : Value} {ok : Bool} (a : CutAt w h v ok) (g : w.grownBy w' none) : CutAt w' h v ok := by
  rcases a with ⟨cs, A, c, h1, h2, h3, h4⟩ | h1
  · exact .inl ⟨cs, A, c, h1, h2, h3, h4.kept g nofun⟩
  · exact .inr h1

theorem CodesRes.cut {s : Wd} {w w' : World} {e : Ending} (h : CodesRes s w e w') : w.grownBy w' none ∧ ∃ v ok, e = .returned (.tuple #[v, .bool ok]) ∧ CutAt w' s v ok := by
  obtain ⟨hg, h⟩ := h
  refine ⟨hg, ?_⟩
  rcases h with ⟨cs, A, c, h1, h2, h3⟩ | ⟨h1, h2⟩
  · exact ⟨_, true, h2, .inl ⟨cs, A, c, h1, rfl, rfl, Sl.of_own h3 (fun x hx => by obtain ⟨d, _, rfl⟩ := List.mem_map.1 hx; rfl)⟩⟩
  · exact ⟨_, false, h2, .inr ⟨h1, rfl, rfl⟩⟩

theorem sl_take {w : World} {A : Option Addr} {n k : Nat} {codes : List Int} (h : Sl w 1 A n (intCells codes)) (hk : k ≤ n) (hn : codes.length = n) : Sl w 1 A k (intCells (codes.take k)) := by
  refine ⟨by simp [intCells]; omega, fun x hx => by obtain ⟨d, _, rfl⟩ := List.mem_map.1 hx; rfl, fun h0 => ?_⟩
  obtain ⟨b, o, rfl, hc⟩ := h.2.2 (by omega)
  refine ⟨b, o, rfl, fun j u hu => hc j u ?_⟩
  unfold intCells at hu ⊢
  rw [List.getElem?_map] at hu ⊢
  rcases Nat.lt_or_ge j k with h1 | h1
  · rw [List.getElem?_take_of_lt h1] at hu; exact hu
  · rw [List.getElem?_eq_none (by rw [List.length_take]; omega)] at hu; cases hu

set_option maxRecDepth 100000 in
set_option maxHeartbeats 4000000 in
theorem hope_walk (head : Wd) (C : Option Addr) (nc cc mo : Nat) (codes : List Int) (w : World) (hl : head.length ≤ 900) (hc : codes.length = nc) (hc2 : nc ≤ 900) (hC : Sl w 1 C nc (intCells codes)) (hcc : nc ≤ cc) (hmo : mo ≤ 3) :
    Calls Tryd.prog 45 #[.string ⟨head.toArray⟩, .slice C nc cc, .int .i64 (mo : Int)] w (HopeRes codes mo head w) := by
  obtain ⟨i0, hi, hz0, hz1, hz2⟩ := info_parts int_info
  have HC := Lib.hid hC
  have HCL := Lib.hid hc
  have HI := Lib.hid (And.intro hi (And.intro hz0 (And.intro hz1 hz2)))
  clear hC hc hi hz0 hz1 hz2
  go_enter Tryd.func45, Tryd.ntmps45
  go_wp2_with fail
  refine (codes_walk head w (by omega)).mono ?_
  rintro e w1 hr
  obtain ⟨hg1, v, ok, rfl, hcut1⟩ := hr.cut
  have HG1 := Lib.hid hg1
  have HCUT := Lib.hid hcut1
  clear hr hg1 hcut1
  go_wp2_with fail
  go_loopw [0, 7, 8, 9] (fun hv cv ov kv wr => ∃ (k : Nat) (h : Wd) (ok : Bool), k ≤ 3 ∧ kv = .int .i64 (k : Int) ∧ hv = .string ⟨h.toArray⟩ ∧ ov = .bool ok ∧ h.length ≤ 900 ∧ cutB (3 - k) h = cutB 3 head ∧ CutAt wr h cv ok ∧ w.grownBy wr none) (fun _ _ _ kv _ => 3 - (intOf kv).toNat)
  case atStart => exact ⟨0, head, ok, by omega, rfl, rfl, rfl, hl, rfl, HCUT.out, HG1.out⟩
  case round =>
    obtain ⟨k, h, ok, hk, rfl, rfl, rfl, hhl, hcb, hcut, hg⟩ := hrel
    have HCB := Lib.hid hcb
    have HG := Lib.hid hg
    clear hcb hg
    rcases hcut with ⟨cs, B, cb, hcs, rfl, rfl, hsl⟩ | ⟨hcs, rfl, rfl⟩
    · have hcl := codesB_len hcs
      have hsome := cutB_some (n := 3 - k) hcs
      rw [HCB.out] at hsome
      obtain ⟨nn, hnn⟩ : ∃ nn, cs.length = nn := ⟨_, rfl⟩
      rw [hnn] at hsl hcl
      rw [hnn]
      have HNN := Lib.hid hnn
      have HSL := Lib.hid hsl
      have HSOME := Lib.hid hsome
      clear hnn hsl hcs hsome
      go_upto_region 3 with (fail)
      go_cut [27] (fun v wx => v = .bool false ∧ wx = wr)
      case first =>
        rcases Nat.lt_or_ge k 3 with h3 | h3
        · have h3i : (k : Int) < 3 := by omega
          go_wp2_with fail
          go_meet
          exact ⟨by first | rfl | trivial, by first | rfl | trivial⟩
        · have h3i : (3 : Int) ≤ (k : Int) := by omega
          go_wp2_with fail
          go_meet
          exact ⟨by first | rfl | trivial, by first | rfl | trivial⟩
      case rest =>
        obtain ⟨rfl, rfl⟩ := hcut
        go_wp2_with fail
        go_loopw [10] (fun kv wx => ∃ k2 : Nat, k2 ≤ nc + 1 ∧ kv = .int .i64 (k2 : Int) ∧ (∀ k', k' < k2 → mo < farC (codes.take k') cs) ∧ w.grownBy wx none ∧ Sl wx 1 B nn (intCells cs)) (fun kv _ => nc + 1 - (intOf kv).toNat)
        case atStart => exact ⟨0, by omega, rfl, fun k' h => absurd h (by omega), HG.out, HSL.out⟩
        case round =>
          obtain ⟨k2, hk2, rfl, hfar, hgx, hslx⟩ := hrel
          rcases Nat.lt_or_ge k2 (nc + 1) with hlt | hge
          · have hki : (k2 : Int) ≤ (nc : Int) := by omega
            have hkc : (k2 : Int) ≤ (cc : Int) := by omega
            have HFAR := Lib.hid hfar
            have HGX := Lib.hid hgx
            have HSLX := Lib.hid hslx
            clear hfar hgx hslx
            go_wp2_with fail
            have htl : (codes.take k2).length = k2 := by rw [List.length_take, HCL.out]; omega
            refine (far_walk (codes.take k2) cs C B k2 nn cc cb wr htl HNN.out (by omega) (by omega) (sl_take (HC.out.kept HGX.out nofun) (by omega) HCL.out) HSLX.out).mono ?_
            rintro e w2 ⟨rfl, hg2⟩
            have hfe : farC (codes.take k2) cs ≤ k2 + nn := by
              have := farD_le (a := codes.take k2) (b := cs) (i := (codes.take k2).length) (k := cs.length) (Nat.le_refl _) (Nat.le_refl _)
              rw [farD_far, htl, HNN.out] at this; exact this
            obtain ⟨d, hd⟩ : ∃ d, farC (codes.take k2) cs = d := ⟨_, rfl⟩
            rw [hd] at hfe ⊢
            have HD := Lib.hid hd
            have HG2 := Lib.hid (grownBy_trans HGX.out hg2 nofun)
            have HG2r := Lib.hid hg2
            clear hd hg2 htl
            rcases Nat.lt_or_ge mo d with hfar | hnear
            · have hb3 : (mo : Int) < (d : Int) := by omega
              have hmore : ∀ k', k' < k2 + 1 → mo < farC (codes.take k') cs := fun k' hk' => by
                rcases Nat.lt_or_ge k' k2 with h1 | h1
                · exact HFAR.out k' h1
                · rw [show k' = k2 by omega, HD.out]; exact hfar
              have HMORE := Lib.hid hmore
              clear hmore
              have HSL2 := Lib.hid (HSLX.out.kept (show wr.grownBy w2 none from HG2r.out) nofun)
              rcases Nat.eq_zero_or_pos k2 with hk0 | hk0
              · have hk0i : (k2 : Int) ≤ 0 := by omega
                go_upto_region 14 with (fail)
                go_wp2_with fail
                go_roundw
                case rel => exact ⟨k2 + 1, by omega, by go_num, HMORE.out, HG2.out, HSL2.out⟩
                case measure => first | (simp [intOf]; done) | (simp [intOf]; omega)
              · have hk0i : (0 : Int) < (k2 : Int) := by omega
                rcases Nat.lt_or_ge k2 nc with hkn | hkn
                · have hkni : (k2 : Int) < (nc : Int) := by omega
                  obtain ⟨qb, qo, eC, hcc2⟩ := int_cell (HC.out.kept HG2.out nofun) HCL.out (by omega)
                  cases eC
                  have hck := hcc2 k2 hkn
                  obtain ⟨ck, hcke⟩ : ∃ ck, codes.getD k2 0 = ck := ⟨_, rfl⟩
                  rw [hcke] at hck
                  obtain ⟨k1, hk1⟩ : ∃ k1, k2 - 1 = k1 := ⟨_, rfl⟩
                  have ik1 : (k2 : Int) - 1 = (k1 : Int) := by omega
                  have wk1 : IntKind.i64.wrap (k1 : Int) = (k1 : Int) := by rw [IntKind.wrap_i64]; omega
                  have lk1 : (k1 : Int) ≤ (cc : Int) := by omega
                  have hslk : ∀ u, w2.grownBy u none → Sl u 1 (some ⟨qb, qo, none⟩) k1 (intCells (codes.take k1)) := fun u hu => (sl_take (HC.out.kept HG2.out nofun) (by omega) HCL.out).kept hu nofun
                  have hlit : ∀ u : World, Sl (u.alloc (.cells #[.int .i64 ck] 3)) 1 (some ⟨u.heap.size, 0, none⟩) 1 [.int .i64 ck] := fun u => Sl.of_own (World.ownsRow_lit (base := 0) (size := 1) (e := 3) u #[.int .i64 ck] 1 (Nat.zero_le _) (by decide) rfl) (by intro x hx; simp at hx; subst hx; rfl)
                  have gd : w2.grownBy w2.drew none := grownBy_drew (grownBy_refl w2 none)
                  have ga := grownBy_trans gd (World.grownBy_alloc w2.drew (.cells #[.int .i64 ck] 3) none) nofun
                  have cA := ga.cell (a := ⟨qb, qo + k2, none⟩) hck nofun
                  have HLIT := Lib.hid hlit
                  have HSLK := Lib.hid hslk
                  have GA := Lib.hid ga
                  have GD := Lib.hid gd
                  clear hcc2 hcke hlit hslk ga gd
                  go_upto_region 14 with (fail)
                  go_wp2_with fail
                  go_region_law
                    (first
                      | (refine step_append_sl _ (by rfl) _ _ 28 (by rfl) w2.heap.size 3 i0 _ 1 8 Tryd.underlying28 HI.out.1 HI.out.2.1 HI.out.2.2.1 HI.out.2.2.2 rfl (by decide) (.slice none 0 0) 0 [] (by rfl) (World.ownsRow_nil _ _ _ _) (some ⟨qb, qo, none⟩) k1 cc _ (by rfl) (HSLK.out _ GD.out) (by unfold maxLen; omega) (by omega) (by simp) ?_; intro v3 w3 hap3; have e3 := hap3.2.1.cell (a := ⟨qb, qo + k2, none⟩) hck nofun; have gx3 := Lib.hid (grownBy_trans GD.out hap3.2.1 nofun); have ow3 := Lib.hid (ownsRow_kept hap3.1 (World.grownBy_alloc w3 (.cells #[.int .i64 ck] 3) none) (own_none _)); have lt3 := Lib.hid (HLIT.out w3); have e3a := (World.grownBy_alloc w3 (.cells #[.int .i64 ck] 3) none).cell (a := ⟨qb, qo + k2, none⟩) e3 nofun; have sz3 := hap3.2.1.size; clear hap3)
                      | (refine step_append_sl _ (by rfl) _ _ 28 (by rfl) w2.heap.size 3 i0 _ 1 8 Tryd.underlying28 HI.out.1 HI.out.2.1 HI.out.2.2.1 HI.out.2.2.2 rfl (by decide) (.slice none 0 0) 0 [] (by rfl) (World.ownsRow_nil _ _ _ _) (some ⟨qb, qo, none⟩) k1 cc _ (by rfl) (HSLK.out _ GA.out) (by unfold maxLen; omega) (by omega) (by simp) ?_; intro v4 w4 hap4; have e4 := hap4.2.1.cell (a := ⟨qb, qo + k2, none⟩) cA nofun; have gx4 := Lib.hid (grownBy_trans GA.out hap4.2.1 nofun); have ow4 := Lib.hid hap4.1; have lt4 := Lib.hid ((HLIT.out w2.drew).kept hap4.2.1 nofun); have sz4 := hap4.2.1.size; clear hap4)
                      | (refine step_append_sl _ (by rfl) _ _ 28 (by rfl) w2.heap.size 3 i0 _ 1 8 Tryd.underlying28 HI.out.1 HI.out.2.1 HI.out.2.2.1 HI.out.2.2.2 rfl (by decide) _ _ _ (by rfl) ow3.out (some ⟨w3.heap.size, 0, none⟩) 1 1 _ (by rfl) lt3.out (by unfold maxLen; omega) (by omega) (by simp at *; omega) ?_; intro v5 w5 hap5; have gx5 := Lib.hid (grownBy_trans (grownBy_trans gx3.out (World.grownBy_alloc w3 (.cells #[.int .i64 ck] 3) none) nofun) hap5.2.1 (fun l hl => .inr (ow3.out.lt l hl).1)); have ow5 := Lib.hid hap5.1; clear hap5)
                      | (refine step_append_sl _ (by rfl) _ _ 28 (by rfl) w2.heap.size 3 i0 _ 1 8 Tryd.underlying28 HI.out.1 HI.out.2.1 HI.out.2.2.1 HI.out.2.2.2 rfl (by decide) _ _ _ (by rfl) ow4.out (some ⟨w2.heap.size, 0, none⟩) 1 1 _ (by rfl) lt4.out (by unfold maxLen; omega) (by omega) (by simp at *; omega) ?_; intro v5 w5 hap5; have gx5 := Lib.hid (grownBy_trans gx4.out hap5.2.1 (fun l hl => .inr (ow4.out.lt l hl).1)); have ow5 := Lib.hid hap5.1; clear hap5))
                  all_goals
                    have hcl2 : (codes.take k1 ++ [ck]).length = k2 := by rw [List.length_append, List.length_take, HCL.out]; simp; omega
                    obtain ⟨q5, c5, rfl, _⟩ := own_form ow5.out (by omega)
                    have hsl5 := Sl.of_own ow5.out (fun x hx => by
                      rcases List.mem_append.1 hx with hx | hx
                      · simp only [List.nil_append] at hx
                        obtain ⟨d, _, rfl⟩ := List.mem_map.1 hx; rfl
                      · simp at hx; subst hx; rfl)
                    have e5 : [] ++ intCells (codes.take k1) ++ [Value.int .i64 ck] = intCells (codes.take k1 ++ [ck]) := by simp [intCells]
                    rw [e5, show 0 + k1 + 1 = k2 by omega] at hsl5
                    rw [show 0 + k1 + 1 = k2 by omega]
                    have HSL5 := Lib.hid hsl5
                    have HG5 := Lib.hid (grownBy_trans HG2.out gx5.out nofun)
                    have HCL2 := Lib.hid hcl2
                    clear hsl5 e5 hcl2
                    go_wp2_with fail
                    refine (far_walk (codes.take k1 ++ [ck]) cs (some ⟨q5, 0, none⟩) B k2 nn c5 cb w5 HCL2.out HNN.out (by omega) (by omega) HSL5.out (HSL2.out.kept gx5.out nofun)).mono ?_
                    rintro e w6 ⟨rfl, hg6⟩
                    have hfe2 : farC (codes.take k1 ++ [ck]) cs ≤ k2 + nn := by
                      have := farD_le (a := codes.take k1 ++ [ck]) (b := cs) (i := (codes.take k1 ++ [ck]).length) (k := cs.length) (Nat.le_refl _) (Nat.le_refl _)
                      rw [farD_far, HCL2.out, HNN.out] at this; exact this
                    obtain ⟨d2, hd2⟩ : ∃ d2, farC (codes.take k1 ++ [ck]) cs = d2 := ⟨_, rfl⟩
                    rw [hd2] at hfe2 ⊢
                    have HG6 := Lib.hid (grownBy_trans HG5.out hg6 nofun)
                    have HSL6 := Lib.hid ((HSL2.out.kept gx5.out nofun).kept hg6 nofun)
                    clear hd2 hg6
                    rcases Nat.lt_or_ge mo (d2 + 1) with hf2 | hf2
                    · have hf2i : (mo : Int) < (d2 : Int) + 1 := by omega
                      go_wp2_with fail
                      go_roundw
                      case rel => exact ⟨k2 + 1, by omega, by go_num, HMORE.out, HG6.out, HSL6.out⟩
                      case measure => first | (simp [intOf]; done) | (simp [intOf]; omega)
                    · have hf2i : (d2 : Int) + 1 ≤ (mo : Int) := by omega
                      go_wp2_with fail
                      go_ret
                      exact ⟨true, rfl, fun _ => rfl, HG6.out⟩
                · have hkni : (nc : Int) ≤ (k2 : Int) := by omega
                  go_upto_region 14 with (fail)
                  go_wp2_with fail
                  go_roundw
                  case rel => exact ⟨k2 + 1, by omega, by go_num, HMORE.out, HG2.out, HSL2.out⟩
                  case measure => first | (simp [intOf]; done) | (simp [intOf]; omega)
            · have hb3 : (d : Int) ≤ (mo : Int) := by omega
              go_wp2_with fail
              go_ret
              exact ⟨true, rfl, fun _ => rfl, HG2.out⟩
          · obtain rfl : k2 = nc + 1 := by omega
            have hno : hopeS codes mo head = false := by
              unfold hopeS
              rw [HSOME.out]
              simp only
              unfold hopeC
              rw [List.any_eq_false]
              intro k' hk'
              rw [List.mem_range, HCL.out] at hk'
              have := hfar k' hk'
              simp; omega
            have HNO := Lib.hid hno
            clear hno hfar
            go_wp2_with fail
            go_ret
            exact ⟨false, rfl, fun h => (by rw [HNO.out] at h; cases h), hgx⟩
    · have hne : h ≠ [] := by
        intro e
        rw [e] at hcs
        cases hcs
      have hlp : 1 ≤ h.length := by rcases Nat.eq_zero_or_pos h.length with h0 | h0; exact absurd (List.eq_nil_of_length_eq_zero h0) hne; exact h0
      rcases Nat.lt_or_ge k 3 with h3 | h3
      · have h3i : (k : Int) < 3 := by omega
        have hnx := cutB_next (n := 2 - k) hcs hne
        rw [show 2 - k + 1 = 3 - k by omega, HCB.out] at hnx
        have HNX := Lib.hid hnx
        obtain ⟨L, hL⟩ : ∃ L, h.length = L := ⟨_, rfl⟩
        have hsz := size_wd h
        rw [hL] at hsz hlp hhl
        have hex : (⟨h.toArray⟩ : ByteArray).extract 0 (L - 1) = ⟨h.dropLast.toArray⟩ := by
          apply ByteArray.ext
          simp [ByteArray.data_extract, List.dropLast_eq_take, hL]
        have hLi : (L : Int) - 1 = ((L - 1 : Nat) : Int) := by omega
        obtain ⟨M, hM⟩ : ∃ M, L - 1 = M := ⟨_, rfl⟩
        rw [hM] at hex hLi
        have hML : (M : Int) ≤ (L : Int) := by omega
        have hMw : IntKind.i64.wrap (M : Int) = (M : Int) := by rw [IntKind.wrap_i64]; omega
        have hLp : (0 : Int) < (L : Int) := by omega
        have HL := Lib.hid hL
        have HM := Lib.hid hM
        clear hnx hcs hne hL hM
        go_wp2_with fail
        have hdl : h.dropLast.length ≤ 900 := by rw [List.length_dropLast, HL.out]; omega
        refine (codes_walk h.dropLast wr (by omega)).mono ?_
        rintro e w2 hr
        obtain ⟨hg2, v2, ok2, rfl, hcut2⟩ := hr.cut
        have HG2 := Lib.hid hg2
        have HCUT2 := Lib.hid hcut2
        clear hr hg2 hcut2
        go_wp2_with fail
        go_roundw
        case rel => exact ⟨k + 1, h.dropLast, ok2, by omega, by go_num, by first | rfl | trivial, by first | rfl | trivial, hdl, by rw [show 3 - (k + 1) = 2 - k by omega]; exact HNX.out.symm, HCUT2.out, grownBy_trans HG.out HG2.out nofun⟩
        case measure => first | (simp [intOf]; done) | (simp [intOf]; omega)
      · obtain rfl : k = 3 := by omega
        have hnone : cutB 3 head = none := by rw [← HCB.out]; exact hcs
        clear hcs
        go_wp2_with fail
        go_ret
        exact ⟨true, rfl, fun _ => rfl, HG.out⟩
end Go.Proofs.YtgcaenckjelijaaDoor
