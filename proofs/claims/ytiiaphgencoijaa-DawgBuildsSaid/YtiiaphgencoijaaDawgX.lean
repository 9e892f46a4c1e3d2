/-
  Layer 15's law DawgOrder: the walk. Every list of words, every number.
-/
import Derived.Test.YtiiaphgencoijaaDawgE
namespace Go.Proofs.Ytiiaphgencoijaa
open Go Go.RowKit Go.Maps

theorem strCells_app (a b : List Wd) : strCells (a ++ b) = strCells a ++ strCells b := by simp [strCells]

theorem few_big {ss : List Wd} (hf : fewS ss = true) : tooBig (canon ss) = false := by
  obtain ⟨h1, h2⟩ := few_ok hf
  unfold tooBig
  rw [Bool.or_eq_false_iff]
  refine ⟨decide_eq_false ?_, List.any_eq_false.2 fun x hx => ?_⟩
  · have := Lib.compact_length_le (sortW ss)
    rw [sortW_len] at this
    unfold canon; omega
  · have := (h2 x (mem_canon.1 hx)).1
    unfold isLong; simp; omega

set_option maxRecDepth 100000 in
set_option maxHeartbeats 4000000 in
theorem order_walk (ss : List Wd) (A : Option Addr) (n c : Nat) (a1 : Int) (w : World) (hn : ss.length = n) (hnc : n ≤ c) (h : Sl w 1 A n (strCells ss)) :
    Calls Try.prog 10 #[.slice A n c, .int .i64 a1] w (TrueRes w) := by
  obtain ⟨i0, hi, hz0, hz1, hz2⟩ := info_parts str_info
  have H := Lib.hid h
  have HN := Lib.hid hn
  clear h hn
  go_enter Try.func10, Try.ntmps10
  go_wp2_with fail
  refine (few_walk ss A n c w HN.out H.out).mono ?_
  rintro e w' ⟨rfl, rfl⟩
  by_cases hgo : fewS ss = true ∧ 0 < n
  · obtain ⟨hf, h0⟩ := hgo
    obtain ⟨hl40, hsh⟩ := few_ok hf
    have hn40 : n ≤ 40 := by have := HN.out; omega
    rw [hf]
    have hz : ((n : Int) == 0) = false := by rw [beq_eq_false_iff_ne]; omega
    have hz' : ¬ n = 0 := by omega
    go_wp2_with fail
    refine (place_any a1 n w' (by omega) (by omega)).mono ?_
    rintro e w'' ⟨rfl, rfl⟩
    obtain ⟨k, hk⟩ : ∃ k : Nat, a1 % (n : Int) = k := ⟨(a1 % (n : Int)).toNat, by have := Int.emod_nonneg a1 (show (n : Int) ≠ 0 by omega); omega⟩
    have hkn : k < n := by have := Int.emod_lt_of_pos a1 (show (0 : Int) < n by omega); omega
    rw [hk]
    have HK := Lib.hid hk
    clear hk
    obtain ⟨q, o, rfl, hcq⟩ := H.out.2.2 h0
    have HF := Lib.hid hf
    have HSH := Lib.hid hsh
    clear hcq hf hsh hl40
    go_wp2_with (at_builtin; refine wpList_append_sl _ rfl (.const (.slice none 0 0)) (.tmp 24) 44 rfl w'.heap.size 9 i0 _ 1 16 Try.underlying44 hi hz0 hz1 hz2 rfl (by decide) (.slice none 0 0) 0 _ rfl (World.ownsRow_nil _ _ _ _) (some ⟨q, o, none⟩) n c _ rfl H.out (by unfold maxLen; omega) (by omega) (Nat.le_refl _) ?_)
    rintro v0 w0 ⟨hown0, hg0, hat0⟩
    obtain ⟨A0, c0, rfl⟩ := own_slice hown0
    have eV := few_big HF.out
    obtain ⟨r, hr⟩ : ∃ r, buildS 201 (canon ss) [] = r := ⟨_, rfl⟩
    have HV := Lib.hid eV
    have HR := Lib.hid hr
    have hw0 := words_own (ss := ss) hown0 (by omega)
    have HW0 := Lib.hid hw0
    have hg0' : w'.grownBy w0 none := hg0
    have HG0 := Lib.hid hg0'
    clear eV hr hw0 hown0 hg0 hg0' hat0
    go_wp2_with fail
    refine (build_walk ss A0 n c0 w0 HW0.out).mono ?_
    rintro e w1 hb
    obtain ⟨hg, B, M, lv, rfl, hB, hbd⟩ := build_ok hb rfl HV.out HR.out
    have hg1 := grownBy_trans HG0.out hg nofun
    have HBD := Lib.hid hbd
    have HG1 := Lib.hid hg1
    have hs1 := H.out.kept hg1 nofun
    have HS1 := Lib.hid hs1
    clear hbd hb hg hg1 hs1
    have hck : ¬ c = k := by omega
    have hkc : k ≤ c := by omega
    have hW1 : WordsAt w1 (fun _ => False) (some ⟨q, o, none⟩) n c ss := ⟨HN.out, hnc, by omega, HS1.out, fun _ h => h.elim⟩
    have hd1 := hW1.cut (k := k) (by omega) (A' := some ⟨q, o + k, none⟩) (c' := c - k) (by omega) (fun _ => rfl)
    have ht1 := hW1.take (k := k) (by omega)
    have HD1 := Lib.hid hd1.2.2.2.1
    have HT1 := Lib.hid ht1.2.2.2.1
    have hdl : (ss.drop k).length = n - k := by rw [List.length_drop, HN.out]
    have hnil := Lib.hid (World.ownsRow_nil w1 w1.heap.size 9 1)
    have hkn2 : k ≤ n := by omega
    have hcan : canon (ss.drop k ++ ss ++ ss.take k) = canon ss := canon_of_rise (canon_rise ss) (fun x => by
      rw [mem_canon, List.mem_append, List.mem_append]
      constructor
      · exact fun h => .inl (.inr h)
      · rintro ((h | h) | h)
        · exact List.mem_of_mem_drop h
        · exact h
        · exact List.mem_of_mem_take h)
    have HCAN := Lib.hid hcan
    have hq1 : q < w1.heap.size := by
      obtain ⟨a, ha, hlt⟩ := H.out.lt (by decide) h0
      cases ha
      have := HG1.out.size
      simp only at hlt
      omega
    clear hW1 hd1 ht1 hdl hcan
    go_wp2_with fail
    go_region_law
      (first
        | (refine step_append_sl _ (by rfl) _ _ 44 (by rfl) w1.heap.size 9 i0 _ 1 16 Try.underlying44 hi hz0 hz1 hz2 rfl (by decide) (.slice none 0 0) 0 [] (by rfl) (World.ownsRow_nil _ _ _ _) (some ⟨q, o + k, none⟩) (n - k) (c - k) (strCells (ss.drop k)) (by rfl) (HD1.out.kept (grownBy_drew (grownBy_refl w1 none)) nofun) (by unfold maxLen; omega) (by omega) (by simp) ?_; intro v1 x1 hap1; rw [Nat.zero_add, List.nil_append] at hap1; obtain ⟨p1, d1, hv1, _, hp1, _⟩ := own_form hap1.1 (by omega); subst hv1; have hgx1 := grownBy_trans (grownBy_drew (grownBy_refl w1 none)) hap1.2.1 (fun i hi => by cases hi); have hl1 := Lib.hid (HS1.out.kept hgx1 nofun); have hk1 := Lib.hid (HT1.out.kept hgx1 nofun); have hz1' := hgx1.size)
        | (refine step_append_sl _ (by rfl) _ _ 44 (by rfl) w1.heap.size 9 i0 _ 1 16 Try.underlying44 hi hz0 hz1 hz2 rfl (by decide) (.slice (some ⟨p1, 0, none⟩) (n - k) d1) (n - k) _ (by rfl) hap1.1 (some ⟨q, o, none⟩) n c _ (by rfl) hl1.out (by unfold maxLen; omega) (by omega) (by omega) ?_; intro v2 x2 hap2; obtain ⟨p2, d2, hv2, _, hp2, _⟩ := own_form hap2.1 (by omega); subst hv2; have hk2 := Lib.hid (hk1.out.kept hap2.2.1 (fun l hl _ a ha => by cases ha; cases hl; show q ≠ p1; omega)); have hgx2 := grownBy_trans hgx1 hap2.2.1 (fun l hl => by cases hl; exact .inr hp1); have hz2' := hgx2.size)
        | (refine step_append_sl _ (by rfl) _ _ 44 (by rfl) w1.heap.size 9 i0 _ 1 16 Try.underlying44 hi hz0 hz1 hz2 rfl (by decide) (.slice (some ⟨p2, 0, none⟩) (n - k + n) d2) (n - k + n) _ (by rfl) hap2.1 (some ⟨q, o, none⟩) k c _ (by rfl) hk2.out (by unfold maxLen; omega) (by omega) (by omega) ?_; intro v3 x3 hap3; obtain ⟨p3, d3, hv3, _, hp3, _⟩ := own_form hap3.1 (by omega); subst hv3; have hgx3 := grownBy_trans hgx2 hap3.2.1 (fun l hl => by cases hl; exact .inr hp2); have hw3 := Lib.hid (words_own (ss := ss.drop k ++ ss ++ ss.take k) (by rw [strCells_app, strCells_app]; exact hap3.1) (by omega)))
        | (go_simp; go_at_call 24; refine (build_walk (ss.drop k ++ ss ++ ss.take k) (some ⟨p3, 0, none⟩) _ d3 x3 hw3.out).mono ?_; rintro e w2 hb2; obtain ⟨hg2, B2, M2, lv2, rfl, hB2, hbd2⟩ := build_ok hb2 HCAN.out HV.out HR.out; have HBD2 := Lib.hid hbd2; have HG2 := Lib.hid (grownBy_trans hgx3 hg2 nofun); clear hbd2 hb2 hg2 hap1 hap2 hap3))
    clear hnil hl1 hk1 hk2 hgx1 hgx2 hgx3 hw3
    go_wp2_with fail
    refine (states_walk _ B M _ lv _ _ w2 (HBD.out.kept HG2.out)).mono ?_
    rintro e w3 ⟨rfl, rfl⟩
    go_wp2_with fail
    refine (states_walk _ B2 M2 _ lv2 _ _ w3 HBD2.out).mono ?_
    rintro e w4 ⟨rfl, rfl⟩
    go_wp2_with fail
    refine (start_walk _ B M _ lv _ _ w4 (HBD.out.kept HG2.out)).mono ?_
    rintro e w5 ⟨rfl, rfl⟩
    go_wp2_with fail
    obtain ⟨LL, hLL⟩ : ∃ LL, allS r.2 20 r.1 [] [] = LL := ⟨_, rfl⟩
    have HLL := Lib.hid hLL
    clear hLL
    have hlen : (allS r.2 20 r.1 [] []).length ≤ 6000 := by
      have := allS_few r.2 (fun s hs => (HBD.out.small s hs).1) 20 r.1 [] [] (by simp); omega
    refine (all_walk 20 _ B M _ lv _ r.2 w1 HBD.out r.1 [] [] none 0 0 w5.heap.size w5 HG2.out rfl (World.ownsRow_nil _ _ _ _) HG2.out.size (Nat.le_refl _) (by simp) (by decide) (by simp) 20 rfl).mono ?_
    rintro e w6 ⟨va, rfl, Aa, na, ca, rfl, hna, hoa, hga, _⟩
    have hga' : w5.grownBy w6 none := hga
    rw [HLL.out] at hna hoa
    rw [HLL.out] at hlen
    have HGA := Lib.hid hga'
    have HOA := Lib.hid hoa
    have HNA := Lib.hid hna
    clear hga hga' hoa hna
    go_wp2_with fail
    refine (start_walk _ B2 M2 _ lv2 _ _ w6 (HBD2.out.kept HGA.out)).mono ?_
    rintro e w7 ⟨rfl, rfl⟩
    go_wp2_with fail
    refine (all_walk 20 _ B2 M2 _ lv2 _ r.2 w5 HBD2.out r.1 [] [] none 0 0 w7.heap.size w7 HGA.out rfl (World.ownsRow_nil _ _ _ _) HGA.out.size (Nat.le_refl _) (by simp) (by decide) (by simp) 20 rfl).mono ?_
    rintro e w8 ⟨vb, rfl, Ab, nb, cb, rfl, hnb, hob, hgb, _⟩
    have hgb' : w7.grownBy w8 none := hgb
    rw [HLL.out] at hnb hob
    have HGB := Lib.hid hgb'
    have HOB := Lib.hid hob
    have HNB := Lib.hid hnb
    clear hgb hgb' hob hnb
    go_wp2_with fail
    refine (same_strings LL LL Aa Ab na nb ca cb w8 HNA.out HNB.out ((Sl.of_own HOA.out (strCells_one' _)).kept HGB.out nofun) (Sl.of_own HOB.out (strCells_one' _)) (by have := HNA.out; omega)).mono ?_
    rintro e w9 ⟨rfl, hg9⟩
    have HG9 := Lib.hid hg9
    clear hg9
    have hdd : decide (LL = LL) = true := by simp
    rw [hdd]
    go_wp2_with fail
    refine (awake_walk w9).mono ?_
    rintro e w10 ⟨rfl, hg10⟩
    go_wp2_with fail
    go_ret
    exact ⟨rfl, grownBy_trans (grownBy_trans (grownBy_trans (grownBy_trans (grownBy_trans HG1.out HG2.out nofun) HGA.out nofun) HGB.out nofun) HG9.out nofun) hg10 nofun⟩
  · have hgo2 : fewS ss = false ∨ n = 0 := by
      rcases hb : fewS ss with _ | _
      · exact .inl rfl
      · exact .inr (Nat.eq_zero_of_not_pos (fun h => hgo ⟨hb, h⟩))
    rcases hgo2 with hf | hf
    · rw [hf]
      go_wp2_with fail
      refine (awake_walk w').mono ?_
      rintro e w4 ⟨rfl, hg5⟩
      go_wp2_with fail
      go_ret
      exact ⟨rfl, hg5⟩
    · subst hf
      rcases hb : fewS ss with _ | _
      · go_wp2_with fail
        refine (awake_walk w').mono ?_
        rintro e w4 ⟨rfl, hg5⟩
        go_wp2_with fail
        go_ret
        exact ⟨rfl, hg5⟩
      · go_wp2_with fail
        refine (awake_walk w').mono ?_
        rintro e w4 ⟨rfl, hg5⟩
        go_wp2_with fail
        go_ret
        exact ⟨rfl, hg5⟩
end Go.Proofs.Ytiiaphgencoijaa
