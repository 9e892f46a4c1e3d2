/-
  The law SuggestAll: the walk. Conditions: unicode/utf8's two tables as they are laid.
-/
import Derived.Test.YtdcdhcgfhapbnaaDoorSgL
namespace Go.Proofs.YtdcdhcgfhapbnaaDoor.Sg
open Go Go.RowKit Go.Maps

def okL (s : Wd) : Bool := decide (s.length ≤ 20)
def fewL (ss : List Wd) : Bool := (ss.take 40).all okL && decide (ss.length ≤ 40)

theorem fewL_ok {ss : List Wd} (h : fewL ss = true) : ss.length ≤ 40 ∧ ∀ s ∈ ss, s.length ≤ 20 := by
  unfold fewL at h
  rw [Bool.and_eq_true] at h
  have hl := of_decide_eq_true h.2
  rw [List.take_of_length_le hl] at h
  exact ⟨hl, fun s hs => of_decide_eq_true (List.all_eq_true.1 h.1 s hs)⟩

set_option maxRecDepth 100000 in
set_option maxHeartbeats 1000000 in
theorem few19_walk (ss : List Wd) (A : Option Addr) (n c : Nat) (w : World) (hn : ss.length = n) (h : Sl w 1 A n (strCells ss)) : Calls Tryd.prog 8 #[.slice A n c] w fun e w' => e = .returned (.bool (fewL ss)) ∧ w' = w := by
  have H := Lib.hid h
  have HN := Lib.hid hn
  clear h hn
  go_enter Tryd.func8, Tryd.ntmps8
  go_wp2_with fail
  go_loopw [3] (fun iv wr => ∃ i : Nat, i ≤ n ∧ i ≤ 40 ∧ iv = .int .i64 i ∧ wr = w ∧ (ss.take i).all okL = true) (fun iv _ => 40 - (intOf iv).toNat)
  case atStart => exact ⟨0, Nat.zero_le _, Nat.zero_le _, rfl, rfl, by simp⟩
  case round =>
    obtain ⟨i, hi, hi40, rfl, rfl, hok⟩ := hrel
    by_cases hend : i = n ∨ i = 40
    · have hres : fewL ss = decide (n ≤ 40) := by
        unfold fewL
        rw [HN.out]
        have : (ss.take 40).all okL = true := by
          rcases hend with e | e
          · rw [e, List.take_of_length_le (by rw [HN.out]; exact Nat.le_refl _)] at hok
            exact List.all_eq_true.2 (fun x hx => List.all_eq_true.1 hok x (List.mem_of_mem_take hx))
          · rw [e] at hok; exact hok
        rw [this, Bool.true_and]
      have HRES := Lib.hid hres
      have hd : decide ((n : Int) ≤ 40) = decide (n ≤ 40) := by rw [Bool.eq_iff_iff, decide_eq_true_iff, decide_eq_true_iff]; omega
      have HD := Lib.hid hd
      clear hres hd
      by_cases hin : i = n
      · subst hin
        go_wp2_with fail
        go_ret
        refine ⟨?_, rfl⟩
        rw [HRES.out, ← HD.out]; rfl
      · obtain rfl : i = 40 := by omega
        go_wp2_with fail
        go_ret
        refine ⟨?_, rfl⟩
        rw [HRES.out, ← HD.out]; rfl
    · obtain ⟨s, hs⟩ : ∃ s, ss[i]? = some s := ⟨_, List.getElem?_eq_getElem (by have := HN.out; omega)⟩
      obtain ⟨q, o, rfl, hc⟩ := H.out.str hs
      obtain ⟨g1, g2⟩ := all_take (p := okL) hs hok
      have hss : (⟨s.toArray⟩ : ByteArray).size = s.length := by simp [ByteArray.size]
      have hin : i < n := by omega
      have hi4 : i < 40 := by omega
      have hbad : okL s = false → fewL ss = false := fun e => by unfold fewL; rw [g2 40 hi4 e]; rfl
      have HBAD := Lib.hid hbad
      clear hbad hs
      by_cases hlong : 20 < s.length
      · go_wp2_with fail
        go_ret
        refine ⟨?_, rfl⟩
        rw [HBAD.out (by unfold okL; rw [decide_eq_false (by omega)])]; rfl
      · have hg := g1 (by unfold okL; rw [decide_eq_true (by omega)])
        have HG := Lib.hid hg
        clear hg
        go_wp2_with fail
        go_roundw
        case rel => exact ⟨i + 1, by omega, by omega, by go_num, by first | rfl | trivial, HG.out⟩
        case measure => simp [intOf]; omega

theorem putAll_len (ss : List Wd) : (putAll ss).length ≤ ss.length := by
  have key : ∀ (ss L : List Wd), (ss.foldl (fun L x => insU x L) L).length ≤ L.length + ss.length := by
    intro ss
    induction ss with
    | nil => exact fun L => Nat.le_refl _
    | cons x ss ih =>
      intro L
      have h1 := ih (insU x L)
      have h2 := insU_len x L
      rw [List.foldl_cons, List.length_cons]
      omega
  have := key ss []
  simpa [putAll] using this

theorem ansT_len (V more : List Wd) (word : Wd) (K : Int) : (ansT V more word K).1.length ≤ 10 := by
  unfold ansT
  split
  · simp
  · split
    · simp
    · split
      · simp
      · unfold topR topN
        rw [List.length_take]
        omega

/-- A dictionary of words, none of them too long: built. -/
theorem built_few {ss : List Wd} (hn : ss.length ≤ 100) (hx : ∀ x ∈ ss, x.length ≤ 100) {V : List Wd} (hV : canon ss = V) {r : Nat × List DSt} (hr : buildS 201 V [] = r) : Built V r ∧ tooBig V = false ∧ putAll ss = V ∧ V.length ≤ ss.length ∧ ∀ x ∈ V, x.length ≤ 100 := by
  have hcp := canon_putAll ss
  rw [hV] at hcp
  have hVx : ∀ x ∈ V, x.length ≤ 100 := fun x h => hx x (by rw [← hV] at h; exact mem_canon.1 h)
  have hVl : V.length ≤ ss.length := by
    rw [hcp]
    exact putAll_len ss
  refine ⟨⟨by rw [← hV]; exact canon_rise ss, by omega, hVx, hr⟩, ?_, hcp.symm, hVl, hVx⟩
  unfold tooBig
  rw [Bool.or_eq_false_iff]
  refine ⟨decide_eq_false (by omega), List.any_eq_false.2 (fun x hx => ?_)⟩
  have := hVx x hx
  unfold isLong; simp; omega

set_option maxRecDepth 100000 in
set_option maxHeartbeats 4000000 in
theorem suggestall_walk (ss more : List Wd) (word : Wd) (k : Int) (A MA : Option Addr) (n c mn mc : Nat) (w : World) (hn : ss.length = n) (hA : Sl w 1 A n (strCells ss)) (hmn : more.length = mn) (hM : Sl w 1 MA mn (strCells more))
    (hT : Lib.Utf8Tabs 0 1 w) : Calls Tryd.prog 3 #[.slice A n c, .slice MA mn mc, .string ⟨word.toArray⟩, .int .i64 k] w (TrueRes w) := by
  obtain ⟨i1, hi1, hy0, hy1, hy2⟩ := info_parts str_info
  have hsz := size_wd word
  have HA := Lib.hid hA
  have HN := Lib.hid hn
  have HM := Lib.hid hM
  have HMN := Lib.hid hmn
  have HT := Lib.hid hT
  have HAW := Lib.hid (fun (wx : World) (g : w.grownBy wx none) => awake19_walk wx (tabs_kept hT g))
  clear hA hn hM hmn hT
  go_enter Tryd.func3, Tryd.ntmps3
  go_wp2_with fail
  refine (few19_walk ss A n c w HN.out HA.out).mono ?_
  rintro e w1 ⟨rfl, e1⟩
  have e1 := e1.symm
  subst e1
  cases hf : fewL ss
  · go_wp2_with fail
    refine (HAW.out _ (grownBy_refl _ _)).mono ?_
    rintro e w2 ⟨rfl, hg⟩
    have HG := Lib.hid hg
    clear hg
    go_wp2_with fail
    go_ret
    exact ⟨rfl, HG.out⟩
  · obtain ⟨f1, f2⟩ := fewL_ok hf
    rw [HN.out] at f1
    have F2 := Lib.hid f2
    clear f2 hf
    go_wp2_with fail
    refine (few19_walk more MA mn mc _ HMN.out HM.out).mono ?_
    rintro e w1 ⟨rfl, e1⟩
    have e1 := e1.symm
    subst e1
    cases hf2 : fewL more
    · go_wp2_with fail
      refine (HAW.out _ (grownBy_refl _ _)).mono ?_
      rintro e w2 ⟨rfl, hg⟩
      have HG := Lib.hid hg
      clear hg
      go_wp2_with fail
      go_ret
      exact ⟨rfl, HG.out⟩
    · obtain ⟨f3, f4⟩ := fewL_ok hf2
      rw [HMN.out] at f3
      have F4 := Lib.hid f4
      clear f4 hf2
      by_cases hwl : 150 < word.length
      · have hwb : (150 : Int) < (word.length : Int) := by omega
        go_wp2_with fail
        refine (HAW.out _ (grownBy_refl _ _)).mono ?_
        rintro e w2 ⟨rfl, hg⟩
        have HG := Lib.hid hg
        clear hg
        go_wp2_with fail
        go_ret
        exact ⟨rfl, HG.out⟩
      · have hwb : ¬ (150 : Int) < (word.length : Int) := by omega
        have hwl2 : word.length ≤ 150 := by omega
        clear hwl
        obtain ⟨V, hV⟩ : ∃ V, canon ss = V := ⟨_, rfl⟩
        obtain ⟨r, hr⟩ : ∃ r, buildS 201 V [] = r := ⟨_, rfl⟩
        obtain ⟨b1, b2, b3, b4, b5⟩ := built_few (ss := ss) (by rw [HN.out]; omega) (fun x hx => by have := F2.out x hx; omega) hV hr
        have HV := Lib.hid hV
        have HR := Lib.hid hr
        have HB1 := Lib.hid b1
        have HB2 := Lib.hid b2
        have HB3 := Lib.hid b3
        have HB5 := Lib.hid b5
        have HVL := Lib.hid (show V.length ≤ 40 by have := HN.out; omega)
        clear hV hr b1 b2 b3 b4 b5
        go_wp2_with (at_builtin; refine wpList_append_sl _ rfl (.const (.slice none 0 0)) (.tmp 30) 22 rfl w.heap.size 9 i1 _ 1 16 Tryd.underlying22 hi1 hy0 hy1 hy2 rfl (by decide) (.slice none 0 0) 0 [] rfl (World.ownsRow_nil _ _ _ _) A n c (strCells ss) rfl HA.out (by unfold maxLen; omega) (by omega) (Nat.le_refl _) ?_)
        rintro v' w' ⟨hown', hg', hat⟩
        obtain ⟨A3, c3, rfl⟩ := own_slice hown'
        have hg : w.grownBy w' none := hg'
        have HW := Lib.hid (words_own hown' (by omega))
        have HG := Lib.hid hg
        clear hown' hg' hat hg
        go_wp2_with fail
        refine (build_walk ss A3 n c3 w' HW.out).mono ?_
        rintro e w2 hb
        obtain ⟨hg2, B, M, lv, rfl, hB, hbd⟩ := build_ok hb HV.out HB2.out HR.out
        have H := Lib.hid hbd
        have HG2 := Lib.hid (grownBy_trans HG.out hg2 nofun)
        have hsz2 := (grownBy_trans HG.out hg2 nofun).size
        clear hbd hb hg2 HW hB
        go_upto_region 6 with (fail)
        go_wp2_with (at_builtin; refine wpList_append_sl _ rfl (.const (.slice none 0 0)) (.tmp 43) 22 rfl w2.heap.size 9 i1 _ 1 16 Tryd.underlying22 hi1 hy0 hy1 hy2 rfl (by decide) (.slice none 0 0) 0 [] rfl (World.ownsRow_nil _ _ _ _) MA mn mc (strCells more) rfl (HM.out.kept HG2.out nofun) (by unfold maxLen; omega) (by omega) (Nat.le_refl _) ?_)
        rintro v' w3 ⟨hown3, hg3', hat⟩
        obtain ⟨A4, c4, rfl⟩ := own_slice hown3
        have hg3 : w2.grownBy w3 none := hg3'
        have hm4 : Sl w3 1 A4 mn (strCells more) := Sl.of_own hown3 (strCells_one' more)
        have hT1 := top_built HB1.out (H.out.kept hg3) more word k A4 mn c4 HMN.out (by omega) hm4 (fun t ht => by have := F4.out t ht; omega) (by omega) (tabs_kept HT.out (grownBy_trans HG2.out hg3 nofun))
        have HT1 := Lib.hid hT1
        have HG3 := Lib.hid (grownBy_trans HG2.out hg3 nofun)
        clear hown3 hg3' hat hg3 hm4 hT1 H
        go_wp2_with fail
        refine HT1.out.mono ?_
        rintro e w4 ⟨A5, c5, rfl, hs5, hg4⟩
        have HS5 := Lib.hid hs5
        have HG4 := Lib.hid (grownBy_trans HG3.out hg4 nofun)
        clear hs5 hg4 HT1
        have hso := sorted_walk ss A n c w4 HN.out (by omega) (HA.out.kept HG4.out nofun)
        have HSO := Lib.hid hso
        clear hso
        go_wp2_with fail
        refine HSO.out.mono ?_
        rintro e w5 ⟨A6, n6, c6, rfl, hl6, hnc6, hn6, hs6, hg5⟩
        rw [HB3.out] at hl6 hs6
        have HG5 := Lib.hid (grownBy_trans HG4.out hg5 nofun)
        have HS55 := Lib.hid (HS5.out.kept hg5 nofun)
        have hrf := topr_walk V more word k A6 MA n6 c6 mn mc w5 hl6 (by have := HVL.out; omega) hs6 (fun t ht => by have := HB5.out t ht; omega) HMN.out (by omega) (HM.out.kept HG5.out nofun) (fun t ht => by have := F4.out t ht; omega) (by omega)
        have HRF := Lib.hid (hrf.mono fun e w' h => TopRRes.ans h)
        clear hl6 hs6 hg5 hrf HSO hn6 hnc6
        go_wp2_with fail
        refine HRF.out.mono ?_
        rintro e w6 ⟨A7, c7, rfl, hs7, hg6⟩
        have HG6 := Lib.hid (grownBy_trans HG5.out hg6 nofun)
        have hs56 := HS55.out.kept hg6 nofun
        have hal := ansT_len V more word k
        obtain ⟨l8, hl8⟩ : ∃ l8, (ansT V more word k).1 = l8 := ⟨_, rfl⟩
        obtain ⟨z8, hz8⟩ : ∃ z8, (ansT V more word k).2 = z8 := ⟨_, rfl⟩
        rw [hl8] at hs7 hs56 hal ⊢
        rw [hz8]
        rw [rowO_off] at hs7 hs56
        have hsm := same18_walk l8 A5 A7 l8.length c5 c7 w6 rfl (by omega) hs56 hs7
        have HSM := Lib.hid hsm
        have hzz : (z8 == z8) = true := by simp
        clear hs7 hg6 hs56 hsm hl8 hz8 hal HRF HS55 HS5
        go_wp2_with fail
        refine HSM.out.mono ?_
        rintro e w7 ⟨rfl, hg7⟩
        have HG7 := Lib.hid (grownBy_trans HG6.out hg7 nofun)
        clear hg7
        go_wp2_with fail
        refine (HAW.out _ HG7.out).mono ?_
        rintro e w8 ⟨rfl, hg8⟩
        have HG8 := Lib.hid (grownBy_trans HG7.out hg8 nofun)
        clear hg8
        go_wp2_with fail
        go_ret
        exact ⟨rfl, HG8.out⟩
end Go.Proofs.YtdcdhcgfhapbnaaDoor.Sg
