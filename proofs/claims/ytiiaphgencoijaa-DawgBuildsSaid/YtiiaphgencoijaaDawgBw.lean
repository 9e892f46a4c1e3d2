/-
  Layer 15's law DawgBuilds: the walk. Every list of words, every word.
-/
import Derived.Test.YtiiaphgencoijaaDawgX
import Derived.Test.YtiiaphgencoijaaDawgCount
import Derived.Test.YtiiaphgencoijaaQuiet
namespace Go.Proofs.Ytiiaphgencoijaa
open Go Go.RowKit Go.Maps

theorem mem_take_succ {L : List Wd} {i : Nat} {x m : Wd} (h : L[i]? = some x) : decide (m ∈ L.take (i + 1)) = (decide (m ∈ L.take i) || (x == m)) := by
  rw [List.take_add_one, h, Bool.eq_iff_iff, decide_eq_true_iff, Bool.or_eq_true, decide_eq_true_iff, List.mem_append, beq_iff_eq]
  constructor
  · rintro (e | e)
    · exact .inl e
    · simp at e; exact .inr e.symm
  · rintro (e | e)
    · exact .inl e
    · exact .inr (by simp [e])

set_option maxRecDepth 100000 in
set_option maxHeartbeats 4000000 in
theorem builds_walk (ss : List Wd) (more : Wd) (A : Option Addr) (n c : Nat) (w : World) (hn : ss.length = n) (hnc : n ≤ c) (h : Sl w 1 A n (strCells ss)) :
    Calls Try.prog 9 #[.slice A n c, .string ⟨more.toArray⟩] w (TrueRes w) := by
  obtain ⟨i0, hi, hz0, hz1, hz2⟩ := info_parts str_info
  have H := Lib.hid h
  have HN := Lib.hid hn
  have hms : (⟨more.toArray⟩ : ByteArray).size = more.length := by simp [ByteArray.size]
  clear h hn
  go_enter Try.func9, Try.ntmps9
  go_wp2_with fail
  refine (few_walk ss A n c w HN.out H.out).mono ?_
  rintro e w' ⟨rfl, rfl⟩
  by_cases hgo : fewS ss = true ∧ more.length ≤ 40
  · obtain ⟨hf, h0⟩ := hgo
    obtain ⟨hl40, hsh⟩ := few_ok hf
    have hn40 : n ≤ 40 := by have := HN.out; omega
    rw [hf]
    have hm40 : ¬ 40 < more.length := by omega
    have HF := Lib.hid hf
    have HSH := Lib.hid hsh
    clear hf hsh hl40
    go_wp2_with (at_builtin; refine wpList_append_sl _ rfl (.const (.slice none 0 0)) (.tmp 20) 44 rfl w'.heap.size 9 i0 _ 1 16 Try.underlying44 hi hz0 hz1 hz2 rfl (by decide) (.slice none 0 0) 0 _ rfl (World.ownsRow_nil _ _ _ _) A n c _ rfl H.out (by unfold maxLen; omega) (by omega) (Nat.le_refl _) ?_)
    rintro v0 w0 ⟨hown0, hg0, hat0⟩
    obtain ⟨A0, c0, rfl⟩ := own_slice hown0
    have eV := few_big HF.out
    obtain ⟨r, hr⟩ : ∃ r, buildS 201 (canon ss) [] = r := ⟨_, rfl⟩
    have HV := Lib.hid eV
    have HR := Lib.hid hr
    have hw0 := words_own (ss := ss) hown0 (by omega)
    have HW0 := Lib.hid hw0
    have hg0' : w'.grownBy w0 none := hg0
    have HG0 := Lib.hid hg0'
    clear eV hr hw0 hown0 hg0 hg0' hat0
    go_wp2_with fail
    refine (build_walk ss A0 n c0 w0 HW0.out).mono ?_
    rintro e w1 hb
    obtain ⟨hg, B, M, lv, rfl, hB, hbd⟩ := build_ok hb rfl HV.out HR.out
    have hg1 := grownBy_trans HG0.out hg nofun
    have HBD := Lib.hid hbd
    have HG1 := Lib.hid hg1
    clear hbd hb hg hg1
    go_wp2_with fail
    refine (sorted_walk ss A n c w1 HN.out (by omega) (H.out.kept HG1.out nofun)).mono ?_
    rintro e w2 ⟨Am, nm, cm, rfl, hml, hmc, hmn, hms2, hmg⟩
    rw [← canon_putAll] at hml hms2
    have HML := Lib.hid hml
    have HMS := Lib.hid hms2
    have HMG := Lib.hid hmg
    clear hml hms2 hmg
    have hrun : ∀ s, runS r.2 r.1 s = decide (s ∈ canon ss) := by
      have := buildS_run 201 (canon ss) [] r.2 (fun y hy => by have := (short_of HV.out).2 y hy; omega) (canon_rise ss) (by decide) (by rw [HR.out]; exact List.prefix_refl _)
      rw [HR.out] at this; exact this
    have HRUN := Lib.hid hrun
    have hhas : ∀ (s : Wd) (w3 : World), s.length ≤ 200 → w2.grownBy w3 none → Calls Try.prog 26 #[.pointer (some ⟨B, 0, none⟩), .string ⟨s.toArray⟩] w3 fun e w4 => e = .returned (.bool (decide (s ∈ canon ss))) ∧ w3.grownBy w4 none := by
      intro s w3 hs hg3
      refine (has_walk _ B M _ lv _ _ s _ ((HBD.out.kept HMG.out).kept hg3) (by omega)).mono ?_
      rintro e w4 ⟨rfl, hg4⟩
      exact ⟨by rw [HRUN.out], hg4⟩
    have hhasl : ∀ (s : Wd) (w3 : World), w2.grownBy w3 none → Calls Try.prog 32 #[.slice Am nm cm, .string ⟨s.toArray⟩] w3 fun e w4 => e = .returned (.bool (decide (s ∈ canon ss))) ∧ w3.grownBy w4 none := by
      intro s w3 hg3
      refine (hasl_walk (canon ss) s Am nm cm w3 HML.out (by omega) (HMS.out.kept hg3 nofun)).mono ?_
      rintro e w4 ⟨rfl, rfl⟩
      exact ⟨rfl, grownBy_refl _ _⟩
    have HHAS := Lib.hid hhas
    have HHASL := Lib.hid hhasl
    clear hhas hhasl hrun
    go_wp2_with fail
    go_loopw [8, 9] (fun bv iv wr => ∃ i : Nat, i ≤ nm ∧ iv = .int .i64 i ∧ bv = .bool (decide (more ∈ (canon ss).take i)) ∧ w2.grownBy wr none) (fun _ iv _ => nm - (intOf iv).toNat)
    case atStart => exact ⟨0, Nat.zero_le _, rfl, by simp, grownBy_refl _ _⟩
    case round =>
      obtain ⟨i, hi2, rfl, rfl, hgr⟩ := hrel
      have HGR := Lib.hid hgr
      clear hgr
      rcases Nat.lt_or_ge i nm with hlt | hge
      · obtain ⟨x, hxi⟩ : ∃ x, (canon ss)[i]? = some x := ⟨_, List.getElem?_eq_getElem (by rw [HML.out]; exact hlt)⟩
        obtain ⟨q, o, rfl, hc⟩ := (HMS.out.kept HGR.out nofun).str hxi
        have hin : decide (more ∈ (canon ss).take (i + 1)) = (decide (more ∈ (canon ss).take i) || (x == more)) := mem_take_succ hxi
        have HIN := Lib.hid hin
        have HXI := Lib.hid hxi
        clear hin hxi
        generalize decide (more ∈ (canon ss).take i) = inb at *
        go_upto_region 11 with (fail)
        go_cut [8] (fun b wx => b = .bool (inb || (x == more)) ∧ wx = wr)
        case first =>
          cases inb
          all_goals
            go_wp2_with fail
            go_meet
            exact ⟨by simp, rfl⟩
        case rest =>
          obtain ⟨rfl, rfl⟩ := hcut
          go_upto_region 12 with (fail)
          go_cut [91] (fun b wx => b = .bool false ∧ wc.grownBy wx none)
          case first =>
            have hxm : x ∈ canon ss := List.mem_of_getElem? HXI.out
            have hshort := short_of HV.out
            have hx200 := hshort.2 x hxm
            have hxs : (⟨x.toArray⟩ : ByteArray).size = x.length := by simp [ByteArray.size]
            clear hshort
            have hxm2 : decide (x ∈ canon ss) = true := decide_eq_true (List.mem_of_getElem? HXI.out)
            have hA : ∀ w3, Since wc w3 → Calls Try.prog 26 #[.pointer (some ⟨B, 0, none⟩), .string ⟨x.toArray⟩] w3 fun e w4 => e = .returned (.bool true) ∧ Since wc w4 := by
              intro w3 hw3
              refine (HHAS.out x w3 hx200 (grownBy_trans HGR.out hw3 nofun)).mono ?_
              rintro e w4 ⟨rfl, hg4⟩
              exact ⟨by rw [hxm2], grownBy_trans hw3 hg4 nofun⟩
            obtain ⟨m, hm⟩ : ∃ m, x.length - 1 = m := ⟨_, rfl⟩
            obtain ⟨xp, hxp⟩ : ∃ xp, x.take m = xp := ⟨_, rfl⟩
            obtain ⟨bp, hbp⟩ : ∃ bp, decide (xp ∈ canon ss) = bp := ⟨_, rfl⟩
            have hxpl : xp.length ≤ 200 := by rw [← hxp, List.length_take]; omega
            have hB2 : ∀ w3, Since wc w3 → Calls Try.prog 26 #[.pointer (some ⟨B, 0, none⟩), .string ⟨xp.toArray⟩] w3 fun e w4 => e = .returned (.bool bp) ∧ Since wc w4 := by
              intro w3 hw3
              refine (HHAS.out xp w3 hxpl (grownBy_trans HGR.out hw3 nofun)).mono ?_
              rintro e w4 ⟨rfl, hg4⟩
              exact ⟨by rw [hbp], grownBy_trans hw3 hg4 nofun⟩
            have hC := fun (w3 : World) (hw3 : Since wc w3) => (HHASL.out xp w3 (grownBy_trans HGR.out hw3 nofun)).mono (fun e w4 h4 => (⟨by rw [h4.1, hbp], grownBy_trans hw3 h4.2 nofun⟩ : e = .returned (.bool bp) ∧ Since wc w4))
            have hext := ext_take x m
            rw [hxp] at hext
            have HA := Lib.hid hA
            have HB := Lib.hid hB2
            have HC := Lib.hid hC
            clear hA hB2 hC hxp hbp hxm2 hxm
            by_cases hx0 : x.length = 0
            · have hx1 : (⟨x.toArray⟩ : ByteArray).size = 0 := by rw [hxs, hx0]
              clear hxs hx0 hx200
              go_wp2_with fail
              refine region_since (by kernel_rfl) (by kernel_rfl) ?_
              iterate 44
                (first
                  | (refine quiet_un ?_ ?_
                     focus (go_simp; done)
                     simp only [Act.put, List.setIfInBounds_toArray, List.set_cons_zero, List.set_cons_succ])
                  | (refine quiet_val (v := ?_) ?_ (fun w3 hw3 => ?_) ?_
                     rotate_left
                     focus (go_simp; done)
                     · have hc3 := World.grownBy.cell hw3 hc nofun
                       unfold Oper.quietAt Oper.quietUpon
                       go_simp
                       first
                         | done
                         | (go_at_call_of 26 x; exact HA.out w3 hw3)
                         | (go_at_call_of 26 xp; exact HB.out w3 hw3)
                         | (go_at_call 32; exact HC.out w3 hw3)
                         | rfl
                     simp only [Act.put, List.setIfInBounds_toArray, List.set_cons_zero, List.set_cons_succ]))
              refine quiet_end ?_
              intro w4 hw4
              go_wp2_with fail
              go_meet
              exact ⟨rfl, hw4⟩
            · have hx1 : (⟨x.toArray⟩ : ByteArray).size = m + 1 := by rw [hxs]; omega
              have hwr : IntKind.i64.wrap (m : Int) = (m : Int) := by rw [IntKind.wrap_i64]; omega
              have hm2 : (m : Int) ≤ (m : Int) + 1 := by omega
              clear hxs hx0 hx200 hm
              go_wp2_with fail
              refine region_since (by kernel_rfl) (by kernel_rfl) ?_
              iterate 44
                (first
                  | (refine quiet_un ?_ ?_
                     focus (go_simp; done)
                     simp only [Act.put, List.setIfInBounds_toArray, List.set_cons_zero, List.set_cons_succ])
                  | (refine quiet_val (v := ?_) ?_ (fun w3 hw3 => ?_) ?_
                     rotate_left
                     focus (go_simp; done)
                     · have hc3 := World.grownBy.cell hw3 hc nofun
                       unfold Oper.quietAt Oper.quietUpon
                       go_simp
                       first
                         | done
                         | (go_at_call_of 26 x; exact HA.out w3 hw3)
                         | (go_at_call_of 26 xp; exact HB.out w3 hw3)
                         | (go_at_call 32; exact HC.out w3 hw3)
                         | rfl
                     simp only [Act.put, List.setIfInBounds_toArray, List.set_cons_zero, List.set_cons_succ]))
              refine quiet_end ?_
              intro w4 hw4

              go_wp2_with fail
              go_meet
              exact ⟨by simp, hw4⟩
          case rest =>
            obtain ⟨rfl, hgc⟩ := hcut
            have hg3 := grownBy_trans HGR.out hgc nofun
            have HG3 := Lib.hid hg3
            clear hgc hg3
            go_wp2_with fail
            go_roundw
            case rel => exact ⟨i + 1, by omega, by go_num, by rw [HIN.out], HG3.out⟩
            case measure => simp [intOf]; omega
      · obtain rfl : i = nm := by omega
        have hshort := short_of HV.out
        have hrun : runS r.2 r.1 more = decide (more ∈ canon ss) := by
          have := buildS_run 201 (canon ss) [] r.2 (fun y hy => by have := hshort.2 y hy; omega) (canon_rise ss) (by decide) (by rw [HR.out]; exact List.prefix_refl _)
          rw [HR.out] at this; exact this more
        have hcl : (canon ss).length ≤ 40 := by rw [HML.out]; omega
        have hsh2 : ∀ y ∈ canon ss, y.length ≤ 20 ∧ ∀ b ∈ y, b ≠ 0 := fun y hy => HSH.out y (mem_canon.1 hy)
        have hall : allS r.2 20 r.1 [] [] = canon ss := by
          have := buildS_all 201 (canon ss) [] r.2 (fun y hy => by have := hshort.2 y hy; omega) (canon_rise ss) (by decide) (by rw [HR.out]; exact List.prefix_refl _) 20 [] [] (fun y hy => (hsh2 y hy).1) (by simp; omega)
          rw [HR.out] at this
          rw [this]; simp
        have hcnt : r.2.length = (seenS (canon ss) (headsS (canon ss))).length := by
          have := count_states (f := 201) (V := canon ss) (fun y hy => by have := hshort.2 y hy; omega) (canon_rise ss) (by decide) (fun y hy => (hsh2 y hy).2)
          rw [HR.out] at this; exact this
        have htk : (canon ss).take i = canon ss := List.take_of_length_le (by rw [HML.out]; exact Nat.le_refl _)
        rw [htk]
        generalize hinb : decide (more ∈ canon ss) = inb at *
        have HRUN := Lib.hid hrun
        have HALL := Lib.hid hall
        have HCNT := Lib.hid hcnt
        have HSH2 := Lib.hid hsh2
        have hbdr := (HBD.out.kept HMG.out).kept HGR.out
        have HBDR := Lib.hid hbdr
        clear hrun hall hcnt hsh2 hshort htk hbdr hinb
        go_wp2_with fail
        refine (has_walk _ B M _ lv _ _ more wr HBDR.out (by omega)).mono ?_
        rintro e w3 ⟨rfl, hg3⟩
        rw [HRUN.out]
        have HG3 := Lib.hid hg3
        clear hg3
        go_wp2_with fail
        refine (states_walk _ B M _ lv _ _ w3 (HBDR.out.kept HG3.out)).mono ?_
        rintro e w4 ⟨rfl, rfl⟩
        go_wp2_with fail
        refine (refstates_walk (canon ss) Am i cm w4 HML.out (by omega) (fun y hy => by have := (HSH2.out y hy).1; omega) ((HMS.out.kept HGR.out nofun).kept HG3.out nofun)).mono ?_
        rintro e w5 ⟨rfl, hg5⟩
        rw [← HCNT.out]
        have HG5 := Lib.hid (grownBy_trans HG3.out hg5 nofun)
        clear hg5
        go_wp2_with fail
        refine (start_walk _ B M _ lv _ _ w5 (HBDR.out.kept HG5.out)).mono ?_
        rintro e w6 ⟨rfl, rfl⟩
        go_wp2_with fail
        refine (all_walk 20 _ B M _ lv _ r.2 wr HBDR.out r.1 [] [] none 0 0 w6.heap.size w6 HG5.out rfl (World.ownsRow_nil _ _ _ _) HG5.out.size (Nat.le_refl _) (by simp) (by decide) (by simp) 20 rfl).mono ?_
        rintro e w7 ⟨va, rfl, Aa, na, ca, rfl, hna, hoa, hga, _⟩
        have hga' : w6.grownBy w7 none := hga
        rw [HALL.out] at hna hoa
        have HG7 := Lib.hid (grownBy_trans HG5.out hga' nofun)
        have HOA := Lib.hid hoa
        have HNA := Lib.hid hna
        clear hga hga' hoa hna
        go_wp2_with fail
        refine (same_strings (canon ss) (canon ss) Aa Am na i ca cm w7 HNA.out HML.out (Sl.of_own HOA.out (strCells_one' _)) ((HMS.out.kept HGR.out nofun).kept HG7.out nofun) (by have := HNA.out; omega)).mono ?_
        rintro e w8 ⟨rfl, hg8⟩
        have hdd : decide (canon ss = canon ss) = true := by simp
        rw [hdd]
        have HG8 := Lib.hid (grownBy_trans HG7.out hg8 nofun)
        clear hg8
        go_wp2_with fail
        refine (awake_walk w8).mono ?_
        rintro e w10 ⟨rfl, hg10⟩
        go_wp2_with fail
        go_ret
        exact ⟨rfl, grownBy_trans (grownBy_trans (grownBy_trans (grownBy_trans HG1.out HMG.out nofun) HGR.out nofun) HG8.out nofun) hg10 nofun⟩
  · have hgo2 : fewS ss = false ∨ 40 < more.length := by
      rcases hb : fewS ss with _ | _
      · exact .inl rfl
      · exact .inr (Nat.lt_of_not_le (fun h => hgo ⟨hb, h⟩))
    rcases hgo2 with hf | hf
    · rw [hf]
      go_wp2_with fail
      refine (awake_walk w').mono ?_
      rintro e w4 ⟨rfl, hg5⟩
      go_wp2_with fail
      go_ret
      exact ⟨rfl, hg5⟩
    · rcases hb : fewS ss with _ | _
      all_goals
        go_wp2_with fail
        refine (awake_walk w').mono ?_
        rintro e w4 ⟨rfl, hg5⟩
        go_wp2_with fail
        go_ret
        exact ⟨rfl, hg5⟩
end Go.Proofs.Ytiiaphgencoijaa
