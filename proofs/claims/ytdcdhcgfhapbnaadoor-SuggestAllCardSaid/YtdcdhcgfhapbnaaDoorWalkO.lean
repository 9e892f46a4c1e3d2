/-
  Package walk: the closure on: one step of the walk. Conditions: those of the contract OnDoes.
-/
import Derived.Test.YtdcdhcgfhapbnaaDoorWalkE
import Derived.Test.YtdcdhcgfhapbnaaDoorTail
import Derived.Deep.RegionLaw
import Derived.Deep.RegionHeld3
import Derived.Deep.MidRow
import Derived.Deep.CutBlock
import Derived.Lib.BufferRead
namespace Go.Proofs.YtdcdhcgfhapbnaaDoor
open Go Go.RowKit Go.Maps

theorem offer_info : (Tryd.prog.info? 41).map (fun i => (i.zero, i.size, i.bytes)) = some (some (.agg #[.string ⟨#[]⟩, .int .i64 0]), 2, 24) := by kernel_rfl

theorem conv_own {w : World} {base : Nat} {wv : Value} {word : Wd} (h : w.ownsRow base 5 1 wv word.length (Lib.byteCells word)) : (convert 74 9 wv).run Tryd.prog w = .ok (.string ⟨word.toArray⟩) w := by
  rcases h.2 with ⟨hv, h0⟩ | ⟨g, cap, cur, hv, _⟩
  · rw [hv]
    have : word = [] := List.eq_nil_of_length_eq_zero (by omega)
    subst this
    exact Lib.run_convert_nil_bytes w _ _ 5 0 Tryd.underlying74 Tryd.underlying5 Tryd.underlying9
  · rw [hv]
    refine conv_bytes word g word.length cap w rfl (fun j u hu => ?_)
    have hsl := Sl.of_own (A := some ⟨g, 0, none⟩) (c := cap) (by rw [hv] at h; exact h) (by intro x hx; obtain ⟨y, _, rfl⟩ := List.mem_map.1 hx; rfl)
    have hlt : j < word.length := by have := (List.getElem?_eq_some_iff.1 hu).1; simpa [Lib.byteCells] using this
    obtain ⟨b, o, e, hc⟩ := hsl.2.2 (by omega)
    cases e
    have := hc j u hu
    rwa [Nat.zero_add] at this

set_option maxRecDepth 100000 in
set_option maxHeartbeats 4000000 in
theorem on_step (fuel : Nat) (ih : OnDoes fuel) : OnDoes (fuel + 1) := by
  intro w0 pa pc pf po F base B M base0 lvb start sts CA n cc codes fx w state part most Mx last was before lastv wv lv WA wasc word f hg0 hbw cap wk hlast hlo hwas hwo hwl hwb hlb hM hst hwd hpt hsteps hlen
  rw [onS_succ] at hsteps hlen ⊢
  obtain ⟨f1, hf1⟩ : ∃ f1, beginS sts codes most state part was word f = f1 := ⟨_, rfl⟩
  rw [hf1] at hsteps hlen ⊢
  obtain ⟨wb, wo, rfl, hwc⟩ := nat_cell hwas hwl (by omega)
  have hcn := hwc n (by omega)
  have hbn := hwb n
  obtain ⟨xn, hxn⟩ : ∃ xn, was.getD n 0 = xn := ⟨_, rfl⟩
  rw [hxn] at hcn hbn
  obtain ⟨fin, hfin⟩ : ∃ fin, (stAt sts (state : Int)).1 = fin := ⟨_, rfl⟩
  obtain ⟨cd, hcd⟩ : ∃ cd, decide (part = 0 ∧ fin = true ∧ xn ≤ most) = cd := ⟨_, rfl⟩
  have hbeg : f1 = if cd = true then ⟨f.l ++ [(word, xn)], f.steps⟩ else f := by
    rw [← hf1, ← hcd]
    unfold beginS
    rw [fx.hn, hxn, hfin]
    by_cases h : part = 0 ∧ fin = true ∧ xn ≤ most
    · rw [if_pos h, if_pos (decide_eq_true h)]
    · rw [if_neg h, if_neg (by rw [decide_eq_false h]; exact Bool.false_ne_true)]
  have hfinw : ∀ w3, w.grownBy w3 none → Calls Tryd.prog 67 #[.pointer (some ⟨B, 0, none⟩), .int .i64 state] w3 fun e w' => e = .returned (.bool fin) ∧ Since w w' := by
    intro w3 hg3
    refine (final_walk _ B M _ lvb _ _ (state : Int) w3 (fx.bd.kept (grownBy_trans hg0 hg3 nofun))).mono ?_
    rintro e w4 ⟨rfl, hg4⟩
    exact ⟨by rw [hfin], grownBy_trans hg3 hg4 nofun⟩
  have hca := cap.a
  have hcc := cap.c
  have hcf := cap.f
  have hF2 := cell_of_heap wk.hF 2
  have FX := Lib.hid fx
  have CAP := Lib.hid cap
  have WK := Lib.hid wk
  have HG0 := Lib.hid hg0
  have HLAST := Lib.hid hlast
  have HLO := Lib.hid hlo
  have HWAS := Lib.hid hwas
  have HWO := Lib.hid hwo
  have HWB := Lib.hid hwb
  have HLB := Lib.hid hlb
  have HST := Lib.hid hsteps
  have HLEN := Lib.hid hlen
  have HBEG := Lib.hid hbeg
  have HFIN := Lib.hid hfinw
  have HCD := Lib.hid hcd
  have HF1 := Lib.hid hf1
  have HWL := Lib.hid hwl
  have IH := Lib.hid ih
  clear fx cap wk hg0 hlast hlo hwas hwo hwb hlb hsteps hlen hbeg hfinw hcd hf1 hfin hxn hwc hwl ih
  have hm1 : (n : Int) < (n : Int) + 1 := by omega
  go_enter Tryd.func66, Tryd.ntmps66
  go_upto_region 0 with (fail)
  go_cut [41] (fun v wx => v = .bool cd ∧ w.grownBy wx none)
  case first =>
    have hcd := HCD.out
    rcases Nat.eq_zero_or_pos part with rfl | hp
    · cases fin
      · have e0 : cd = false := by rw [← hcd]; simp
        subst e0
        clear hcd
        go_wp2_with fail
        refine region_since (by kernel_rfl) (by kernel_rfl) ?_
        iterate 19
          (first
            | (refine quiet_un ?_ ?_
               focus (go_simp; done)
               simp only [Act.put, List.setIfInBounds_toArray, List.set_cons_zero, List.set_cons_succ])
            | (refine quiet_val (v := ?_) ?_ (fun w8 hw8 => ?_) ?_
               rotate_left
               focus (go_simp; done)
               · have k1 := World.grownBy.cell hw8 hca nofun
                 have k2 := World.grownBy.cell hw8 hcc nofun
                 have k3 := World.grownBy.cell hw8 hcf nofun
                 have k4 := World.grownBy.cell hw8 hF2 nofun
                 have k5 := World.grownBy.cell hw8 hcn nofun
                 unfold Oper.quietAt Oper.quietUpon
                 go_simp
                 first
                   | done
                   | (go_at_call 67; exact HFIN.out w8 hw8)
                   | rfl
               simp only [Act.put, List.setIfInBounds_toArray, List.set_cons_zero, List.set_cons_succ]))
        refine quiet_end ?_
        intro w9 hw9
        go_wp2_with fail
        go_meet
        exact ⟨rfl, hw9⟩
      · rcases Nat.lt_or_ge most xn with hle | hle
        · have e0 : cd = false := by rw [← hcd]; simp; omega
          subst e0
          clear hcd
          have hle1 : (most : Int) < (xn : Int) := by omega
          go_wp2_with fail
          refine region_since (by kernel_rfl) (by kernel_rfl) ?_
          iterate 19
            (first
              | (refine quiet_un ?_ ?_
                 focus (go_simp; done)
                 simp only [Act.put, List.setIfInBounds_toArray, List.set_cons_zero, List.set_cons_succ])
              | (refine quiet_val (v := ?_) ?_ (fun w8 hw8 => ?_) ?_
                 rotate_left
                 focus (go_simp; done)
                 · have k1 := World.grownBy.cell hw8 hca nofun
                   have k2 := World.grownBy.cell hw8 hcc nofun
                   have k3 := World.grownBy.cell hw8 hcf nofun
                   have k4 := World.grownBy.cell hw8 hF2 nofun
                   have k5 := World.grownBy.cell hw8 hcn nofun
                   unfold Oper.quietAt Oper.quietUpon
                   go_simp
                   first
                     | done
                     | (go_at_call 67; exact HFIN.out w8 hw8)
                     | rfl
                 simp only [Act.put, List.setIfInBounds_toArray, List.set_cons_zero, List.set_cons_succ]))
          refine quiet_end ?_
          intro w9 hw9
          go_wp2_with fail
          go_meet
          exact ⟨by first | rfl | (simp; omega), hw9⟩
        · have e0 : cd = true := by rw [← hcd]; simp; omega
          subst e0
          clear hcd
          have hle1 : (xn : Int) ≤ (most : Int) := by omega
          go_wp2_with fail
          refine region_since (by kernel_rfl) (by kernel_rfl) ?_
          iterate 19
            (first
              | (refine quiet_un ?_ ?_
                 focus (go_simp; done)
                 simp only [Act.put, List.setIfInBounds_toArray, List.set_cons_zero, List.set_cons_succ])
              | (refine quiet_val (v := ?_) ?_ (fun w8 hw8 => ?_) ?_
                 rotate_left
                 focus (go_simp; done)
                 · have k1 := World.grownBy.cell hw8 hca nofun
                   have k2 := World.grownBy.cell hw8 hcc nofun
                   have k3 := World.grownBy.cell hw8 hcf nofun
                   have k4 := World.grownBy.cell hw8 hF2 nofun
                   have k5 := World.grownBy.cell hw8 hcn nofun
                   unfold Oper.quietAt Oper.quietUpon
                   go_simp
                   first
                     | done
                     | (go_at_call 67; exact HFIN.out w8 hw8)
                     | rfl
                 simp only [Act.put, List.setIfInBounds_toArray, List.set_cons_zero, List.set_cons_succ]))
          refine quiet_end ?_
          intro w9 hw9
          go_wp2_with fail
          go_meet
          exact ⟨rfl, hw9⟩
    · have e0 : cd = false := by rw [← hcd]; exact decide_eq_false (by omega)
      subst e0
      clear hcd
      have hp0 : ((part : Int) == 0) = false := by rw [beq_eq_false_iff_ne]; omega
      go_wp2_with fail
      refine region_since (by kernel_rfl) (by kernel_rfl) ?_
      iterate 19
        (first
          | (refine quiet_un ?_ ?_
             focus (go_simp; done)
             simp only [Act.put, List.setIfInBounds_toArray, List.set_cons_zero, List.set_cons_succ])
          | (refine quiet_val (v := ?_) ?_ (fun w8 hw8 => ?_) ?_
             rotate_left
             focus (go_simp; done)
             · have k1 := World.grownBy.cell hw8 hca nofun
               have k2 := World.grownBy.cell hw8 hcc nofun
               have k3 := World.grownBy.cell hw8 hcf nofun
               have k4 := World.grownBy.cell hw8 hF2 nofun
               have k5 := World.grownBy.cell hw8 hcn nofun
               unfold Oper.quietAt Oper.quietUpon
               go_simp
               first
                 | done
                 | (go_at_call 67; exact HFIN.out w8 hw8)
                 | rfl
             simp only [Act.put, List.setIfInBounds_toArray, List.set_cons_zero, List.set_cons_succ]))
      refine quiet_end ?_
      intro w9 hw9
      go_wp2_with fail
      go_meet
      exact ⟨rfl, hw9⟩
  case rest =>
    obtain ⟨rfl, hg1⟩ := hcut
    have HG1 := Lib.hid hg1
    have HCN := Lib.hid hcn
    clear hg1 hca hcc hcf hF2 hcn
    go_upto_if 41 with (fail)
    go_cut [] (fun wx => ∃ lv1, Wk wx F base (.pointer (some ⟨B, 0, none⟩)) (.slice CA n cc) most wv lv1 word f1 ∧ Kp (Mut F wv lv) w wx ∧ ∀ k, Mut F wv lv1 k → Mut F wv lv k ∨ w.heap.size ≤ k)
    case first =>
      cases cd
      · have e1 : f1 = f := by rw [HBEG.out]; rfl
        have E1 := Lib.hid e1
        clear e1
        go_wp2_with fail
        go_meet
        rw [E1.out]
        exact ⟨lv, WK.out.kept HG1.out, Kp.of_grown HG1.out nofun, fun k hk => .inl hk⟩
      · have e1 : f1 = ⟨f.l ++ [(word, xn)], f.steps⟩ := by rw [HBEG.out]; rfl
        have E1 := Lib.hid e1
        clear e1
        obtain ⟨j0, hj, hy0, hy1, hy2⟩ := info_parts offer_info
        have wk1 := WK.out.kept HG1.out
        have hF := wk1.hF
        have k1 := HG1.out.cell CAP.out.c nofun
        have k2 := HG1.out.cell CAP.out.f nofun
        have k3 := cell_of_heap hF 3
        have k4 := cell_of_heap hF 4
        have k5 := HG1.out.cell HCN.out nofun
        have hcv := conv_own (w := wc.drew) (ownsRow_drewN wk1.word 1)
        have hFl : F < wc.heap.size := heap_lt hF
        have hal := World.grownBy_alloc wc.drew (.cells #[.string ⟨word.toArray⟩, .int .i64 (xn : Int)] 41) none
        have hlF : lv.ownBlock ≠ some F := fun e => by have := (own_ge' wk1.offers e).1; have := wk1.small; omega
        have how := Lib.hid (ownsRow_kept (ownsRow_drewN wk1.offers 1) hal (own_none _))
        have hsl := Lib.hid (Sl.of_own (World.ownsRow_lit (base := 0) (size := 2) (e := 41) wc.drew #[.string ⟨word.toArray⟩, .int .i64 (xn : Int)] 1 (Nat.zero_le _) (by decide) rfl) (by intro x hx; simp at hx; rcases hx with rfl | rfl <;> rfl))
        have hFa := Lib.hid (grownBy_heap hal (show wc.drew.heap[F]? = _ from hF) nofun)
        have hlen1 : f.l.length ≤ 1000000 := by
          have h1 := fold_grows (edgeS sts codes most fuel part last was before word) (edgeS_grows sts codes most fuel part last was before word) (stAt sts state).2 f1
          have h2 := HLEN.out
          rw [E1.out] at h1 h2
          simp at h1; omega
        have HF := Lib.hid hF
        have WK1 := Lib.hid wk1
        have HAL := Lib.hid hal
        clear hF wk1 hal
        go_wp2_with fail
        have npF := FX.out.ne.2.2.1
        have ncF := FX.out.ne.2.1
        have hnwF : wb ≠ F := fun e => HWO.out F (.inl rfl) (by omega) _ rfl (by rw [e])
        have hoff1 : ∀ k, k < base → (k ≠ F) → some k ≠ lv.ownBlock := fun k hk _ e => by
          have := (own_ge' WK1.out.offers e.symm).1; omega
        have hoff2 : some wb ≠ lv.ownBlock := fun e => HWO.out wb (.inr (.inr e.symm)) (by omega) _ rfl rfl
        have hoff3 : some F ≠ lv.ownBlock := fun e => hlF e.symm
        have hoffp := hoff1 pf FX.out.lt.2.2.1 npF
        have hoffc := hoff1 pc FX.out.lt.2.1 ncF
        have m2 := HAL.out.cell (a := ⟨pf, 0, none⟩) k2 nofun
        have m1 := HAL.out.cell (a := ⟨pc, 0, none⟩) k1 nofun
        have m3 := HAL.out.cell (a := ⟨F, 3, none⟩) k3 nofun
        have m5 := HAL.out.cell (a := ⟨wb, wo + n, none⟩) k5 nofun
        have hcvm := conv_own (ownsRow_kept (ownsRow_drewN WK1.out.word 1) HAL.out (own_none _))
        have m4 := HAL.out.cell (a := ⟨F, 4, none⟩) k4 nofun
        refine region_tail 20 (fun u => u.cell? ⟨pf, 0, none⟩ = some (.pointer (some ⟨F, 0, none⟩)) ∧ u.cell? ⟨pc, 0, none⟩ = some (.slice CA n cc) ∧ u.cell? ⟨F, 3, none⟩ = some wv ∧ u.cell? ⟨wb, wo + n, none⟩ = some (.int .i64 (xn : Int)) ∧ u.cell? ⟨F, 4, none⟩ = some lv ∧ (convert 74 9 wv).run Tryd.prog u = .ok (.string ⟨word.toArray⟩) u) (by kernel_rfl) ⟨k2, k1, k3, k5, k4, hcv⟩ (fun hHeld => ?_)
        refine tail_take 0 (v := ?_) rfl (by kernel_rfl) (by kernel_rfl) (by kernel_rfl) (by kernel_rfl) (fun _ _ _ h => h) (by rfl) (fun u hu => ?_) (by assumption) ?_
        rotate_left
        focus ((try dsimp only at hu); go_simp; try with_reducible rfl)
        try simp only [Act.put]
        refine tail_take 1 (v := ?_) rfl (by kernel_rfl) (by kernel_rfl) (by kernel_rfl) (by kernel_rfl) (fun _ _ _ h => h) (by rfl) (fun u hu => ?_) (by assumption) ?_
        rotate_left
        focus ((try dsimp only at hu); go_simp; try with_reducible rfl)
        try simp only [Act.put]
        refine tail_take 2 (v := ?_) rfl (by kernel_rfl) (by kernel_rfl) (by kernel_rfl) (by kernel_rfl) (fun _ _ _ h => h) (by rfl) (fun u hu => ?_) (by assumption) ?_
        rotate_left
        focus ((try dsimp only at hu); go_simp; try with_reducible rfl)
        try simp only [Act.put]
        refine tail_take 3 (v := ?_) rfl (by kernel_rfl) (by kernel_rfl) (by kernel_rfl) (by kernel_rfl) (fun _ _ _ h => h) (by rfl) (fun u hu => ?_) (by assumption) ?_
        rotate_left
        focus ((try dsimp only at hu); go_simp; try with_reducible rfl)
        try simp only [Act.put]
        refine tail_take 4 (v := ?_) rfl (by kernel_rfl) (by kernel_rfl) (by kernel_rfl) (by kernel_rfl) (fun _ _ _ h => h) (by rfl) (fun u hu => ?_) (by assumption) ?_
        rotate_left
        focus ((try dsimp only at hu); go_simp; try with_reducible rfl)
        try simp only [Act.put]
        refine tail_take 5 (v := ?_) rfl (by kernel_rfl) (by kernel_rfl) (by kernel_rfl) (by kernel_rfl) (fun _ _ _ h => h) (by rfl) (fun u hu => ?_) (by assumption) ?_
        rotate_left
        focus ((try dsimp only at hu); go_simp; try with_reducible rfl)
        try simp only [Act.put]
        refine tail_take 6 (v := ?_) rfl (by kernel_rfl) (by kernel_rfl) (by kernel_rfl) (by kernel_rfl) (fun _ _ _ h => h) (by rfl) (fun u hu => ?_) (by assumption) ?_
        rotate_left
        focus ((try dsimp only at hu); go_simp; try with_reducible rfl)
        try simp only [Act.put]
        refine tail_take 7 (v := ?_) rfl (by kernel_rfl) (by kernel_rfl) (by kernel_rfl) (by kernel_rfl) (fun _ _ _ h => h) (by rfl) (fun u hu => ?_) (by assumption) ?_
        rotate_left
        focus ((try dsimp only at hu); go_simp; try with_reducible rfl)
        try simp only [Act.put]
        refine tail_take 8 (v := ?_) rfl (by kernel_rfl) (by kernel_rfl) (by kernel_rfl) (by kernel_rfl) (fun _ _ _ h => h) (by rfl) (fun u hu => ?_) (by assumption) ?_
        rotate_left
        focus ((try dsimp only at hu); go_simp; try with_reducible rfl)
        try simp only [Act.put]
        refine tail_take 9 (v := ?_) rfl (by kernel_rfl) (by kernel_rfl) (by kernel_rfl) (by kernel_rfl) (fun _ _ _ h => h) (by rfl) (fun u hu => ?_) (by assumption) ?_
        rotate_left
        focus ((try dsimp only at hu); go_simp; try with_reducible rfl)
        try simp only [Act.put]
        refine tail_take 10 (v := ?_) rfl (by kernel_rfl) (by kernel_rfl) (by kernel_rfl) (by kernel_rfl) (fun _ _ _ h => h) (by rfl) (fun u hu => ?_) (by assumption) ?_
        rotate_left
        focus ((try dsimp only at hu); go_simp; try with_reducible rfl)
        try simp only [Act.put]
        refine tail_take 11 (v := ?_) rfl (by kernel_rfl) (by kernel_rfl) (by kernel_rfl) (by kernel_rfl) (fun _ _ _ h => h) (by rfl) (fun u hu => ?_) (by assumption) ?_
        rotate_left
        focus ((try dsimp only at hu); go_simp; try with_reducible rfl)
        try simp only [Act.put]
        refine tail_take 12 (v := ?_) rfl (by kernel_rfl) (by kernel_rfl) (by kernel_rfl) (by kernel_rfl) (fun _ _ _ h => h) (by rfl) (fun u hu => ?_) (by assumption) ?_
        rotate_left
        focus ((try dsimp only at hu); go_simp; try with_reducible rfl)
        try simp only [Act.put]
        refine tail_take 13 (v := ?_) rfl (by kernel_rfl) (by kernel_rfl) (by kernel_rfl) (by kernel_rfl) (fun _ _ _ h => h) (by rfl) (fun u hu => ?_) (by assumption) ?_
        rotate_left
        focus ((try dsimp only at hu); go_simp; try with_reducible rfl)
        try simp only [Act.put]
        refine tail_take 14 (v := ?_) rfl (by kernel_rfl) (by kernel_rfl) (by kernel_rfl) (by kernel_rfl) (fun _ _ _ h => h) (by rfl) (fun u hu => ?_) (by assumption) ?_
        rotate_left
        focus ((try dsimp only at hu); go_simp; try with_reducible rfl)
        try simp only [Act.put]
        refine tail_take 15 (v := ?_) rfl (by kernel_rfl) (by kernel_rfl) (by kernel_rfl) (by kernel_rfl) (fun _ _ _ h => h) (by rfl) (fun u hu => ?_) (by assumption) ?_
        rotate_left
        focus ((try dsimp only at hu); go_simp; try with_reducible rfl)
        try simp only [Act.put]
        refine tail_step 16 (by kernel_rfl) rfl (fun K hK => ?_)
        go_simp
        refine hK.out _ _ (by exact ⟨m2, m1, m3, m5, m4, hcvm⟩) (fun hHeld16 => ?_)
        clear hK K
        try simp only [Act.put]
        refine tail_step 17 (by kernel_rfl) rfl (fun K hK => ?_)
        refine step_append_sl _ (by rfl) _ _ 29 (by rfl) base 41 j0 _ 2 24 Tryd.underlying29 hj hy0 hy1 hy2 rfl (by decide) lv f.l.length _ (by rfl) how.out (some ⟨wc.heap.size, 0, none⟩) 1 1 _ (by rfl) hsl.out (by unfold maxLen; omega) (by omega) (by have := HG1.out.size; simp; omega) ?_; intro v3 w3 hap; obtain ⟨q3, c3, hv3, _, hq3, hq4⟩ := own_form hap.1 (by omega); subst hv3; have hF3 := Lib.hid (grownBy_heap hap.2.1 hFa.out hlF); have q1 := cell_of_heap hF3.out 4; have q2 := frozen_of_heap hF3.out 4; have r1 := hap.2.1.cell m1 hoffc; have r2 := hap.2.1.cell m2 hoffp; have r3 := hap.2.1.cell m3 hoff3; have r5 := hap.2.1.cell m5 hoff2; have r4 := hap.2.1.cell m4 hoff3; have hcvr := conv_own (ownsRow_kept (ownsRow_kept (ownsRow_drewN WK1.out.word 1) HAL.out (own_none _)) hap.2.1 WK1.out.apart); have HAP := Lib.hid hap; clear hap
        refine hK.out _ _ (by exact ⟨r2, r1, r3, r5, r4, hcvr⟩) (fun hHeld17 => ?_)
        clear hK K
        try simp only [Act.put]
        refine tail_step 18 (by kernel_rfl) rfl (fun K hK => ?_)
        go_simp
        refine hK.out _ _ (by exact ⟨r2, r1, r3, r5, r4, hcvr⟩) (fun hHeld18 => ?_)
        clear hK K
        try simp only [Act.put]
        refine tail_step 19 (by kernel_rfl) rfl (fun K hK => ?_)
        go_simp
        refine hK.out _ _ (by exact ⟨r2, r1, r3, r5, r4, hcvr⟩) (fun hHeld19 => ?_)
        clear hK K
        try simp only [Act.put]
        refine tail_last (by kernel_rfl) rfl (fun K hK => ?_)
        go_simp
        refine hK.out _ _ ?_
        clear hK K
        refine tail_done (by kernel_rfl) ?_
        all_goals
          go_wp2_with fail
          go_meet
          rw [E1.out]
          have hwF : wv.ownBlock ≠ some F := fun e => by have := (own_ge' WK1.out.word e).1; have := WK1.out.small; omega
          have hqF : q3 ≠ F := fun e => by have := WK1.out.small; omega
          have hXs := HAL.out.size
          have hG1s := HG1.out.size
          have hov : (Value.slice (some ⟨q3, 0, none⟩) (f.l.length + 1) c3).ownBlock = some q3 := rfl
          have hat := HAP.out.2.2
          rw [hov] at hat
          refine ⟨.slice (some ⟨q3, 0, none⟩) (f.l.length + 1) c3, ⟨heap_setCell hF3.out 4 _, ?_, ?_, ?_, WK1.out.small⟩, ?_, ?_⟩
          · exact ownsRow_setCell (ownsRow_kept (ownsRow_kept (ownsRow_drewN WK1.out.word 1) HAL.out (own_none _)) HAP.out.2.1 WK1.out.apart) hwF 4 _
          · have e1 : (f.l ++ [(word, xn)]).length = f.l.length + 1 := by simp
            have e2 : offCells (f.l ++ [(word, xn)]) = offCells f.l ++ [.string ⟨word.toArray⟩, .int .i64 (xn : Int)] := by simp [offCells]
            show World.ownsRow _ _ _ _ _ (f.l ++ [(word, xn)]).length (offCells (f.l ++ [(word, xn)]))
            rw [e1, e2]
            exact ownsRow_setCell HAP.out.1 (by rw [hov]; intro e; exact hqF (Option.some.inj e)) 4 _
          · rcases hw : wv.ownBlock with _ | b
            · exact .inl rfl
            · refine .inr ?_
              rw [hov]
              intro e
              have hbq := Option.some.inj e
              rcases hat with h | h
              · rcases WK1.out.apart with h2 | h2
                · rw [hw] at h2; cases h2
                · exact h2 (by rw [hw, ← h, hbq])
              · have := (own_ge' WK1.out.word hw).2
                have h3 := Option.some.inj h
                have hXX : wc.heap.size ≤ (wc.drew.alloc (.cells #[.string ⟨word.toArray⟩, .int .i64 (xn : Int)] 41)).heap.size := HAL.out.size
                change q3 = (wc.drew.alloc (.cells #[.string ⟨word.toArray⟩, .int .i64 (xn : Int)] 41)).heap.size at h3
                omega
          · refine Kp.trans (Kp.of_grown HG1.out nofun) (Kp.trans (Kp.trans (Kp.of_grown (grownBy_trans (grownBy_drew (grownBy_refl wc none)) HAL.out nofun) nofun) (Kp.of_grown (S := Mut F wv lv) HAP.out.2.1 (fun k hk => .inl (.inr (.inr hk)))) (fun _ _ h => h)) (Kp.of_grown (S := Mut F wv lv) (grownBy_setCell (grownBy_refl w3 (some F)) F 4 _ (.inl rfl)) (fun k hk => .inl (.inl (Option.some.inj hk).symm))) (fun _ _ h => h)) (fun _ _ h => h)
          · rintro k (e | e | e)
            · exact .inl (.inl e)
            · exact .inl (.inr (.inl e))
            · rw [hov] at e
              rcases hat with h | h
              · exact .inl (.inr (.inr (by rw [← h, e])))
              · refine .inr ?_
                have h3 := Option.some.inj h
                have hXX : wc.heap.size ≤ (wc.drew.alloc (.cells #[.string ⟨word.toArray⟩, .int .i64 (xn : Int)] 41)).heap.size := HAL.out.size
                change q3 = (wc.drew.alloc (.cells #[.string ⟨word.toArray⟩, .int .i64 (xn : Int)] 41)).heap.size at h3
                have := Option.some.inj e
                omega
    case rest =>
      obtain ⟨lv1, hwk1, hkp1, hmut1⟩ := hcut
      have hlow := WK.out.low FX.out.hF FX.out.hb
      have hg1 := kp_grown HG0.out hkp1 hlow
      have hcap1 := CAP.out.kept hkp1 ⟨WK.out.off FX.out.ne.1 FX.out.lt.1, WK.out.off FX.out.ne.2.1 FX.out.lt.2.1, WK.out.off FX.out.ne.2.2.1 FX.out.lt.2.2.1, WK.out.off FX.out.ne.2.2.2 FX.out.lt.2.2.2⟩
      have k1 := hcap1.a
      obtain ⟨es, hes⟩ : ∃ es, (stAt sts (state : Int)).2 = es := ⟨_, rfl⟩
      have HES := Lib.hid hes
      have HLOW := Lib.hid hlow
      have HGC := Lib.hid hg1
      have HWK1 := Lib.hid hwk1
      have HKP1 := Lib.hid hkp1
      have HMUT1 := Lib.hid hmut1
      clear hlow hg1 hcap1 hwk1 hkp1 hmut1 hes
      go_wp2_with fail
      refine (out_walk _ B M _ lvb _ _ (state : Int) wc (FX.out.bd.kept HGC.out)).mono ?_
      rintro e w2 ⟨OA, oc, rfl, hoo, hg2⟩
      rw [HES.out] at hoo ⊢
      have hslo := Sl.of_own hoo (fun x hx => by obtain ⟨y, _, rfl⟩ := List.mem_map.1 hx; rfl)
      have hoff : ∀ l, Mut F wv lv1 l → Off OA es.length l := by
        intro l hl hpos a ha e
        have h1 := HWK1.out.mut hl
        obtain ⟨q, c', e', _, hq, _⟩ := own_form hoo hpos
        rw [ha] at e'
        cases e'
        simp only at e
        omega
      have HAT0 : LoopAt w F base (.pointer (some ⟨B, 0, none⟩)) (.slice CA n cc) most wv lv word es (edgeS sts codes most fuel part last was before word) f1 OA 0 wv lv1 w2 :=
        ⟨Nat.zero_le _, HWK1.out.kept hg2, Kp.trans HKP1.out (Kp.of_grown (S := Mut F wv lv) hg2 nofun) (fun _ _ h => h), HMUT1.out, hslo, hoff⟩
      have HAT := Lib.hid HAT0
      clear hslo hoff hoo hg2 HAT0 k1
      go_wp2_with fail
      go_loopw [66] (fun iv wr => LoopRel w F base (.pointer (some ⟨B, 0, none⟩)) (.slice CA n cc) most wv lv word es (edgeS sts codes most fuel part last was before word) f1 OA iv wr) (fun iv _ => es.length - (intOf iv).toNat)
      case atStart => exact ⟨0, wv, lv1, rfl, HAT.out⟩
      case round =>
        obtain ⟨t, wv2, lv2, rfl, hat⟩ := hrel
        have HA := Lib.hid hat
        have htle := hat.le
        clear hat
        rcases Nat.lt_or_ge t es.length with hlt | hge
        · have HLT := Lib.hid hlt
          have h256 : es.length ≤ 256 := by
            rcases Nat.lt_or_ge state sts.length with h | h
            · obtain ⟨sk, hsk⟩ : ∃ sk, sts[state]? = some sk := ⟨_, List.getElem?_eq_getElem h⟩
              have hes := HES.out
              rw [stAt_in hsk] at hes
              rw [← hes]
              exact rising_few (FX.out.all state sk hsk).1
            · have hes := HES.out
              rw [stAt_out (.inr (by omega))] at hes
              rw [← hes]; simp
          have H256 := Lib.hid h256
          obtain ⟨ed, hed⟩ : ∃ ed, es[t]? = some ed := ⟨_, List.getElem?_eq_getElem hlt⟩
          obtain ⟨qq, oo, eOA, hcells⟩ := HA.out.out.2.2 (by omega)
          have hct := hcells t (.int .u8 ed.1.toNat) (by simp [Lib.byteCells, hed])
          cases eOA
          obtain ⟨g, hg⟩ : ∃ g, (es.take t).foldl (edgeS sts codes most fuel part last was before word) f1 = g := ⟨_, rfl⟩
          have hcapr := CAP.out.kept HA.out.kp ⟨WK.out.off FX.out.ne.1 FX.out.lt.1, WK.out.off FX.out.ne.2.1 FX.out.lt.2.1, WK.out.off FX.out.ne.2.2.1 FX.out.lt.2.2.1, WK.out.off FX.out.ne.2.2.2 FX.out.lt.2.2.2⟩
          have hwkr := HA.out.wk
          rw [hg] at hwkr
          have hgr := kp_grown HG0.out HA.out.kp HLOW.out
          have hnx : nextS sts (state : Int) ed.1 = some ed.2 ∧ ed.2 < state := by
            have hes := HES.out
            have hlts : state < sts.length := by
              rcases Nat.lt_or_ge state sts.length with h | h
              · exact h
              · rw [stAt_out (.inr (by omega))] at hes
                rw [← hes] at hed; simp at hed
            obtain ⟨sk, hsk⟩ : ∃ sk, sts[state]? = some sk := ⟨_, List.getElem?_eq_getElem hlts⟩
            rw [stAt_in hsk] at hes
            obtain ⟨hp, hlo2⟩ := FX.out.all state sk hsk
            have hmem : ed ∈ sk.2 := by rw [hes]; exact List.mem_of_getElem? hed
            exact ⟨nextS_edge hsk hp hmem, hlo2 ed hmem⟩
          have hgs : g.steps ≤ 1000000 ∧ g.l.length ≤ 1000000 := by
            have h1 := fold_grows (edgeS sts codes most fuel part last was before word) (edgeS_grows sts codes most fuel part last was before word) (es.drop t) g
            rw [← hg, ← List.foldl_append, List.take_append_drop, hg] at h1
            have h2 := HST.out
            have h3 := HLEN.out
            rw [HES.out] at h2 h3
            omega
          have k2 := hcapr.f
          have k1 := hcapr.a
          have HCAPR := Lib.hid hcapr
          have HWKR := Lib.hid hwkr
          have HGR := Lib.hid hgr
          have HNX := Lib.hid hnx
          have HGG := Lib.hid hg
          have HED := Lib.hid hed
          have HCELLS := Lib.hid hcells
          clear hcapr hwkr hgr hnx hg hed hcells
          go_wp2_with fail
          refine (next_walk _ B M _ lvb _ _ (state : Int) ed.1 wr (FX.out.bd.kept HGR.out)).mono ?_
          rintro e9 w3 ⟨rfl, hg3⟩
          rw [HNX.out.1]
          have hwk3 := HWKR.out.kept hg3
          have c2 := hg3.cell k2 nofun
          have c5 := cell_of_heap hwk3.hF 5
          have z5 := frozen_of_heap hwk3.hF 5
          have HG3 := Lib.hid hg3
          have HWK3 := Lib.hid hwk3
          clear hg3 hwk3 hct
          go_upto_region 7 with (fail)
          obtain ⟨u0, hu, hu0, hu1, hu2⟩ := info_parts byte_info
          have hwF2 : wv2.ownBlock ≠ some F := fun e => by have := (own_ge' HWK3.out.word e).1; have := HWK3.out.small; omega
          have hlF2 : lv2.ownBlock ≠ some F := fun e => by have := (own_ge' HWK3.out.offers e).1; have := HWK3.out.small; omega
          have hwk4 : Wk (w3.setCell ⟨F, 5, none⟩ (.int .i64 ((g.steps : Int) + 1))) F base (.pointer (some ⟨B, 0, none⟩)) (.slice CA n cc) most wv2 lv2 word ⟨g.l, g.steps + 1⟩ :=
            ⟨heap_setCell HWK3.out.hF 5 _, ownsRow_setCell HWK3.out.word hwF2 5 _, ownsRow_setCell HWK3.out.offers hlF2 5 _, HWK3.out.apart, HWK3.out.small⟩
          have hkp4 : Kp (Mut F wv2 lv2) wr (w3.setCell ⟨F, 5, none⟩ (.int .i64 ((g.steps : Int) + 1))) :=
            Kp.trans (Kp.of_grown HG3.out nofun) (Kp.of_grown (S := Mut F wv2 lv2) (grownBy_setCell (grownBy_refl w3 (some F)) F 5 _ (.inl rfl)) (fun k hk => .inl (.inl (Option.some.inj hk).symm))) (fun _ _ h => h)
          generalize w3.setCell ⟨F, 5, none⟩ (.int .i64 ((g.steps : Int) + 1)) = w4 at *
          have hoffF := WK.out.off FX.out.ne.2.2.1 FX.out.lt.2.2.1
          have hoffF2 : ¬ Mut F wv2 lv2 pf := HWKR.out.off FX.out.ne.2.2.1 FX.out.lt.2.2.1
          have d2 := hkp4.cell HCAPR.out.f hoffF2
          have d3 := cell_of_heap hwk4.hF 3
          have hw4s := hkp4.size
          have HWK4 := Lib.hid hwk4
          have HKP4 := Lib.hid hkp4
          have hal := World.grownBy_alloc w4.drew (.cells #[.int .u8 ed.1.toNat] 5) none
          have how := Lib.hid (ownsRow_kept (ownsRow_drewN hwk4.word 1) hal (own_none _))
          have hsl := Lib.hid (Sl.of_own (World.ownsRow_lit (base := 0) (size := 1) (e := 5) w4.drew #[.int .u8 ed.1.toNat] 1 (Nat.zero_le _) (by decide) rfl) (by intro x hx; simp at hx; subst hx; rfl))
          have hFa := Lib.hid (grownBy_heap hal (show w4.drew.heap[F]? = _ from hwk4.hF) nofun)
          have m2 := hal.cell (a := ⟨pf, 0, none⟩) d2 nofun
          have m3 := hal.cell (a := ⟨F, 3, none⟩) d3 nofun
          have n3 := (World.grownBy_alloc w4 (.cells #[.int .u8 ed.1.toNat] 5) none).cell (a := ⟨F, 3, none⟩) d3 nofun
          have hoffp : some pf ≠ wv2.ownBlock := fun e => by have := (own_ge' hwk4.word e.symm).1; have := FX.out.lt.2.2.1; omega
          have npF := FX.out.ne.2.2.1
          have hbw4 : base ≤ w4.heap.size := by have := HA.out.kp.size; omega
          have HAL := Lib.hid hal
          clear hwk4 hkp4 hal c2 c5 z5 hoffF hoffF2 k1 k2
          go_cut [] (fun wx => ∃ wv3, Wk wx F base (.pointer (some ⟨B, 0, none⟩)) (.slice CA n cc) most wv3 lv2 (word ++ [ed.1]) ⟨g.l, g.steps + 1⟩ ∧ Kp (Mut F wv2 lv2) wr wx ∧ ∀ k, Mut F wv3 lv2 k → Mut F wv2 lv2 k ∨ wr.heap.size ≤ k)
          case first =>
            go_wp2_with fail
            have hoffF3 : some F ≠ wv2.ownBlock := fun e => hwF2 e.symm
            refine region_tail 10 (fun u => u.cell? ⟨pf, 0, none⟩ = some (.pointer (some ⟨F, 0, none⟩)) ∧ u.cell? ⟨F, 3, none⟩ = some wv2) (by kernel_rfl) ⟨d2, d3⟩ (fun hHeld => ?_)
            refine tail_take 0 (v := ?_) rfl (by kernel_rfl) (by kernel_rfl) (by kernel_rfl) (by kernel_rfl) (fun _ _ _ h => h) (by rfl) (fun u hu => ?_) (by assumption) ?_
            rotate_left
            focus ((try dsimp only at hu); go_simp; try with_reducible rfl)
            try simp only [Act.put]
            refine tail_take 1 (v := ?_) rfl (by kernel_rfl) (by kernel_rfl) (by kernel_rfl) (by kernel_rfl) (fun _ _ _ h => h) (by rfl) (fun u hu => ?_) (by assumption) ?_
            rotate_left
            focus ((try dsimp only at hu); go_simp; try with_reducible rfl)
            try simp only [Act.put]
            refine tail_take 2 (v := ?_) rfl (by kernel_rfl) (by kernel_rfl) (by kernel_rfl) (by kernel_rfl) (fun _ _ _ h => h) (by rfl) (fun u hu => ?_) (by assumption) ?_
            rotate_left
            focus ((try dsimp only at hu); go_simp; try with_reducible rfl)
            try simp only [Act.put]
            refine tail_take 3 (v := ?_) rfl (by kernel_rfl) (by kernel_rfl) (by kernel_rfl) (by kernel_rfl) (fun _ _ _ h => h) (by rfl) (fun u hu => ?_) (by assumption) ?_
            rotate_left
            focus ((try dsimp only at hu); go_simp; try with_reducible rfl)
            try simp only [Act.put]
            refine tail_take 4 (v := ?_) rfl (by kernel_rfl) (by kernel_rfl) (by kernel_rfl) (by kernel_rfl) (fun _ _ _ h => h) (by rfl) (fun u hu => ?_) (by assumption) ?_
            rotate_left
            focus ((try dsimp only at hu); go_simp; try with_reducible rfl)
            try simp only [Act.put]
            refine tail_take 5 (v := ?_) rfl (by kernel_rfl) (by kernel_rfl) (by kernel_rfl) (by kernel_rfl) (fun _ _ _ h => h) (by rfl) (fun u hu => ?_) (by assumption) ?_
            rotate_left
            focus ((try dsimp only at hu); go_simp; try with_reducible rfl)
            try simp only [Act.put]
            refine tail_step 6 (by kernel_rfl) rfl (fun K hK => ?_)
            go_simp
            refine hK.out _ _ (by exact ⟨m2, m3⟩) (fun hHeld6 => ?_)
            clear hK K
            try simp only [Act.put]
            refine tail_step 7 (by kernel_rfl) rfl (fun K hK => ?_)
            refine step_append_sl _ (by rfl) _ _ 74 (by rfl) base 5 u0 _ 1 1 Tryd.underlying74 hu hu0 hu1 hu2 rfl (by decide) wv2 word.length _ (by rfl) how.out (some ⟨w4.heap.size, 0, none⟩) 1 1 _ (by rfl) hsl.out (by unfold maxLen; omega) (by omega) (by simp; omega) ?_; intro v5 w5 hap; obtain ⟨q5, c5, hv5, _, hq5, hq6⟩ := own_form hap.1 (by omega); subst hv5; have hF5 := Lib.hid (grownBy_heap hap.2.1 hFa.out hwF2); have q1 := cell_of_heap hF5.out 3; have q2 := frozen_of_heap hF5.out 3; have r2 := hap.2.1.cell m2 hoffp; have r3 := hap.2.1.cell m3 hoffF3; have HAP := Lib.hid hap; clear hap
            refine hK.out _ _ (by exact ⟨r2, r3⟩) (fun hHeld7 => ?_)
            clear hK K
            try simp only [Act.put]
            refine tail_step 8 (by kernel_rfl) rfl (fun K hK => ?_)
            go_simp
            refine hK.out _ _ (by exact ⟨r2, r3⟩) (fun hHeld8 => ?_)
            clear hK K
            try simp only [Act.put]
            refine tail_step 9 (by kernel_rfl) rfl (fun K hK => ?_)
            go_simp
            refine hK.out _ _ (by exact ⟨r2, r3⟩) (fun hHeld9 => ?_)
            clear hK K
            try simp only [Act.put]
            refine tail_last (by kernel_rfl) rfl (fun K hK => ?_)
            go_simp
            refine hK.out _ _ ?_
            clear hK K
            refine tail_done (by kernel_rfl) ?_
            all_goals
              go_wp2_with fail
              go_meet
              have hqF : q5 ≠ F := fun e => by have := HWK4.out.small; omega
              have hov : (Value.slice (some ⟨q5, 0, none⟩) (word.length + 1) c5).ownBlock = some q5 := rfl
              have hat := HAP.out.2.2
              rw [hov] at hat
              have hXX : w4.heap.size ≤ (w4.drew.alloc (.cells #[.int .u8 ed.1.toNat] 5)).heap.size := HAL.out.size
              have hfresh : some q5 = wv2.ownBlock ∨ w4.heap.size ≤ q5 := by
                rcases hat with h | h
                · exact .inl h
                · have h3 := Option.some.inj h
                  change q5 = (w4.drew.alloc (.cells #[.int .u8 ed.1.toNat] 5)).heap.size at h3
                  exact .inr (by omega)
              refine ⟨.slice (some ⟨q5, 0, none⟩) (word.length + 1) c5, ⟨heap_setCell hF5.out 3 _, ?_, ?_, ?_, HWK4.out.small⟩, ?_, ?_⟩
              · have e1 : (word ++ [ed.1]).length = word.length + 1 := by simp
                have e2 : Lib.byteCells (word ++ [ed.1]) = Lib.byteCells word ++ [.int .u8 ed.1.toNat] := by simp [Lib.byteCells]
                rw [e1, e2]
                exact ownsRow_setCell HAP.out.1 (by rw [hov]; intro e; exact hqF (Option.some.inj e)) 3 _
              · exact ownsRow_setCell (ownsRow_kept (ownsRow_kept (ownsRow_drewN HWK4.out.offers 1) HAL.out (own_none _)) HAP.out.2.1 (by
                  rcases HWK4.out.apart with h | h
                  · rw [h]; exact own_none _
                  · exact .inr (fun e => h e.symm))) hlF2 3 _
              · refine .inr ?_
                rw [hov]
                intro e
                rcases hfresh with h | h
                · rcases HWK4.out.apart with h2 | h2
                  · rw [h2] at h; cases h
                  · exact h2 (by rw [← h, e])
                · have := (own_ge' HWK4.out.offers e.symm).2
                  omega
              · exact Kp.trans HKP4.out (Kp.trans (Kp.trans (Kp.of_grown (grownBy_trans (grownBy_drew (grownBy_refl w4 none)) HAL.out nofun) nofun) (Kp.of_grown (S := Mut F wv2 lv2) HAP.out.2.1 (fun k hk => .inl (.inr (.inl hk)))) (fun _ _ h => h)) (Kp.of_grown (S := Mut F wv2 lv2) (grownBy_setCell (grownBy_refl w5 (some F)) F 3 _ (.inl rfl)) (fun k hk => .inl (.inl (Option.some.inj hk).symm))) (fun _ _ h => h)) (fun _ _ h => h)
              · rintro k (e | e | e)
                · exact .inl (.inl e)
                · rw [hov] at e
                  rcases hfresh with h | h
                  · exact .inl (.inr (.inl (by rw [← h, e])))
                  · have := Option.some.inj e
                    exact .inr (by omega)
                · exact .inl (.inr (.inr e))
          case rest =>
            obtain ⟨wv3, hwk5, hkp5, hold5⟩ := hcut
            obtain ⟨q6, c6, rfl, hqc, _, _⟩ := own_form hwk5.word (by simp)
            obtain ⟨j, hj⟩ : ∃ j, word.length = part + j := ⟨word.length - part, by omega⟩
            have hl1 : (word ++ [ed.1]).length = part + j + 1 := by rw [List.length_append, hj]; rfl
            obtain ⟨s, hs⟩ : ∃ s, (word ++ [ed.1]).drop (word.length - part) = s := ⟨_, rfl⟩
            have hsl5 : s.length = part + 1 := by rw [← hs, List.length_drop, hl1, hj]; omega
            have hcells5 := (Sl.of_own hwk5.word (fun x hx => by obtain ⟨y, _, rfl⟩ := List.mem_map.1 hx; rfl)).2.2 (by omega)
            have hcv : ∀ nq, (convert 74 9 (.slice (some ⟨q6, j, none⟩) (part + j + 1 - j) (c6 - j))).run Tryd.prog (wc.drewN nq) = .ok (.string ⟨s.toArray⟩) (wc.drewN nq) := by
              intro nq
              rw [show part + j + 1 - j = s.length by omega]
              refine run_convert_bytes_back (wc.drewN nq) 74 9 5 ⟨q6, j, none⟩ _ s Tryd.underlying74 Tryd.underlying5 Tryd.underlying9 (fun i hi => ?_)
              obtain ⟨b', o', e', hc'⟩ := hcells5
              cases e'
              rw [Addr.add_mid]
              have hget : (word ++ [ed.1])[j + i]? = some s[i] := by
                have h1 : ((word ++ [ed.1]).drop (word.length - part))[i]? = s[i]? := by rw [hs]
                rw [List.getElem?_drop, List.getElem?_eq_getElem hi] at h1
                rw [← h1]; congr 1; omega
              have := hc' (j + i) (.int .u8 (s[i]).toNat) (by unfold Lib.byteCells; rw [List.getElem?_map, hget]; rfl)
              rw [Nat.zero_add] at this
              exact this
            rw [hl1] at hqc
            have k2 := hkp5.cell HCAPR.out.f (HWKR.out.off FX.out.ne.2.2.1 FX.out.lt.2.2.1)
            have k3 := cell_of_heap hwk5.hF 3
            rw [hl1] at k3
            have HWK5 := Lib.hid hwk5
            have HKP5 := Lib.hid hkp5
            have HOLD5 := Lib.hid hold5
            have HS := Lib.hid hs
            clear hwk5 hkp5 hold5 hs hcells5
            have hb1 : (part : Int) ≤ (part : Int) + (j : Int) + 1 := by omega
            have hw1 : IntKind.i64.wrap ((part : Int) + (j : Int) + 1 - (part : Int)) = (j : Int) + 1 := by rw [IntKind.wrap_i64]; omega
            have hw2 : IntKind.i64.wrap (j : Int) = (j : Int) := by rw [IntKind.wrap_i64]; omega
            have hb2 : (j : Int) ≤ (part : Int) + (j : Int) + 1 := by omega
            have hcj : ¬ c6 = j := by omega
            go_wp2_with fail
            go_quiet (fail)
            have HG6 := Lib.hid (grownBy_drewN (grownBy_refl wc none) nq)
            have hsne : s ≠ [] := by intro e; rw [e] at hsl5; cases hsl5
            have hgc := kp_grown HGR.out HKP5.out (HWKR.out.low FX.out.hF FX.out.hb)
            have HTAB := Lib.hid (tabs_kept (tabs_kept FX.out.tabs hgc) HG6.out)
            go_wp2_with fail
            refine (at_unit s hsne (by omega) (wc.drewN nq) HTAB.out).mono ?_
            rintro e10 w6 ⟨un, rfl, hg6⟩
            have HG7 := Lib.hid (grownBy_trans HG6.out hg6 nofun)
            obtain ⟨cs, hcs⟩ : ∃ cs, codeB s = cs := ⟨_, rfl⟩
            rw [hcs]
            have HCS := Lib.hid hcs
            have k6 := hg6.cell (a := ⟨pf, 0, none⟩) (v := .pointer (some ⟨F, 0, none⟩)) (by simpa using k2) nofun
            clear hg6 hcs hcv k2 k3
            have hgal := World.grownBy_alloc w6 (.cells #[.int .i64 0, .int .i64 un, .int .i64 cs] 96) none
            have n6 := hgal.cell k6 nofun
            have HG8 := Lib.hid (grownBy_trans HG7.out hgal nofun)
            clear hgal k6
            have hge : (edgeS sts codes most fuel part last was before word g ed).steps ≤ 1000000 ∧ (edgeS sts codes most fuel part last was before word g ed).l.length ≤ 1000000 := by
              have h0 : (es.take (t + 1)).foldl (edgeS sts codes most fuel part last was before word) f1 = edgeS sts codes most fuel part last was before word g ed := by
                rw [List.take_add_one, HED.out, Option.toList_some, List.foldl_append, HGG.out]; rfl
              have h1 := fold_grows (edgeS sts codes most fuel part last was before word) (edgeS_grows sts codes most fuel part last was before word) (es.drop (t + 1)) (edgeS sts codes most fuel part last was before word g ed)
              rw [← h0, ← List.foldl_append, List.take_append_drop, h0] at h1
              have h2 := HST.out
              have h3 := HLEN.out
              rw [HES.out] at h2 h3
              omega
            have HGE := Lib.hid hge
            have hrows : RowsAt w (Mut F wv lv) n Mx lastv last (some ⟨wb, wo, none⟩) was := ⟨HLAST.out, HLO.out, HWAS.out, HWO.out, HWL.out, HWB.out, HLB.out⟩
            have HROWS := Lib.hid (((hrows.next HA.out.kp HA.out.old).next HKP5.out HOLD5.out).kept HG8.out)
            clear hge hrows
            go_upto_block 2 with (fail)
            go_cut [] (fun wx => ∃ wv3 lv3, Wk wx F base (.pointer (some ⟨B, 0, none⟩)) (.slice CA n cc) most wv3 lv3 (word ++ [ed.1]) (edgeS sts codes most fuel part last was before word g ed) ∧ Kp (Mut F wv2 lv2) wr wx ∧ ∀ k, Mut F wv3 lv3 k → Mut F wv2 lv2 k ∨ wr.heap.size ≤ k)
            case first =>
              rcases Int.lt_or_le cs 0 with hneg | hpos
              · go_wp2_with fail
                refine (full_walk s hsne (by omega) _ (tabs_kept (tabs_kept FX.out.tabs hgc) HG8.out)).mono ?_
                rintro e11 w7 ⟨rfl, hg7⟩
                have HG9 := Lib.hid (grownBy_trans HG8.out hg7 nofun)
                have HROWS9 := Lib.hid (HROWS.out.kept hg7)
                clear hg7 n6
                cases hfb : fullB s
                · have he := edgeS_part (sts := sts) (codes := codes) (most := most) (fuel := fuel) (last := last) (was := was) (before := before) (g := g) HS.out (by rw [HCS.out]; exact hneg) hfb
                  have hge := HGE.out
                  rw [he] at hge
                  have hwl1 : (word ++ [ed.1]).length = word.length + 1 := by simp
                  have hcap9 := (HCAPR.out.kept HKP5.out ⟨HWKR.out.off FX.out.ne.1 FX.out.lt.1, HWKR.out.off FX.out.ne.2.1 FX.out.lt.2.1, HWKR.out.off FX.out.ne.2.2.1 FX.out.lt.2.2.1, HWKR.out.off FX.out.ne.2.2.2 FX.out.lt.2.2.2⟩).kept (Kp.of_grown (S := fun _ => False) HG9.out nofun) ⟨id, id, id, id⟩
                  have k8 := hcap9.o
                  have hsz9 := HG9.out.size
                  have hsz5 := HKP5.out.size
                  have hszA := HA.out.kp.size
                  have hbd := IH.out w0 pa pc pf po F base B M base0 lvb start sts CA n cc codes FX.out w7 ed.2 (part + 1) most Mx last was before lastv _ lv2 (some ⟨wb, wo, none⟩) wasc (word ++ [ed.1]) ⟨g.l, g.steps + 1⟩
                    (grownBy_trans hgc HG9.out nofun) (by omega) hcap9 (HWK5.out.kept HG9.out) HROWS9.out.la HROWS9.out.lo HROWS9.out.wa HROWS9.out.wo HROWS9.out.wl HROWS9.out.wb HROWS9.out.lb (by omega) (by have := HNX.out.2; omega) (by omega) (by omega) hge.1 hge.2
                  rw [show ((part + 1 : Nat) : Int) = (part : Int) + 1 from rfl] at hbd
                  have HBD := Lib.hid hbd
                  have HE := Lib.hid he
                  clear he hge hbd hcap9
                  go_wp2_with fail
                  refine HBD.out.mono ?_
                  rintro e12 w9 ⟨wv9, lv9, rfl, hwk9, hkp9, hold9⟩
                  go_wp2_with fail
                  go_meet
                  rw [HE.out]
                  refine ⟨wv9, lv9, hwk9, Kp.trans HKP5.out (Kp.trans (Kp.of_grown HG9.out nofun) hkp9 (fun i hi h => h)) (fun i hi h => ?_), fun k hk => ?_⟩
                  · rcases HOLD5.out i h with h1 | h1
                    · exact h1
                    · omega
                  · rcases hold9 k hk with h1 | h1
                    · exact HOLD5.out k h1
                    · exact .inr (by omega)
                · have he := edgeS_full (sts := sts) (codes := codes) (most := most) (fuel := fuel) (last := last) (was := was) (before := before) (g := g) HS.out (by rw [HCS.out]; exact hneg) hfb
                  have HE := Lib.hid he
                  clear he
                  go_wp2_with fail
                  go_meet
                  rw [HE.out]
                  exact ⟨_, lv2, HWK5.out.kept HG9.out, Kp.trans HKP5.out (Kp.of_grown (S := Mut F wv2 lv2) HG9.out nofun) (fun _ _ h => h), HOLD5.out⟩
              · have hwk8 := HWK5.out.kept HG8.out
                have HWK8 := Lib.hid hwk8
                clear hwk8
                go_wp2_with fail
                refine (row_walk F n most Mx _ _ _ _ lastv CA (some ⟨wb, wo, none⟩) cc wasc codes last was before cs _ FX.out.hn FX.out.hn2 HWK8.out.hF (FX.out.codes.kept (grownBy_trans hgc HG8.out nofun) nofun) HROWS.out.la HROWS.out.lb HROWS.out.wa HROWS.out.wl HROWS.out.wb (by omega)).mono ?_
                rintro e11 w8 ⟨q8, c8, rfl, hown8, hg8⟩
                have HG9 := Lib.hid (grownBy_trans HG8.out hg8 nofun)
                by_cases hnear : leastS (rowS codes last was before cs n) ≤ most
                · rw [decide_eq_true hnear]
                  have he := edgeS_near (sts := sts) (codes := codes) (most := most) (fuel := fuel) (last := last) (was := was) (before := before) (g := g) HS.out (by rw [HCS.out]; exact hpos) (by rw [HCS.out, FX.out.hn]; exact hnear)
                  rw [HCS.out, FX.out.hn] at he
                  have hge := HGE.out
                  rw [he] at hge
                  have hwl1 : (word ++ [ed.1]).length = word.length + 1 := by simp
                  have hcap9 := (HCAPR.out.kept HKP5.out ⟨HWKR.out.off FX.out.ne.1 FX.out.lt.1, HWKR.out.off FX.out.ne.2.1 FX.out.lt.2.1, HWKR.out.off FX.out.ne.2.2.1 FX.out.lt.2.2.1, HWKR.out.off FX.out.ne.2.2.2 FX.out.lt.2.2.2⟩).kept (Kp.of_grown (S := fun _ => False) HG9.out nofun) ⟨id, id, id, id⟩
                  have k8 := hcap9.o
                  have h19 := cell_of_heap (grownBy_heap hg8 (heap_alloc_new w6 (.cells #[.int .i64 0, .int .i64 un, .int .i64 cs] 96 (0, 0))) nofun) 2
                  have hrw := HROWS.out.push (wc := wasc) hg8 (fun k hk => HWK8.out.mut hk) hown8 (rowS_length _ _ _ _ _ _) (rowS_le HROWS.out.wb n)
                  have hsz9 := HG9.out.size
                  have hsz5 := HKP5.out.size
                  have hszA := HA.out.kp.size
                  have hbd := IH.out w0 pa pc pf po F base B M base0 lvb start sts CA n cc codes FX.out w8 ed.2 0 most (Mx + 1) (some was) (rowS codes last was before cs n) cs (.slice (some ⟨wb, wo, none⟩) (n + 1) wasc) _ lv2 (some ⟨q8, 0, none⟩) c8 (word ++ [ed.1]) ⟨g.l, g.steps + 1⟩
                    (grownBy_trans hgc HG9.out nofun) (by omega) hcap9 (HWK5.out.kept HG9.out) hrw.la hrw.lo hrw.wa hrw.wo hrw.wl hrw.wb hrw.lb (by omega) (by have := HNX.out.2; omega) (by omega) (Nat.zero_le _) hge.1 hge.2
                  rw [show ((0 : Nat) : Int) = 0 from rfl] at hbd
                  have HBD := Lib.hid hbd
                  have HE := Lib.hid he
                  clear he hge hbd hcap9 hrw hown8 hg8 n6
                  go_wp2_with fail
                  refine HBD.out.mono ?_
                  rintro e12 w9 ⟨wv9, lv9, rfl, hwk9, hkp9, hold9⟩
                  go_wp2_with fail
                  go_meet
                  rw [HE.out]
                  refine ⟨wv9, lv9, hwk9, Kp.trans HKP5.out (Kp.trans (Kp.of_grown HG9.out nofun) hkp9 (fun i hi h => h)) (fun i hi h => ?_), fun k hk => ?_⟩
                  · rcases HOLD5.out i h with h1 | h1
                    · exact h1
                    · omega
                  · rcases hold9 k hk with h1 | h1
                    · exact HOLD5.out k h1
                    · exact .inr (by omega)
                · rw [decide_eq_false hnear]
                  have he := edgeS_far (sts := sts) (codes := codes) (most := most) (fuel := fuel) (last := last) (was := was) (before := before) (g := g) HS.out (by rw [HCS.out]; exact hpos) (by rw [HCS.out, FX.out.hn]; exact hnear)
                  have HE := Lib.hid he
                  clear he hown8 hg8 n6
                  go_wp2_with fail
                  go_meet
                  rw [HE.out]
                  exact ⟨_, lv2, HWK5.out.kept HG9.out, Kp.trans HKP5.out (Kp.of_grown (S := Mut F wv2 lv2) HG9.out nofun) (fun _ _ h => h), HOLD5.out⟩
            case rest =>
              obtain ⟨wv3, lv3, hwk6, hkp6, hold6⟩ := hcut
              obtain ⟨q7, c7, rfl, hqc7, _, _⟩ := own_form hwk6.word (by simp)
              obtain ⟨m, hm⟩ : ∃ m, word.length = m := ⟨_, rfl⟩
              have hl2 : (word ++ [ed.1]).length = m + 1 := by rw [List.length_append, hm]; rfl
              rw [hl2] at hqc7
              have k2 := hkp6.cell HCAPR.out.f (HWKR.out.off FX.out.ne.2.2.1 FX.out.lt.2.2.1)
              have k3 := cell_of_heap hwk6.hF 3
              have z3 := frozen_of_heap hwk6.hF 3
              rw [hl2] at k3
              have HWK6 := Lib.hid hwk6
              have HKP6 := Lib.hid hkp6
              have HOLD6 := Lib.hid hold6
              have HM := Lib.hid hm
              have hb3 : (m : Int) ≤ (c7 : Int) := by omega
              have hb4 : IntKind.i64.wrap (m : Int) = (m : Int) := by rw [IntKind.wrap_i64]; omega
              clear hwk6 hkp6 hold6 n6 hm
              go_wp2_with fail
              refine region_tail 14 (fun u => u.cell? ⟨pf, 0, none⟩ = some (.pointer (some ⟨F, 0, none⟩)) ∧ u.cell? ⟨F, 3, none⟩ = some (.slice (some ⟨q7, 0, none⟩) (m + 1) c7)) (by kernel_rfl) ⟨k2, k3⟩ (fun hHeld => ?_)
              refine tail_take 0 (v := ?_) rfl (by kernel_rfl) (by kernel_rfl) (by kernel_rfl) (by kernel_rfl) (fun _ _ _ h => h) (by rfl) (fun u hu => ?_) (by assumption) ?_
              rotate_left
              focus ((try dsimp only at hu); go_simp; try with_reducible rfl)
              try simp only [Act.put]
              refine tail_take 1 (v := ?_) rfl (by kernel_rfl) (by kernel_rfl) (by kernel_rfl) (by kernel_rfl) (fun _ _ _ h => h) (by rfl) (fun u hu => ?_) (by assumption) ?_
              rotate_left
              focus ((try dsimp only at hu); go_simp; try with_reducible rfl)
              try simp only [Act.put]
              refine tail_take 2 (v := ?_) rfl (by kernel_rfl) (by kernel_rfl) (by kernel_rfl) (by kernel_rfl) (fun _ _ _ h => h) (by rfl) (fun u hu => ?_) (by assumption) ?_
              rotate_left
              focus ((try dsimp only at hu); go_simp; try with_reducible rfl)
              try simp only [Act.put]
              refine tail_take 3 (v := ?_) rfl (by kernel_rfl) (by kernel_rfl) (by kernel_rfl) (by kernel_rfl) (fun _ _ _ h => h) (by rfl) (fun u hu => ?_) (by assumption) ?_
              rotate_left
              focus ((try dsimp only at hu); go_simp; try with_reducible rfl)
              try simp only [Act.put]
              refine tail_take 4 (v := ?_) rfl (by kernel_rfl) (by kernel_rfl) (by kernel_rfl) (by kernel_rfl) (fun _ _ _ h => h) (by rfl) (fun u hu => ?_) (by assumption) ?_
              rotate_left
              focus ((try dsimp only at hu); go_simp; try with_reducible rfl)
              try simp only [Act.put]
              refine tail_take 5 (v := ?_) rfl (by kernel_rfl) (by kernel_rfl) (by kernel_rfl) (by kernel_rfl) (fun _ _ _ h => h) (by rfl) (fun u hu => ?_) (by assumption) ?_
              rotate_left
              focus ((try dsimp only at hu); go_simp; try with_reducible rfl)
              try simp only [Act.put]
              refine tail_take 6 (v := ?_) rfl (by kernel_rfl) (by kernel_rfl) (by kernel_rfl) (by kernel_rfl) (fun _ _ _ h => h) (by rfl) (fun u hu => ?_) (by assumption) ?_
              rotate_left
              focus ((try dsimp only at hu); go_simp; try with_reducible rfl)
              try simp only [Act.put]
              refine tail_take 7 (v := ?_) rfl (by kernel_rfl) (by kernel_rfl) (by kernel_rfl) (by kernel_rfl) (fun _ _ _ h => h) (by rfl) (fun u hu => ?_) (by assumption) ?_
              rotate_left
              focus ((try dsimp only at hu); go_simp; try with_reducible rfl)
              try simp only [Act.put]
              refine tail_take 8 (v := ?_) rfl (by kernel_rfl) (by kernel_rfl) (by kernel_rfl) (by kernel_rfl) (fun _ _ _ h => h) (by rfl) (fun u hu => ?_) (by assumption) ?_
              rotate_left
              focus ((try dsimp only at hu); go_simp; try with_reducible rfl)
              try simp only [Act.put]
              refine tail_take 9 (v := ?_) rfl (by kernel_rfl) (by kernel_rfl) (by kernel_rfl) (by kernel_rfl) (fun _ _ _ h => h) (by rfl) (fun u hu => ?_) (by assumption) ?_
              rotate_left
              focus ((try dsimp only at hu); go_simp; try with_reducible rfl)
              try simp only [Act.put]
              refine tail_take 10 (v := ?_) rfl (by kernel_rfl) (by kernel_rfl) (by kernel_rfl) (by kernel_rfl) (fun _ _ _ h => h) (by rfl) (fun u hu => ?_) (by assumption) ?_
              rotate_left
              focus ((try dsimp only at hu); go_simp; try with_reducible rfl)
              try simp only [Act.put]
              refine tail_take 11 (v := ?_) rfl (by kernel_rfl) (by kernel_rfl) (by kernel_rfl) (by kernel_rfl) (fun _ _ _ h => h) (by rfl) (fun u hu => ?_) (by assumption) ?_
              rotate_left
              focus ((try dsimp only at hu); go_simp; try with_reducible rfl)
              try simp only [Act.put]
              refine tail_step 12 (by kernel_rfl) rfl (fun K hK => ?_)
              go_simp
              refine hK.out _ _ (by exact ⟨k2, k3⟩) (fun hHeld12 => ?_)
              clear hK K
              try simp only [Act.put]
              refine tail_step 13 (by kernel_rfl) rfl (fun K hK => ?_)
              go_simp
              refine hK.out _ _ (by exact ⟨k2, k3⟩) (fun hHeld13 => ?_)
              clear hK K
              try simp only [Act.put]
              refine tail_last (by kernel_rfl) rfl (fun K hK => ?_)
              go_simp
              refine hK.out _ _ ?_
              clear hK K
              refine tail_done (by kernel_rfl) ?_
              all_goals
                go_wp2_with fail
                go_roundw
                case rel =>
                  have h0 : (es.take (t + 1)).foldl (edgeS sts codes most fuel part last was before word) f1 = edgeS sts codes most fuel part last was before word g ed := by
                    rw [List.take_add_one, HED.out, Option.toList_some, List.foldl_append, HGG.out]; rfl
                  have hq7F : q7 ≠ F := fun e => by have := (own_ge' HWK6.out.word rfl).1; have := HWK6.out.small; omega
                  have hlF6 : lv3.ownBlock ≠ some F := fun e => by have := (own_ge' HWK6.out.offers e).1; have := HWK6.out.small; omega
                  have hw6 := HWK6.out.word
                  rw [hl2] at hw6
                  have hkp7 : Kp (Mut F wv2 lv2) wr _ := Kp.trans HKP6.out (Kp.of_grown (S := Mut F wv2 lv2) (by first | exact grownBy_drew (grownBy_setCell (grownBy_refl wc (some F)) F 3 (.slice (some ⟨q7, 0, none⟩) m c7) (.inl rfl)) | exact grownBy_setCell (grownBy_drew (grownBy_refl wc (some F))) F 3 (.slice (some ⟨q7, 0, none⟩) m c7) (.inl rfl)) (fun k hk => .inl (.inl (Option.some.inj hk).symm))) (fun _ _ h => h)
                  refine ⟨t + 1, .slice (some ⟨q7, 0, none⟩) m c7, lv3, by go_num, HLT.out, ?_, ?_, ?_, ?_, ?_⟩
                  · rw [h0]
                    exact ⟨heap_setCell HWK6.out.hF 3 _, own_less hl2 (ownsRow_setCell hw6 (by intro e; exact hq7F (Option.some.inj e)) 3 _), ownsRow_setCell HWK6.out.offers hlF6 3 _, HWK6.out.apart, HWK6.out.small⟩
                  · refine Kp.trans HA.out.kp hkp7 (fun i hi h => ?_)
                    rcases HA.out.old i h with h1 | h1
                    · exact h1
                    · omega
                  · intro k hk
                    rcases HOLD6.out k hk with h1 | h1
                    · exact HA.out.old k h1
                    · have := HA.out.kp.size
                      exact .inr (by omega)
                  · exact hkp7.sl HA.out.out (fun k _ hk => HA.out.off k hk)
                  · intro l hl
                    rcases HOLD6.out l hl with h1 | h1
                    · exact HA.out.off l h1
                    · exact HA.out.out.off_new (by decide) h1
                case measure =>
                  have := HLT.out
                  have := H256.out
                  simp [intOf]; omega
        · obtain rfl : t = es.length := by omega
          go_wp2_with fail
          go_end0
          refine ⟨wv2, lv2, rfl, ?_, HA.out.kp, HA.out.old⟩
          have h := HA.out.wk
          rw [List.take_length] at h
          rw [HES.out]
          exact h
end Go.Proofs.YtdcdhcgfhapbnaaDoor
