/-
  Layer 15's law DawgWays: the walk. Every list of numbers, every number, every byte.
-/
import Derived.Test.YtiiaphgencoijaaWordB
import Derived.Test.YtiiaphgencoijaaDawgWp
import Derived.Test.YtiiaphgencoijaaDawgH
import Derived.Test.YtiiaphgencoijaaDawgM
import Derived.Test.YtiiaphgencoijaaQuiet
namespace Go.Proofs.Ytiiaphgencoijaa
open Go Go.RowKit Go.Maps

/-- A list of numbers that came in. -/
def NumsV (w : World) (A : Option Addr) (n : Nat) : Prop := 0 < n → ∃ b o, A = some ⟨b, o, none⟩ ∧ ∀ i, i < n → ∃ x : Int, w.cell? ⟨b, o + i, none⟩ = some (.int .i64 x)

theorem NumsV.at {w w' : World} {A : Option Addr} {n : Nat} (h : NumsV w A n) (g : w.grownBy w' none) {i : Nat} (hi : i < n) : ∃ b o, ∃ x : Int, A = some ⟨b, o, none⟩ ∧ w'.cell? ⟨b, o + i, none⟩ = some (.int .i64 x) := by
  obtain ⟨b, o, rfl, h2⟩ := h (by omega)
  obtain ⟨x, hx⟩ := h2 i hi
  exact ⟨b, o, x, rfl, g.cell hx nofun⟩

theorem strCells_add (a b : List Wd) : strCells (a ++ b) = strCells a ++ strCells b := by simp [strCells]

theorem own_ge {w : World} {base : Nat} {e : TypeId} {size n : Nat} {v : Value} {xs : List Value} (h : w.ownsRow base e size v n xs) {k : Nat} (hk : v.ownBlock = some k) : base ≤ k := by
  rcases h.2 with ⟨hv, _⟩ | ⟨q, cap, _, hv, hb, _⟩
  · rw [hv] at hk; simp [Value.ownBlock] at hk
  · rw [hv] at hk; simp [Value.ownBlock] at hk; omega

set_option maxRecDepth 100000 in
set_option maxHeartbeats 4000000 in
theorem ways_walk (A : Option Addr) (n c : Nat) (st : Int) (b : UInt8) (w : World) (h : NumsV w A n) :
    Calls Try.prog 11 #[.slice A n c, .int .i64 st, .int .u8 b.toNat] w (TrueRes w) := by
  obtain ⟨i0, hi, hz0, hz1, hz2⟩ := info_parts str_info
  have H := Lib.hid h
  clear h
  go_enter Try.func11, Try.ntmps11
  go_wp2_with fail
  go_loopw [7, 8] (fun lv iv wr => ∃ (i : Nat) (W : List Wd) (A' : Option Addr) (c' : Nat), i ≤ n ∧ i ≤ 40 ∧ iv = .int .i64 i ∧ lv = .slice A' i c' ∧ (∀ x ∈ W, x.length ≤ 10) ∧ W.length = i ∧ wr.ownsRow w.heap.size 9 1 (.slice A' i c') i (strCells W) ∧ w.grownBy wr none) (fun _ iv _ => n - (intOf iv).toNat)
  case atStart => exact ⟨0, [], none, 0, Nat.zero_le _, Nat.zero_le _, rfl, rfl, by simp, rfl, World.ownsRow_nil _ _ _ _, grownBy_refl _ _⟩
  case round =>
    obtain ⟨i, W, A', c', hi1, hi2, rfl, rfl, hw10, hwl, hown, hgr⟩ := hrel
    have HW10 := Lib.hid hw10
    have HWL := Lib.hid hwl
    have HOWN := Lib.hid hown
    have HGR := Lib.hid hgr
    clear hw10 hwl hown hgr
    go_upto_region 3 with (fail)
    go_cut [32] (fun v wx => v = .bool (decide (i < n ∧ i < 40)) ∧ wx = wr)
    case first =>
      rcases Nat.lt_or_ge i n with h1 | h1
      · rcases Nat.lt_or_ge i 40 with h2 | h2
        · have hd : decide (i < n ∧ i < 40) = true := decide_eq_true ⟨h1, h2⟩
          have h3 : (i : Int) < 40 := by omega
          go_wp2_with fail
          go_meet
          exact ⟨by simp [hd], rfl⟩
        · have hd : decide (i < n ∧ i < 40) = false := decide_eq_false (by omega)
          have h3 : (40 : Int) ≤ (i : Int) := by omega
          go_wp2_with fail
          go_meet
          exact ⟨by simp [hd]; omega, rfl⟩
      · have hd : decide (i < n ∧ i < 40) = false := decide_eq_false (by omega)
        go_wp2_with fail
        go_meet
        exact ⟨by simp [hd], rfl⟩
    case rest =>
      obtain ⟨rfl, rfl⟩ := hcut
      by_cases hgo : i < n ∧ i < 40
      · have hd : decide (i < n ∧ i < 40) = true := decide_eq_true hgo
        rw [hd]
        obtain ⟨q, o, x, rfl, hc⟩ := H.out.at HGR.out hgo.1
        have hlt := hgo.1
        have hlt2 := hgo.2
        clear hgo hd
        go_wp2_with fail
        refine (word_any x wc).mono ?_
        rintro e w1 ⟨s, rfl, hs10, hg1⟩
        have hal := World.grownBy_alloc w1 (.cells #[.string ⟨s.toArray⟩] 9) none
        have how2 := Lib.hid (ownsRow_kept (ownsRow_kept HOWN.out hg1 (own_none _)) hal (own_none _))
        have hsl := Lib.hid (Sl.of_own (World.ownsRow_lit (base := 0) (size := 1) (e := 9) w1 #[.string ⟨s.toArray⟩] 1 (Nat.zero_le _) (by decide) rfl) (by intro x hx; simp at hx; subst hx; rfl))
        have HAL := Lib.hid (grownBy_trans (grownBy_trans HGR.out hg1 nofun) hal nofun)
        have hbase := HAL.out.size
        clear hal hg1
        go_wp2_with (at_builtin; refine wpList_append_sl _ rfl (.tmp 35) (.tmp 41) 44 rfl w.heap.size 9 i0 _ 1 16 Try.underlying44 hi hz0 hz1 hz2 rfl (by decide) (.slice A' i c') i _ rfl how2.out (some ⟨w1.heap.size, 0, none⟩) 1 1 _ rfl hsl.out (by unfold maxLen; omega) (by omega) hbase ?_)
        rintro v3 w3 ⟨hown3, hg3, hat3⟩
        obtain ⟨A3, c3, rfl⟩ := own_slice hown3
        have HO3 := Lib.hid hown3
        have hg3' : w.grownBy w3 none := grownBy_trans HAL.out hg3 (fun k hk => .inr (own_ge HOWN.out hk))
        have HG3 := Lib.hid hg3'
        clear hown3 hg3 hat3 hg3'
        go_wp2_with fail
        go_roundw
        case rel => exact ⟨i + 1, W ++ [s], A3, c3, by omega, by omega, by go_num, rfl, by intro x hx; rcases List.mem_append.1 hx with h | h; exact HW10.out x h; (simp at h; subst h; exact hs10), by simp [HWL.out], by rw [strCells_add]; exact HO3.out, HG3.out⟩
        case measure => simp [intOf]; omega
      · have hd : decide (i < n ∧ i < 40) = false := decide_eq_false hgo
        rw [hd]
        clear hd hgo
        have eV := few_small (W := W) (by rw [HWL.out]; omega) HW10.out
        obtain ⟨r, hr⟩ : ∃ r, buildS 201 (canon W) [] = r := ⟨_, rfl⟩
        have HV := Lib.hid eV
        have HR := Lib.hid hr
        have HW0 := Lib.hid (words_own (ss := W) HOWN.out (by omega))
        clear eV hr
        go_wp2_with fail
        refine (build_walk W A' i c' wc HW0.out).mono ?_
        rintro e w1 hb
        obtain ⟨hg, B, M, lv, rfl, hB, hbd⟩ := build_ok hb rfl HV.out HR.out
        have HG1 := Lib.hid (grownBy_trans HGR.out hg nofun)
        have HBD := Lib.hid hbd
        have hsh := (short_of HV.out).2
        have hok := buildS_ok 201 (canon W) [] (fun y hy => by have := hsh y hy; omega) (canon_rise W) (by decide)
        have hinv := buildS_inv 201 (canon W) [] r.2 (fun y hy => by have := hsh y hy; omega) (canon_rise W) (by decide) (by rw [HR.out]; exact List.prefix_refl _) ⟨by simp, by simp⟩
        rw [HR.out] at hok hinv
        obtain ⟨N, hN⟩ : ∃ N, r.2.length = N := ⟨_, rfl⟩
        have hstart := hok.2
        rw [hN] at hstart
        have hfew := hbd.few
        rw [hN] at hfew
        have HINV := Lib.hid hinv
        have HN := Lib.hid hN
        have hstates : ∀ w3, w1.grownBy w3 none → Calls Try.prog 25 #[.pointer (some ⟨B, 0, none⟩)] w3 fun e w' => e = .returned (.int .i64 N) ∧ w' = w3 := by
          intro w3 hg3
          have := states_walk _ B M _ lv _ _ w3 (HBD.out.kept hg3)
          rw [HN.out] at this; exact this
        have HST := Lib.hid hstates
        clear hbd hb hg hsh hok hinv hN hstates
        have hd1 : decide ((N : Int) < 1) = false := decide_eq_false (by omega)
        have hd2 : decide ((r.1 : Int) < 0) = false := decide_eq_false (by omega)
        have hd3 : decide (N ≤ r.1) = false := decide_eq_false (by omega)
        go_wp2_with fail
        refine (HST.out w1 (grownBy_refl _ _)).mono ?_
        rintro e w2 ⟨rfl, rfl⟩
        go_wp2_with fail
        refine (start_walk _ B M _ lv _ _ w2 HBD.out).mono ?_
        rintro e w3 ⟨rfl, rfl⟩
        go_wp2_with fail
        refine (start_walk _ B M _ lv _ _ w3 HBD.out).mono ?_
        rintro e w4 ⟨rfl, rfl⟩
        go_wp2_with fail
        refine (HST.out w4 (grownBy_refl _ _)).mono ?_
        rintro e w5 ⟨rfl, rfl⟩
        go_wp2_with fail
        go_loopw [11] (fun iv wr => ∃ k : Nat, k ≤ N ∧ k ≤ 500 ∧ iv = .int .i64 k ∧ w5.grownBy wr none) (fun iv _ => N - (intOf iv).toNat)
        case atStart => exact ⟨0, Nat.zero_le _, Nat.zero_le _, rfl, grownBy_refl _ _⟩
        case round =>
          obtain ⟨k, hk1, hk2, rfl, hgs⟩ := hrel
          have HGS := Lib.hid hgs
          clear hgs
          go_upto_region 10 with (fail)
          go_cut [78] (fun v wx => v = .bool (decide (k < N ∧ k < 500)) ∧ wx = wr)
          case first =>
            go_wp2_with fail
            refine (HST.out wr HGS.out).mono ?_
            rintro e w6 ⟨rfl, rfl⟩
            rcases Nat.lt_or_ge k N with h1 | h1
            · rcases Nat.lt_or_ge k 500 with h2 | h2
              · have hd : decide (k < N ∧ k < 500) = true := decide_eq_true ⟨h1, h2⟩
                have h3 : (k : Int) < 500 := by omega
                go_wp2_with fail
                go_meet
                exact ⟨by simp [hd], rfl⟩
              · have hd : decide (k < N ∧ k < 500) = false := decide_eq_false (by omega)
                have h3 : (500 : Int) ≤ (k : Int) := by omega
                go_wp2_with fail
                go_meet
                exact ⟨by simp [hd]; omega, rfl⟩
            · have hd : decide (k < N ∧ k < 500) = false := decide_eq_false (by omega)
              go_wp2_with fail
              go_meet
              exact ⟨by simp [hd], rfl⟩
          case rest =>
            obtain ⟨rfl, rfl⟩ := hcut
            by_cases hgo : k < N ∧ k < 500
            · have hd : decide (k < N ∧ k < 500) = true := decide_eq_true hgo
              rw [hd]
              have hkN := hgo.1
              have hk5 := hgo.2
              clear hgo hd
              obtain ⟨sk, hsk⟩ : ∃ sk, r.2[k]? = some sk := ⟨_, List.getElem?_eq_getElem (by rw [HN.out]; exact hkN)⟩
              have hst : stAt r.2 (k : Int) = sk := stAt_in hsk
              have hri : sk.2.Pairwise (fun a b => a.1 < b.1) := (HINV.out.2 k sk hsk).1
              have hto : ∀ e ∈ sk.2, e.2 < N := fun e he => Nat.lt_trans ((HINV.out.2 k sk hsk).2 e he).1 hkN
              have hsm : sk.2.length ≤ 256 := (HBD.out.small sk (List.mem_of_getElem? hsk)).1
              obtain ⟨es, hes⟩ : ∃ es, sk.2 = es := ⟨_, rfl⟩
              have hnx : ∀ e ∈ es, nextS r.2 (k : Int) e.1 = some e.2 := fun e he => nextS_edge hsk hri (by rw [hes]; exact he)
              have hfo : (nextS r.2 (k : Int) b).isSome = decide (b ∈ es.map (·.1)) := by rw [← hes]; exact nextS_found hsk b
              rw [hes] at hri hto hsm
              have HRI := Lib.hid hri
              have HTO := Lib.hid hto
              have HNX := Lib.hid hnx
              have HFO := Lib.hid hfo
              have HST2 := Lib.hid (show (stAt r.2 (k : Int)).2 = es by rw [hst, hes])
              clear hsk hst hri hto hnx hfo hes
              go_wp2_with fail
              refine (out_walk _ B M _ lv _ _ (k : Int) wc (HBD.out.kept HGS.out)).mono ?_
              rintro e w6 ⟨OA, oc, rfl, hoo, hg6⟩
              rw [HST2.out] at hoo
              rw [HST2.out]
              have HG6 := Lib.hid (grownBy_trans HGS.out hg6 nofun)
              have hslo := Sl.of_own hoo (fun x hx => by obtain ⟨y, _, rfl⟩ := List.mem_map.1 hx; rfl)
              have HSLO := Lib.hid hslo
              clear hoo hg6 hslo
              go_wp2_with fail
              go_loopw [13] (fun iv wr => ∃ t : Nat, t ≤ es.length ∧ iv = .int .i64 t ∧ w6.grownBy wr none) (fun iv _ => es.length - (intOf iv).toNat)
              case atStart => exact ⟨0, Nat.zero_le _, rfl, grownBy_refl _ _⟩
              case round =>
                obtain ⟨t, ht, rfl, hgt⟩ := hrel
                have HGT := Lib.hid hgt
                clear hgt
                rcases Nat.lt_or_ge t es.length with hlt | hge
                · obtain ⟨e, he⟩ : ∃ e, es[t]? = some e := ⟨_, List.getElem?_eq_getElem hlt⟩
                  obtain ⟨qq, oo, eOA, hcells⟩ := HSLO.out.2.2 (by omega)
                  have hct := (HGT.out.cell (hcells t (.int .u8 e.1.toNat) (by simp [Lib.byteCells, he])) nofun)
                  have hnx := HNX.out e (List.mem_of_getElem? he)
                  have hto := HTO.out e (List.mem_of_getElem? he)
                  cases eOA
                  have HNXE := Lib.hid hnx
                  have HE := Lib.hid he
                  have HCELLS := Lib.hid hcells
                  clear hcells hnx he
                  go_wp2_with fail
                  refine (next_walk _ B M _ lv _ _ (k : Int) e.1 wr (HBD.out.kept (grownBy_trans HG6.out HGT.out nofun))).mono ?_
                  rintro e9 w7 ⟨rfl, hg7⟩
                  rw [HNXE.out]
                  have HG7 := Lib.hid hg7
                  have hct7 := hg7.cell hct nofun
                  have hs8 : ∀ w8, Since w7 w8 → Calls Try.prog 25 #[.pointer (some ⟨B, 0, none⟩)] w8 fun e w' => e = .returned (.int .i64 N) ∧ Since w7 w' := by
                    intro w8 hw8
                    refine (HST.out w8 (grownBy_trans (grownBy_trans (grownBy_trans HG6.out HGT.out nofun) HG7.out nofun) hw8 nofun)).mono ?_
                    rintro e10 w9 ⟨rfl, rfl⟩
                    exact ⟨rfl, hw8⟩
                  have HS8 := Lib.hid hs8
                  clear hg7 hs8 hct
                  have hd4 : decide ((e.2 : Int) < 0) = false := decide_eq_false (by omega)
                  have hd5 : decide (N ≤ e.2) = false := decide_eq_false (by omega)
                  go_upto_region 17 with (fail)
                  go_cut [127] (fun v wx => v = .bool false ∧ w7.grownBy wx none)
                  case first =>
                    rcases Nat.eq_zero_or_pos t with rfl | hpos
                    · go_wp2_with fail
                      refine region_since (by kernel_rfl) (by kernel_rfl) ?_
                      iterate 28
                    (first
                      | (refine quiet_un ?_ ?_
                         focus (go_simp; done)
                         simp only [Act.put, List.setIfInBounds_toArray, List.set_cons_zero, List.set_cons_succ])
                      | (refine quiet_val (v := ?_) ?_ (fun w8 hw8 => ?_) ?_
                         rotate_left
                         focus (go_simp; done)
                         · skip
                           unfold Oper.quietAt Oper.quietUpon
                           go_simp
                           first
                             | done
                             | (go_at_call 25; exact HS8.out w8 hw8)
                             | rfl
                         simp only [Act.put, List.setIfInBounds_toArray, List.set_cons_zero, List.set_cons_succ]))
                      refine quiet_end ?_
                      intro w9 hw9
                      go_wp2_with fail
                      go_meet
                      exact ⟨rfl, hw9⟩
                    · obtain ⟨t', rfl⟩ : ∃ t', t = t' + 1 := ⟨t - 1, by omega⟩
                      obtain ⟨e0, he0⟩ : ∃ e0, es[t']? = some e0 := ⟨_, List.getElem?_eq_getElem (by omega)⟩
                      have hris := rising_get HRI.out he0 HE.out
                      have hcp := HG7.out.cell (HGT.out.cell (HCELLS.out t' (.int .u8 e0.1.toNat) (by simp [Lib.byteCells, he0])) nofun) nofun
                      have hwr : IntKind.i64.wrap (t' : Int) = (t' : Int) := by rw [IntKind.wrap_i64]; omega
                      have hd6 : decide (e.1.toNat ≤ e0.1.toNat) = false := decide_eq_false (Nat.not_le.2 (UInt8.lt_iff_toNat_lt.1 hris))
                      have hd7 : decide (e.1 ≤ e0.1) = false := decide_eq_false (UInt8.not_le.2 hris)
                      have hd8 : decide ((e.1.toNat : Int) ≤ (e0.1.toNat : Int)) = false := decide_eq_false (by have := UInt8.lt_iff_toNat_lt.1 hris; omega)
                      have hlt1 : t' < es.length := by omega
                      have hlt2 : (t' : Int) + 1 < (es.length : Int) := by omega
                      have hlt3 : (0 : Int) ≤ (t' : Int) + 1 := by omega
                      have hlt4 : (t' : Int) < (es.length : Int) := by omega
                      have HE0 := Lib.hid he0
                      clear he0 hris
                      go_wp2_with fail
                      refine region_since (by kernel_rfl) (by kernel_rfl) ?_
                      iterate 28
                    (first
                      | (refine quiet_un ?_ ?_
                         focus (go_simp; done)
                         simp only [Act.put, List.setIfInBounds_toArray, List.set_cons_zero, List.set_cons_succ])
                      | (refine quiet_val (v := ?_) ?_ (fun w8 hw8 => ?_) ?_
                         rotate_left
                         focus (go_simp; done)
                         · have hc8 := World.grownBy.cell hw8 hct7 nofun
                           have hc9 := World.grownBy.cell hw8 hcp nofun
                           unfold Oper.quietAt Oper.quietUpon
                           go_simp
                           first
                             | done
                             | (go_at_call 25; exact HS8.out w8 hw8)
                             | rfl
                         simp only [Act.put, List.setIfInBounds_toArray, List.set_cons_zero, List.set_cons_succ]))
                      refine quiet_end ?_
                      intro w9 hw9
                      go_wp2_with fail
                      go_meet
                      exact ⟨rfl, hw9⟩
                  case rest =>
                    obtain ⟨rfl, hgc⟩ := hcut
                    have HG8 := Lib.hid (grownBy_trans (grownBy_trans HGT.out HG7.out nofun) hgc nofun)
                    clear hgc
                    go_wp2_with fail
                    go_roundw
                    case rel => exact ⟨t + 1, by omega, by go_num, HG8.out⟩
                    case measure => simp [intOf]; omega
                · obtain rfl : t = es.length := by omega
                  go_wp2_with fail
                  refine (next_walk _ B M _ lv _ _ (k : Int) b wr (HBD.out.kept (grownBy_trans HG6.out HGT.out nofun))).mono ?_
                  rintro e9 w7 ⟨rfl, hg7⟩
                  obtain ⟨nx, hnx⟩ : ∃ nx, nextS r.2 (k : Int) b = nx := ⟨_, rfl⟩
                  have hfo := HFO.out
                  rw [hnx] at hfo
                  rw [hnx]
                  have HF := Lib.hid hfo
                  have HG7 := Lib.hid (grownBy_trans HGT.out hg7 nofun)
                  clear hfo hg7 hnx
                  go_wp2_with fail
                  go_loopw [18, 19] (fun fv iv wy => ∃ t : Nat, t ≤ es.length ∧ iv = .int .i64 t ∧ fv = .bool (decide (b ∈ (es.take t).map (·.1))) ∧ w6.grownBy wy none) (fun _ iv _ => es.length - (intOf iv).toNat)
                  case atStart => exact ⟨0, Nat.zero_le _, rfl, by simp, HG7.out⟩
                  case round =>
                    obtain ⟨t, ht2, rfl, rfl, hgt⟩ := hrel
                    have HGU := Lib.hid hgt
                    clear hgt
                    rcases Nat.lt_or_ge t es.length with hlt | hge2
                    · obtain ⟨e, he⟩ : ∃ e, es[t]? = some e := ⟨_, List.getElem?_eq_getElem hlt⟩
                      obtain ⟨qq, oo, eOA, hcells⟩ := HSLO.out.2.2 (by omega)
                      have hct := (HGU.out.cell (hcells t (.int .u8 e.1.toNat) (by simp [Lib.byteCells, he])) nofun)
                      cases eOA
                      have HMT := Lib.hid (mem_take_map (b := b) he)
                      clear hcells he
                      generalize decide (b ∈ (es.take t).map (·.1)) = inb at *
                      cases inb
                      all_goals
                        go_wp2_with fail
                        go_roundw
                        case rel => exact ⟨t + 1, by omega, by go_num, by rw [HMT.out, ← beq_byte]; simp, HGU.out⟩
                        case measure => simp [intOf]; omega
                    · obtain rfl : t = es.length := by omega
                      rw [List.take_length, ← HF.out]
                      cases nx
                      all_goals
                        go_wp2_with fail
                        go_roundw
                        case rel => exact ⟨k + 1, by omega, by omega, by go_num, grownBy_trans HG6.out HGU.out nofun⟩
                        case measure => simp [intOf]; omega
            · have hd : decide (k < N ∧ k < 500) = false := decide_eq_false hgo
              rw [hd]
              clear hd hgo
              go_wp2_with fail
              refine (HST.out wc HGS.out).mono ?_
              rintro e w6 ⟨rfl, rfl⟩
              go_wp2_with fail
              refine (place_any st 1000 w6 (by omega) (by omega)).mono ?_
              rintro e w7 ⟨rfl, rfl⟩
              obtain ⟨z, hz⟩ : ∃ z : Nat, st % 1000 = z := ⟨(st % 1000).toNat, by omega⟩
              have hz1 : z < 1000 := by omega
              rw [hz]
              clear hz
              go_wp2_with fail
              have hbdw := HBD.out.kept HGS.out
              have HBDW := Lib.hid hbdw
              clear hbdw
              refine (next_walk _ B M _ lv _ _ _ b _ HBDW.out).mono ?_
              rintro e w6 ⟨rfl, hg6⟩
              rw [nextS_out (by rw [HN.out]; omega)]
              have HG6 := Lib.hid hg6
              clear hg6
              go_wp2_with fail
              refine (next_walk _ B M _ lv _ _ _ b w6 (HBDW.out.kept HG6.out)).mono ?_
              rintro e w7 ⟨rfl, hg7⟩
              rw [nextS_out (by rw [HN.out]; omega)]
              have HG7 := Lib.hid (grownBy_trans HG6.out hg7 nofun)
              clear hg7
              go_wp2_with fail
              refine (final_walk _ B M _ lv _ _ _ w7 (HBDW.out.kept HG7.out)).mono ?_
              rintro e w8 ⟨rfl, hg8⟩
              rw [stAt_out (by rw [HN.out]; omega)]
              have HG8 := Lib.hid (grownBy_trans HG7.out hg8 nofun)
              clear hg8
              go_wp2_with fail
              refine (final_walk _ B M _ lv _ _ _ w8 (HBDW.out.kept HG8.out)).mono ?_
              rintro e w9 ⟨rfl, hg9⟩
              rw [stAt_out (by rw [HN.out]; omega)]
              have HG9 := Lib.hid (grownBy_trans HG8.out hg9 nofun)
              clear hg9
              go_wp2_with fail
              refine (out_walk _ B M _ lv _ _ _ w9 (HBDW.out.kept HG9.out)).mono ?_
              rw [stAt_out (by rw [HN.out]; omega)]
              rintro e w10 ⟨OA, oc, rfl, _, hg10⟩
              have HG10 := Lib.hid (grownBy_trans HG9.out hg10 nofun)
              clear hg10
              go_wp2_with fail
              refine (out_walk _ B M _ lv _ _ _ w10 (HBDW.out.kept HG10.out)).mono ?_
              rw [stAt_out (by rw [HN.out]; omega)]
              rintro e w11 ⟨OA2, oc2, rfl, _, hg11⟩
              have HG11 := Lib.hid (grownBy_trans HG10.out hg11 nofun)
              clear hg11
              go_wp2_with fail
              refine (awake_walk w11).mono ?_
              rintro e w12 ⟨rfl, hg12⟩
              go_wp2_with fail
              go_ret
              exact ⟨rfl, grownBy_trans (grownBy_trans (grownBy_trans HG1.out HGS.out nofun) HG11.out nofun) hg12 nofun⟩
end Go.Proofs.Ytiiaphgencoijaa
