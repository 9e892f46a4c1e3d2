/-
  Layer 13's law ClosureAll: the walk. Conditions: texts of the rules shorter than 2 to the 60; unicode/utf8's two tables as they are laid.
-/
import Derived.Test.YtlbbjcggjmaehaaDoorFew13
import Derived.Deep.RegionLaw
namespace Go.Proofs.YtlbbjcggjmaehaaDoor
open Go Go.RowKit Go.Maps

theorem few_small {w : World} {r : Ru} (h : RuRaw w r) (f : FewR r) : RuAt w r := ⟨h.cond, by have := f.1; omega, fun x hx => by have := f.2.1 x hx; omega, by have := f.2.2; omega, by have := f.2.2; omega⟩

set_option maxRecDepth 100000 in
set_option maxHeartbeats 600000 in
theorem closall_walk (rules : List Ru) (A : Option Addr) (n cap : Nat) (e : En) (w : World) (hn : rules.length = n) (hr : RusRaw w A rules) (he : Sl w 1 e.F e.flags.length (intCells e.flags)) (hT : Lib.Utf8Tabs 0 1 w) :
    Calls Tryd.prog 3 #[.slice A n cap, e.val] w (TrueRes w) := by
  have hev : e.val = .agg #[.string ⟨e.word.toArray⟩, .slice e.F e.flags.length e.cap] := rfl
  have hforms := fun (u : World) => forms_walk rules A n cap e u
  have hrforms := fun (u : World) => rforms_walk rules A n cap e u
  have hEA := fun (u : World) (h1 : e.word.length ≤ 60) (h2 : e.flags.length ≤ 30) (hu : w.grownBy u none) => (show EnAt u e from ⟨he.kept hu nofun, by omega, by omega⟩)
  have hcan := forms_canon rules e
  obtain ⟨L, hL⟩ : ∃ L, canon (formsQ rules e) = L := ⟨_, rfl⟩
  rw [hL] at hcan
  simp only [hL] at hforms
  simp only [← hcan] at hrforms
  have hLl : n ≤ 20 → L.length ≤ 1000 := fun h => by
    rw [← hL]
    have h1 := canon_len (formsQ rules e)
    have h2 := formsQ_len rules e
    have h3 : rules.length * rules.length ≤ 20 * 20 := Nat.mul_le_mul (by omega) (by omega)
    omega
  rw [hev] at hforms hrforms ⊢
  obtain ⟨word, hword⟩ : ∃ word, e.word = word := ⟨_, rfl⟩
  obtain ⟨F, hF⟩ : ∃ F, e.F = F := ⟨_, rfl⟩
  obtain ⟨m, hm⟩ : ∃ m, e.flags.length = m := ⟨_, rfl⟩
  obtain ⟨fcap, hfc⟩ : ∃ fcap, e.cap = fcap := ⟨_, rfl⟩
  rw [hword, hF, hm, hfc] at hforms hrforms ⊢
  rw [hword, hm] at hEA
  have hbox := World.grownBy_alloc w (.cells #[.string ⟨word.toArray⟩, .slice F m fcap] 25) none
  have hob := heap_alloc_new w (.cells #[.string ⟨word.toArray⟩, .slice F m fcap] 25 (0, 0))
  have hfew := few13_walk rules A n cap _ hn (hr.kept hbox)
  have z0 := size_wd word
  obtain ⟨lw, hlw⟩ : ∃ lw, word.length = lw := ⟨_, rfl⟩
  rw [hlw] at z0 hEA
  have HFO := Lib.hid hforms
  have HRF := Lib.hid hrforms
  have HEA := Lib.hid hEA
  have HLL := Lib.hid hLl
  have HB := Lib.hid hbox
  have HOB := Lib.hid hob
  have HFEW := Lib.hid hfew
  have HR := Lib.hid hr
  have HT := Lib.hid hT
  have HN := Lib.hid hn
  clear hforms hrforms hEA hLl hbox hob hfew hr hT hn he hev hcan hL hword hF hm hfc hlw
  go_enter Tryd.func3, Tryd.ntmps3
  go_wp2_with fail
  refine HFEW.out.mono ?_
  rintro x w1 ⟨b, rfl, hb, hg1⟩
  have hob1 := grownBy_heap hg1 HOB.out nofun
  have c0 := cell_of_heap hob1 0
  have c1 := cell_of_heap hob1 1
  have HG1 := Lib.hid (grownBy_trans HB.out hg1 nofun)
  have HO1 := Lib.hid hob1
  clear hg1 hob1 HFEW
  cases b with
  | false =>
    clear hb
    go_wp2_with fail
    refine (awake13_walk w1 (tabs_kept HT.out HG1.out)).mono ?_
    rintro x w2 ⟨rfl, hg2⟩
    go_wp2_with fail
    go_ret
    exact ⟨rfl, grownBy_trans HG1.out hg2 nofun⟩
  | true =>
    obtain ⟨hn20, hall⟩ := hb rfl
    clear hb
    rcases Nat.lt_or_ge 60 lw with h60 | h60
    · have p1 : (60 : Int) < (lw : Int) := by omega
      have e1 : decide ((60 : Int) < (lw : Int)) = true := decide_eq_true p1
      clear hall
      go_wp2_with fail
      refine (awake13_walk w1 (tabs_kept HT.out HG1.out)).mono ?_
      rintro x w2 ⟨rfl, hg2⟩
      go_wp2_with fail
      go_ret
      exact ⟨rfl, grownBy_trans HG1.out hg2 nofun⟩
    · have p1 : ¬ (60 : Int) < (lw : Int) := by omega
      have e1 : decide ((60 : Int) < (lw : Int)) = false := decide_eq_false p1
      rcases Nat.lt_or_ge 30 m with h30 | h30
      · have p2 : (30 : Int) < (m : Int) := by omega
        have e2 : decide ((30 : Int) < (m : Int)) = true := decide_eq_true p2
        clear hall
        go_wp2_with fail
        refine (awake13_walk w1 (tabs_kept HT.out HG1.out)).mono ?_
        rintro x w2 ⟨rfl, hg2⟩
        go_wp2_with fail
        go_ret
        exact ⟨rfl, grownBy_trans HG1.out hg2 nofun⟩
      · have p2 : ¬ (30 : Int) < (m : Int) := by omega
        have e2 : decide ((30 : Int) < (m : Int)) = false := decide_eq_false p2
        have hru : ∀ u, w.grownBy u none → RusAt u A rules := fun u hu => ⟨(HR.out.1).kept hu nofun, fun r hr => few_small ((HR.out.2 r hr).kept hu) (hall r hr)⟩
        have hLlen := HLL.out hn20
        have hF1 : ∀ u, w1.grownBy u none → Calls Tryd.prog 11 #[.slice A n cap, .agg #[.string ⟨word.toArray⟩, .slice F m fcap]] u fun x w' => ∃ v, x = .returned v ∧ OwnWd u.heap.size w' v L ∧ u.grownBy w' none := fun u hu =>
          have hu2 := grownBy_trans HG1.out hu nofun
          HFO.out u HN.out (by omega) (hru u hu2) (HEA.out u h60 h30 hu2) (tabs_kept HT.out hu2)
        have hF2 : ∀ u, w1.grownBy u none → Calls Tryd.prog 12 #[.slice A n cap, .agg #[.string ⟨word.toArray⟩, .slice F m fcap]] u fun x w' => ∃ v, x = .returned v ∧ HasWd w' v L ∧ u.grownBy w' none := fun u hu =>
          have hu2 := grownBy_trans HG1.out hu nofun
          HRF.out u HN.out (by omega) (hru u hu2) (HEA.out u h60 h30 hu2)
        have HF1 := Lib.hid hF1
        have HF2 := Lib.hid hF2
        clear hru hF1 hF2 hall HFO HRF HR HEA HLL
        obtain ⟨nL, hnL⟩ : ∃ nL, L.length = nL := ⟨_, rfl⟩
        rw [hnL] at hLlen
        have hL6 : nL ≤ 1000000 := by omega
        have HNL := Lib.hid hnL
        clear hnL
        go_upto_region 3 with (fail)
        go_wp2_with fail
        have gd : w1.grownBy w1.drew none := grownBy_drew (grownBy_refl w1 none)
        have GD := Lib.hid gd
        clear gd
        go_region_law (first
          | (go_simp; go_at_call 11; refine (HF1.out _ GD.out).mono ?_; rintro x1 u1 ⟨v1, rfl, ⟨B1, k1, rfl, hw1⟩, hgu1⟩; rw [HNL.out] at hw1 ⊢; have gx1 := Lib.hid (grownBy_trans GD.out hgu1 nofun); have y0 := gx1.out.cell c0 nofun; have y1 := gx1.out.cell c1 nofun; have sx1 := Lib.hid (Sl.of_own hw1 (strCells_one' _)); clear hw1 hgu1)
          | (go_simp; go_at_call 12; refine (HF2.out _ gx1.out).mono ?_; rintro x2 u2 ⟨v2, rfl, ⟨B2, n2, k2, rfl, hn2, _, sl2⟩, hgu2⟩; rw [HNL.out] at hn2; subst hn2; have gx2 := Lib.hid (grownBy_trans gx1.out hgu2 nofun); have sx2 := Lib.hid sl2; have sx1b := Lib.hid (sx1.out.kept hgu2 nofun); clear sl2 hgu2)
          | (go_simp; go_at_call 10; refine (same_walk L _ _ nL _ _ _ HNL.out hL6 sx1b.out sx2.out).mono ?_; rintro x3 u3 ⟨rfl, hgu3⟩; have gx3 := Lib.hid (grownBy_trans gx2.out hgu3 nofun); clear hgu3)
          | (go_simp; go_at_call 9; refine (awake13_walk _ (tabs_kept HT.out (grownBy_trans HG1.out gx3.out nofun))).mono ?_; rintro x4 u4 ⟨rfl, hgu4⟩; have gx4 := Lib.hid (grownBy_trans gx3.out hgu4 nofun); clear hgu4))
        all_goals
          go_wp2_with fail
          go_ret
          exact ⟨rfl, grownBy_trans HG1.out gx4.out nofun⟩
end Go.Proofs.YtlbbjcggjmaehaaDoor
