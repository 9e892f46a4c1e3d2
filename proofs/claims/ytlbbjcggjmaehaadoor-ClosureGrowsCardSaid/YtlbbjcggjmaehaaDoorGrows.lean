/-
  Layer 13's law ClosureGrows: the walk. Any numbers; unicode/utf8's two tables as they are laid.
-/
import Derived.Test.YtlbbjcggjmaehaaDoorGrowsP
import Derived.Test.YtlbbjcggjmaehaaDoorPlace
namespace Go.Proofs.YtlbbjcggjmaehaaDoor
open Go Go.RowKit Go.Maps

def GrEn (base : Nat) (w : World) (A : Option Addr) (c : Nat) (es : List En) : Prop :=
  w.ownsRow base 25 2 (.slice A es.length c) es.length (enCells es) ∧ ∀ e ∈ es, EnAt w e ∧ ∀ l, (Value.slice A es.length c).ownBlock = some l → Off e.F e.flags.length l

def GrRel (w1 : World) (nw : Nat) (lv iv : Value) (wr : World) : Prop :=
  ∃ (i c : Nat) (A : Option Addr) (es : List En), i ≤ nw ∧ i ≤ 12 ∧ iv = .int .i64 (i : Int) ∧ es.length = i ∧ lv = .slice A i c ∧ GrEn w1.heap.size wr A c es ∧ w1.grownBy wr none

/-- Rules whose condition is the one item. -/
def RsOk (CB : Nat) (rs : List Ru) : Prop := ∀ r ∈ rs, r.C = some ⟨CB, 0, none⟩ ∧ r.cond = [anyIt] ∧ RuSmall r

def GrRel2 (wb : World) (CB : Nat) (es : List En) (rv wv iv : Value) (wr : World) : Prop :=
  ∃ (i c nr was : Nat) (A : Option Addr) (rs : List Ru), i ≤ 12 ∧ nr ≤ i ∧ iv = .int .i64 (i : Int) ∧ rs.length = nr ∧ rv = .slice A nr c ∧ wr.ownsRow wb.heap.size 51 6 (.slice A nr c) nr (ruCells rs) ∧ RsOk CB rs ∧
    wv = .int .i64 (was : Int) ∧ was ≤ 100000 ∧ (was = 0 ∨ was ≤ (canon (es.flatMap (formsQ rs))).length) ∧ wb.grownBy wr none

theorem rus_of {CB nr c base : Nat} {A : Option Addr} {rs : List Ru} {w : World} (hl : rs.length = nr) (hown : w.ownsRow base 51 6 (.slice A nr c) nr (ruCells rs)) (hok : RsOk CB rs) (hc : CondAt w (some ⟨CB, 0, none⟩) [anyIt]) : RusAt w A rs := by
  subst hl
  refine rus_own hown fun r hr => ?_
  obtain ⟨h1, h2, h3⟩ := hok r hr
  refine ⟨?_, h3⟩
  rw [h1, h2]
  exact hc

set_option maxRecDepth 100000 in
set_option maxHeartbeats 8000000 in
theorem grows_walk (zs : List Int) (ZA : Option Addr) (nl zc : Nat) (us : List Int) (UA : Option Addr) (nw uc : Nat) (w : World) (hzn : zs.length = nl) (hz : Sl w 1 ZA nl (intCells zs)) (hun : us.length = nw) (hu : Sl w 1 UA nw (intCells us))
    (hT : Lib.Utf8Tabs 0 1 w) :
    Calls Tryd.prog 7 #[.slice ZA nl zc, .slice UA nw uc] w (TrueRes w) := by
  obtain ⟨i0, hi, hz0, hz1, hz2⟩ := info_parts rule_info
  obtain ⟨j0, hj0, kz0, kz1, kz2⟩ := info_parts entry_info
  have HT := Lib.hid hT
  have HZ := Lib.hid hz
  have HZN := Lib.hid hzn
  have HU := Lib.hid hu
  have HUN := Lib.hid hun
  clear hT hz hzn hu hun
  go_enter Tryd.func7, Tryd.ntmps7
  obtain ⟨CB, hCB⟩ : ∃ CB, w.heap.size = CB := ⟨_, rfl⟩
  have hal := World.grownBy_alloc w (.cells #[.bool true, .bool false, .slice none 0 0] 48) none
  have hit := Sl.of_own (World.ownsRow_lit (base := 0) (size := 3) (e := 48) w #[.bool true, .bool false, .slice none 0 0] 1 (Nat.zero_le _) (by decide) rfl) (by intro x hx; simp at hx; rcases hx with rfl | rfl | rfl <;> rfl)
  have hcond : CondAt (w.alloc (.cells #[.bool true, .bool false, .slice none 0 0] 48)) (some ⟨w.heap.size, 0, none⟩) [anyIt] := ⟨hit, fun z hz => by rw [List.mem_singleton] at hz; subst hz; exact Sl.nil _ _ _⟩
  have hszw : (w.alloc (.cells #[.bool true, .bool false, .slice none 0 0] 48)).heap.size = CB + 1 := by rw [World.size_alloc, hCB]
  rw [hCB] at hcond
  go_wp2_with fail
  obtain ⟨w1, hw1⟩ : ∃ w1, w.alloc (.cells #[.bool true, .bool false, .slice none 0 0] 48) = w1 := ⟨_, rfl⟩
  rw [hw1] at hcond hal hszw ⊢
  have HC := Lib.hid hcond
  have HAL := Lib.hid hal
  have HSZ := Lib.hid hszw
  clear hw1 hal hit hcond hszw
  go_loopw [6, 8] (fun lv iv wr => GrRel w1 nw lv iv wr) (fun _ iv _ => 12 - (RowKit.intOf iv).toNat)
  case atStart => exact ⟨0, 0, none, [], Nat.zero_le _, Nat.zero_le _, rfl, rfl, rfl, ⟨World.ownsRow_nil _ _ _ _, by simp⟩, grownBy_refl _ none⟩
  case round =>
    obtain ⟨i, c, A, es, hil, hi12, rfl, hes, rfl, hen, hg⟩ := hrel
    obtain ⟨hown, heach⟩ := hen
    rw [hes] at hown heach
    have HES := Lib.hid hes
    have HO := Lib.hid hown
    have HEA := Lib.hid heach
    have HG := Lib.hid hg
    have hg0 := grownBy_trans HAL.out hg nofun
    have HG0 := Lib.hid hg0
    have hwr := hg.size
    clear hes hown heach hg
    by_cases hcont : i < nw ∧ i < 12
    · obtain ⟨hlt, hlt12⟩ := hcont
      have d1 : decide ((i : Int) < (nw : Int)) = true := decide_eq_true (by omega)
      have d2 : decide ((i : Int) < (12 : Int)) = true := decide_eq_true (by omega)
      have hlti : (i : Int) < (nw : Int) := by omega
      have hlti12 : (i : Int) < 12 := by omega
      obtain ⟨z, hz⟩ : ∃ z, us[i]? = some z := ⟨_, List.getElem?_eq_getElem (by rw [HUN.out]; exact hlt)⟩
      obtain ⟨qz, oz, rfl, hcell⟩ := int_at (l := us) (by rw [HUN.out]; exact HU.out.kept hg0 nofun) hz
      obtain ⟨k, hk⟩ : ∃ k : Nat, z % 1000 = k := ⟨(z % 1000).toNat, by omega⟩
      have hk1000 : k < 1000 := by omega
      have HK := Lib.hid hk
      clear hz hk hg0
      go_wp2_with fail
      refine (place_any z 1000 wr (by omega) (by omega)).mono ?_
      rintro e w' ⟨rfl, rfl⟩
      rw [HK.out]
      obtain ⟨d, hd⟩ : ∃ d, k % 20 = d := ⟨_, rfl⟩
      obtain ⟨k1, hk1⟩ : ∃ k1, k / 20 = k1 := ⟨_, rfl⟩
      obtain ⟨f, hf⟩ : ∃ f, k1 % 3 = f := ⟨_, rfl⟩
      have hd20 : d < 20 := by omega
      have hf3 : f < 3 := by omega
      have q1 : (k : Int).tmod 20 = (d : Int) := by rw [Int.tmod_eq_emod_of_nonneg (by omega)]; omega
      have q1b : (k : Int) % 20 = (d : Int) := by omega
      have q2 : (k : Int).tdiv 20 = (k1 : Int) := by rw [Int.tdiv_eq_ediv_of_nonneg (by omega)]; omega
      have q2b : (k : Int) / 20 = (k1 : Int) := by omega
      have q3 : (k1 : Int).tmod 3 = (f : Int) := by rw [Int.tmod_eq_emod_of_nonneg (by omega)]; omega
      have q3b : (k1 : Int) % 3 = (f : Int) := by omega
      have wk1 : IntKind.i64.wrap (k1 : Int) = (k1 : Int) := by rw [IntKind.wrap_i64]; omega
      have wf : IntKind.i64.wrap (97 + (f : Int)) = 97 + (f : Int) := by rw [IntKind.wrap_i64]; omega
      clear hd hk1 hf hcell
      go_wp2_with fail
      refine (digits_walk d wr hd20).mono ?_
      rintro e wd ⟨rfl, q, rfl⟩
      obtain ⟨wd, hwd⟩ : ∃ wd, wr.drewN q = wd := ⟨_, rfl⟩
      have hgd : wr.grownBy wd none := by rw [← hwd]; exact grownBy_drewN (grownBy_refl _ none) q
      rw [hwd]
      obtain ⟨X, hX⟩ : ∃ X, digD d = X := ⟨_, rfl⟩
      have hXl : X.length ≤ 100 := by
        have h1 : ∀ v, (dig1 v).length ≤ 10 := fun v => by
          unfold dig1
          rw [List.length_drop, List.length_take]
          have : digsD.length = 10 := rfl
          omega
        rw [← hX]
        unfold digD
        split
        · have := h1 d; omega
        · rw [List.length_append]; have := h1 (d / 10); have := h1 (d % 10); omega
      rw [hX]
      have hcat := cat_wd [119, 111, 114, 100] X
      obtain ⟨Y, hY⟩ : ∃ Y : Wd, [119, 111, 114, 100] ++ X = Y := ⟨_, rfl⟩
      rw [hY] at hcat
      have hYl : Y.length ≤ 104 := by rw [← hY, List.length_append]; simp only [List.length_cons, List.length_nil]; omega
      have hll : ¬ 9223372036854775807 < 4 + X.length := by omega
      have ga1 := World.grownBy_alloc wd (.cells #[.int .i64 (97 + (f : Int)), .int .i64 112] 3) none
      have ga2 := World.grownBy_alloc (wd.alloc (.cells #[.int .i64 (97 + (f : Int)), .int .i64 112] 3)) (.cells #[.string ⟨Y.toArray⟩, .slice (some ⟨wd.heap.size, 0, none⟩) 2 2] 25) none
      have hs1 := Sl.of_own (World.ownsRow_lit (base := 0) (size := 1) (e := 3) wd #[.int .i64 (97 + (f : Int)), .int .i64 112] 2 (Nat.zero_le _) (by decide) rfl) (by intro x hx; simp at hx; rcases hx with rfl | rfl <;> rfl)
      have hs2 := Sl.of_own (World.ownsRow_lit (base := 0) (size := 2) (e := 25) (wd.alloc (.cells #[.int .i64 (97 + (f : Int)), .int .i64 112] 3)) #[.string ⟨Y.toArray⟩, .slice (some ⟨wd.heap.size, 0, none⟩) 2 2] 1 (Nat.zero_le _) (by decide) rfl) (by intro x hx; simp at hx; rcases hx with rfl | rfl <;> rfl)
      rw [World.size_alloc] at hs2
      have hgab := grownBy_trans hgd (grownBy_trans ga1 ga2 nofun) nofun
      have hsd := hgd.size
      have HO2 := Lib.hid (ownsRow_kept HO.out hgab (own_none _))
      have HSL := Lib.hid hs2
      have HGAB := Lib.hid hgab
      have HEN := Lib.hid (show EnAt _ ⟨Y, some ⟨wd.heap.size, 0, none⟩, 2, [97 + (f : Int), 112]⟩ from ⟨hs1.kept ga2 nofun, by show Y.length ≤ 100000; omega, by show 2 ≤ 100000; omega⟩)
      clear hwd hgd hX hY ga1 ga2 hs1 hs2 hgab
      go_wp2_with (at_builtin; refine wpList_append_sl _ rfl (.tmp 38) (.tmp 49) 39 rfl w1.heap.size 25 j0 _ 2 40 Tryd.underlying39 hj0 kz0 kz1 kz2 rfl (by decide) (.slice A i c) i _ rfl HO2.out (some ⟨wd.heap.size + 1, 0, none⟩) 1 1 [.string ⟨Y.toArray⟩, .slice (some ⟨wd.heap.size, 0, none⟩) 2 2] rfl HSL.out (by unfold maxLen; omega) (by omega) (by simp; omega) ?_)
      rintro v' w' ⟨hown', hg', hat⟩
      obtain ⟨q', c', rfl, hq2⟩ := own_form hown' (by omega)
      have hgw : w1.grownBy w' none := grownBy_trans (grownBy_trans HG.out HGAB.out nofun) hg' (fun l hl => .inr (HO2.out.lt l hl).1)
      have hold := HO.out.lt
      have hsz' := hg'.size
      go_wp2_with fail
      go_roundw
      case rel =>
        have el : (es ++ [(⟨Y, some ⟨wd.heap.size, 0, none⟩, 2, [97 + (f : Int), 112]⟩ : En)]).length = i + 1 := by rw [List.length_append, HES.out]; rfl
        refine ⟨i + 1, c', some ⟨q', 0, none⟩, es ++ [⟨Y, some ⟨wd.heap.size, 0, none⟩, 2, [97 + (f : Int), 112]⟩], by omega, by omega, by go_num, el, rfl, ⟨?_, fun e he => ?_⟩, hgw⟩
        · rw [el, enCells_snoc]; exact hown'
        · rw [el]
          rcases List.mem_append.1 he with he | he
          · obtain ⟨h1, h2⟩ := HEA.out e he
            refine ⟨⟨((h1.kept HGAB.out).1).kept hg' (fun l hl => h2 l hl), h1.2⟩, fun l hl => ?_⟩
            cases hl
            rcases hat with h | h
            · exact h2 _ h.symm
            · cases h
              exact (h1.kept HGAB.out).1.off_new (by decide) (Nat.le_refl _)
          · rw [List.mem_singleton] at he
            subst he
            refine ⟨⟨(HEN.out.1).kept hg' (fun l hl _ a ha => ?_), HEN.out.2⟩, fun l hl _ a ha => ?_⟩
            · cases ha
              have := (hold l hl).2
              simp only; omega
            · cases ha
              cases hl
              rcases hat with h | h
              · have hb : q' < wr.heap.size := (hold _ h.symm).2
                show wd.heap.size ≠ q'
                omega
              · cases h
                simp; omega
      case measure => simp [RowKit.intOf]; omega
    · have hcases : (decide ((i : Int) < (nw : Int)) = false) ∨ (decide ((i : Int) < (nw : Int)) = true ∧ decide ((i : Int) < (12 : Int)) = false) := by
        by_cases h : i < nw
        · refine .inr ⟨decide_eq_true (by omega), decide_eq_false (by omega)⟩
        · exact .inl (decide_eq_false (by omega))
      clear hcont hg0
      obtain ⟨ne, hne⟩ : ∃ ne : Nat, ne = i := ⟨i, rfl⟩
      subst hne
      go_upto_region 5 with (fail)
      go_cut [30] (fun v wx => v = .bool false ∧ wx = wr)
      case first =>
        rcases hcases with d1 | ⟨d1, d2⟩
        · have p1 : ¬ (ne : Int) < (nw : Int) := of_decide_eq_false d1
          go_wp2_with fail
          go_meet
          exact ⟨rfl, rfl⟩
        · have p1 : (ne : Int) < (nw : Int) := of_decide_eq_true d1
          have p2 : ¬ (ne : Int) < 12 := of_decide_eq_false d2
          go_wp2_with fail
          go_meet
          exact ⟨by first | rfl | rw [d2], rfl⟩
      case rest =>
        obtain ⟨rfl, rfl⟩ := hcut
        rename World => wb
        clear hcases
        have hsl := Sl.of_own HO.out (enCells_one es)
        have HEN := Lib.hid (show EnsAt wb A es from ⟨by rw [HES.out]; exact hsl, fun e he => (HEA.out e he).1⟩)
        have hcb : CB < wb.heap.size := by have := HSZ.out; omega
        clear hsl
        go_wp2_with fail
        go_loopw [5, 10, 11] (fun rv wv iv wr => GrRel2 wb CB es rv wv iv wr) (fun _ _ iv _ => 12 - (RowKit.intOf iv).toNat)
        case atStart => exact ⟨0, 0, 0, 0, none, [], by omega, by omega, rfl, rfl, rfl, World.ownsRow_nil _ _ _ _, fun _ h => by simp at h, rfl, by omega, .inl rfl, grownBy_refl _ none⟩
        case round =>
          obtain ⟨i, rc, nr, was, RA, rs, hi12, hnri, rfl, hrl, rfl, hrow, hok, rfl, hwb, hwas, hg⟩ := hrel
          have hg0 := grownBy_trans HG0.out hg nofun
          have hg1 := grownBy_trans HG.out hg nofun
          have hcd := HC.out.kept hg1
          have hrus := rus_of hrl hrow hok hcd
          have hnn : ne * (1 + nr + nr * nr) ≤ 20000 := by
            have h1 : nr * nr ≤ 12 * 12 := Nat.mul_le_mul (by omega) (by omega)
            have h2 : ne * (1 + nr + nr * nr) ≤ 12 * 157 := Nat.mul_le_mul (by omega) (by omega)
            omega
          have hall := all13_walk rs RA nr rc es A ne c wr hrl (by omega) hrus HES.out (HEN.out.kept hg) hnn (tabs_kept HT.out hg0)
          have hsome : 0 < ne → 0 < (canon (es.flatMap (formsQ rs))).length := fun h => some_in (by rw [HES.out]; exact h)
          have hmono := fun r => all_mono rs r es
          have hlen : (canon (es.flatMap (formsQ rs))).length ≤ 20000 := by
            have h1 := canon_len (es.flatMap (formsQ rs))
            have h2 := allQ_len rs es
            rw [hrl, HES.out] at h2
            omega
          have hword := fun e (he : e ∈ es) => word_in (rs := rs) he
          obtain ⟨L, hL⟩ : ∃ L, canon (es.flatMap (formsQ rs)) = L := ⟨_, rfl⟩
          rw [hL] at hall hwas hlen
          simp only [hL] at hsome hmono hword
          obtain ⟨nf, hnf⟩ : ∃ nf, L.length = nf := ⟨_, rfl⟩
          rw [hnf] at hwas hlen
          simp only [hnf] at hsome hmono
          have HNF := Lib.hid hnf
          have HLC := Lib.hid hL
          have HALL := Lib.hid hall
          have HMONO := Lib.hid hmono
          have HWORD := Lib.hid hword
          have HROW := Lib.hid hrow
          have HOK := Lib.hid hok
          have HRL := Lib.hid hrl
          have HGB := Lib.hid hg
          have HGB0 := Lib.hid hg0
          have hwrb := hg.size
          clear hg hg0 hg1 hcd hrus hnn hall hmono hword hrow hok hrl hL hnf
          by_cases hcont : i ≤ nl ∧ i < 12
          · obtain ⟨hle, hlt12⟩ := hcont
            have d1 : decide ((i : Int) ≤ (nl : Int)) = true := decide_eq_true (by omega)
            have d2 : decide ((i : Int) < (12 : Int)) = true := decide_eq_true (by omega)
            have p1 : (i : Int) ≤ (nl : Int) := by omega
            have p2 : (i : Int) < 12 := by omega
            go_wp2_with fail
            refine HALL.out.mono ?_
            rintro e w3 ⟨v, rfl, ⟨B2, k2, rfl, hown3⟩, hg3⟩
            rw [HNF.out] at hown3 ⊢
            have HG3 := Lib.hid hg3
            clear hown3 hg3
            go_upto_region 14 with (fail)
            go_cut [88] (fun v wx => v = .bool false ∧ w3.grownBy wx none)
            case first =>
              have f1 : ¬ (nf : Int) < (was : Int) := by omega
              have f1d : decide ((nf : Int) < (was : Int)) = false := decide_eq_false f1
              have f1e : decide (nf < was) = false := decide_eq_false (by omega)
              by_cases hw0 : was = 0
              · subst hw0
                rcases Nat.eq_zero_or_pos ne with hn0 | hn0
                · have g1 : decide ((0 : Int) < (ne : Int)) = false := decide_eq_false (by omega)
                  have g2 : decide (0 < ne) = false := decide_eq_false (by omega)
                  have g3 : ¬ (0 : Int) < (ne : Int) := by omega
                  clear hn0
                  go_wp2_with fail
                  go_meet
                  exact ⟨rfl, grownBy_refl _ none⟩
                · have g1 : decide ((0 : Int) < (ne : Int)) = true := decide_eq_true (by omega)
                  have g2 : decide (0 < ne) = true := decide_eq_true (by omega)
                  have g3 : (0 : Int) < (ne : Int) := by omega
                  have hf0 := hsome hn0
                  have g4 : ((nf : Int) == 0) = false := by rw [beq_eq_false_iff_ne]; omega
                  have g5 : decide ((nf : Int) = 0) = false := decide_eq_false (by omega)
                  have g6 : decide (nf = 0) = false := decide_eq_false (by omega)
                  have g7 : (nf == 0) = false := by rw [beq_eq_false_iff_ne]; omega
                  clear hn0
                  go_wp2_with fail
                  go_meet
                  exact ⟨by first | rfl | simp [g4, g5, g6, g7], grownBy_refl _ none⟩
              · have g1 : ((was : Int) == 0) = false := by rw [beq_eq_false_iff_ne]; omega
                have g2 : decide ((was : Int) = 0) = false := decide_eq_false (by omega)
                have g3 : decide (was = 0) = false := decide_eq_false hw0
                have g4 : (was == 0) = false := by rw [beq_eq_false_iff_ne]; exact hw0
                go_wp2_with fail
                go_meet
                exact ⟨by first | rfl | simp [g1, g2, g3, g4], grownBy_refl _ none⟩
            case rest =>
              obtain ⟨rfl, hgc⟩ := hcut
              rename World => w4
              have HG4 := Lib.hid (grownBy_trans HG3.out hgc nofun)
              clear hgc hwas hsome
              have hgw4 := grownBy_trans HGB0.out HG4.out nofun
              by_cases hil : i < nl
              · have hili : (i : Int) < (nl : Int) := by omega
                obtain ⟨z, hz⟩ : ∃ z, zs[i]? = some z := ⟨_, List.getElem?_eq_getElem (by rw [HZN.out]; exact hil)⟩
                obtain ⟨qz, oz, rfl, hcell⟩ := int_at (l := zs) (by rw [HZN.out]; exact HZ.out.kept hgw4 nofun) hz
                obtain ⟨k, hk⟩ : ∃ k : Nat, z % 1000 = k := ⟨(z % 1000).toNat, by omega⟩
                have hk1000 : k < 1000 := by omega
                have HK := Lib.hid hk
                clear hz hk hgw4
                go_wp2_with fail
                refine (place_any z 1000 w4 (by omega) (by omega)).mono ?_
                rintro e w' ⟨rfl, rfl⟩
                rw [HK.out]
                obtain ⟨f3, hf3⟩ : ∃ f3, k % 3 = f3 := ⟨_, rfl⟩
                obtain ⟨k3, hk3⟩ : ∃ k3, k / 3 = k3 := ⟨_, rfl⟩
                obtain ⟨b2, hb2⟩ : ∃ b2, k3 % 2 = b2 := ⟨_, rfl⟩
                obtain ⟨k6, hk6⟩ : ∃ k6, k / 6 = k6 := ⟨_, rfl⟩
                obtain ⟨d5, hd5⟩ : ∃ d5, k6 % 5 = d5 := ⟨_, rfl⟩
                obtain ⟨g4, hg4⟩ : ∃ g4, k % 4 = g4 := ⟨_, rfl⟩
                have hd20 : d5 < 20 := by omega
                have q1 : (k : Int).tmod 3 = (f3 : Int) := by rw [Int.tmod_eq_emod_of_nonneg (by omega)]; omega
                have q1b : (k : Int) % 3 = (f3 : Int) := by omega
                have q2 : (k : Int).tdiv 3 = (k3 : Int) := by rw [Int.tdiv_eq_ediv_of_nonneg (by omega)]; omega
                have q2b : (k : Int) / 3 = (k3 : Int) := by omega
                have q3 : (k3 : Int).tmod 2 = (b2 : Int) := by rw [Int.tmod_eq_emod_of_nonneg (by omega)]; omega
                have q3b : (k3 : Int) % 2 = (b2 : Int) := by omega
                have q4 : (k : Int).tdiv 6 = (k6 : Int) := by rw [Int.tdiv_eq_ediv_of_nonneg (by omega)]; omega
                have q4b : (k : Int) / 6 = (k6 : Int) := by omega
                have q5 : (k6 : Int).tmod 5 = (d5 : Int) := by rw [Int.tmod_eq_emod_of_nonneg (by omega)]; omega
                have q5b : (k6 : Int) % 5 = (d5 : Int) := by omega
                have q6 : (k : Int).tmod 4 = (g4 : Int) := by rw [Int.tmod_eq_emod_of_nonneg (by omega)]; omega
                have q6b : (k : Int) % 4 = (g4 : Int) := by omega
                have wk3 : IntKind.i64.wrap (k3 : Int) = (k3 : Int) := by rw [IntKind.wrap_i64]; omega
                have wk6 : IntKind.i64.wrap (k6 : Int) = (k6 : Int) := by rw [IntKind.wrap_i64]; omega
                have wf3 : IntKind.i64.wrap (97 + (f3 : Int)) = 97 + (f3 : Int) := by rw [IntKind.wrap_i64]; omega
                obtain ⟨cr, hcr⟩ : ∃ cr, decide (b2 = 0) = cr := ⟨_, rfl⟩
                have hcr1 : ((b2 : Int) == 0) = cr := by rw [← hcr, Bool.eq_iff_iff]; simp
                have hcr2 : decide ((b2 : Int) = 0) = cr := by rw [← hcr, Bool.eq_iff_iff]; simp
                have hcr3 : (b2 == 0) = cr := by rw [← hcr, Bool.eq_iff_iff]; simp
                clear hf3 hk3 hb2 hk6 hd5 hg4 hcell
                go_wp2_with fail
                refine (digits_walk d5 w4 hd20).mono ?_
                rintro e wd ⟨rfl, q, rfl⟩
                obtain ⟨wd, hwd⟩ : ∃ wd, w4.drewN q = wd := ⟨_, rfl⟩
                have hgd : w4.grownBy wd none := by rw [← hwd]; exact grownBy_drewN (grownBy_refl _ none) q
                rw [hwd]
                have HGD := Lib.hid (grownBy_trans HG4.out hgd nofun)
                obtain ⟨X, hX⟩ : ∃ X, digD d5 = X := ⟨_, rfl⟩
                have hXl : X.length ≤ 100 := by
                  have h1 : ∀ v, (dig1 v).length ≤ 10 := fun v => by
                    unfold dig1
                    rw [List.length_drop, List.length_take]
                    have : digsD.length = 10 := rfl
                    omega
                  rw [← hX]
                  unfold digD
                  split
                  · have := h1 d5; omega
                  · rw [List.length_append]; have := h1 (d5 / 10); have := h1 (d5 % 10); omega
                rw [hX]
                have hbl := heap_alloc_new wd (.cells #[.bool false, .int .i64 (97 + (f3 : Int)), .bool cr, .string ⟨#[]⟩, .string ⟨X.toArray⟩, .slice (some ⟨CB, 0, none⟩) 1 1] 51 (0, 0))
                have hga := World.grownBy_alloc wd (.cells #[.bool false, .int .i64 (97 + (f3 : Int)), .bool cr, .string ⟨#[]⟩, .string ⟨X.toArray⟩, .slice (some ⟨CB, 0, none⟩) 1 1] 51) none
                have HBL := Lib.hid hbl
                have HGAW := Lib.hid hga
                clear hX hwd hgd hbl hga
                go_upto_if 115 with (fail)
                go_cut [14] (fun v wx => v = .int .i64 (k : Int) ∧ (∃ p0 fl0, wx.heap[wd.heap.size]? = some (.cells #[.bool p0, .int .i64 fl0, .bool cr, .string ⟨#[]⟩, .string ⟨X.toArray⟩, .slice (some ⟨CB, 0, none⟩) 1 1] 51 (0, 0))) ∧ wd.grownBy wx none)
                case first =>
                  have x0 := cell_of_heap HBL.out 0
                  have x1 := cell_of_heap HBL.out 1
                  have y0 := frozen_of_heap HBL.out 0
                  have y1 := frozen_of_heap HBL.out 1
                  by_cases hg0 : g4 = 0
                  · subst hg0
                    go_wp2_with fail
                    go_meet
                    exact ⟨rfl, ⟨true, 112, heap_alloc_new wd _⟩, World.grownBy_alloc wd _ none⟩
                  · have g1 : ((g4 : Int) == 0) = false := by rw [beq_eq_false_iff_ne]; omega
                    have g2 : decide ((g4 : Int) = 0) = false := decide_eq_false (by omega)
                    have g3 : decide (g4 = 0) = false := decide_eq_false hg0
                    have g5 : (g4 == 0) = false := by rw [beq_eq_false_iff_ne]; exact hg0
                    go_wp2_with fail
                    go_meet
                    exact ⟨rfl, ⟨false, _, HBL.out⟩, HGAW.out⟩
                case rest =>
                  obtain ⟨rfl, ⟨p0, fl0, hbx⟩, hgx⟩ := hcut
                  rename World => w6
                  have x0 := cell_of_heap hbx 0
                  have x1 := cell_of_heap hbx 1
                  have x2 := cell_of_heap hbx 2
                  have x3 := cell_of_heap hbx 3
                  have x4 := cell_of_heap hbx 4
                  have x5 := cell_of_heap hbx 5
                  have hg6 := grownBy_trans HGD.out hgx nofun
                  have hga := World.grownBy_alloc w6 (.cells #[.bool p0, .int .i64 fl0, .bool cr, .string ⟨#[]⟩, .string ⟨X.toArray⟩, .slice (some ⟨CB, 0, none⟩) 1 1] 51) none
                  have hsl := Sl.of_own (World.ownsRow_lit (base := 0) (size := 6) (e := 51) w6 #[.bool p0, .int .i64 fl0, .bool cr, .string ⟨#[]⟩, .string ⟨X.toArray⟩, .slice (some ⟨CB, 0, none⟩) 1 1] 1 (Nat.zero_le _) (by decide) rfl) (by intro x hx; simp at hx; rcases hx with rfl | rfl | rfl | rfl | rfl | rfl <;> rfl)
                  have HO2 := Lib.hid (ownsRow_kept HROW.out (grownBy_trans hg6 hga nofun) (own_none _))
                  have HSL := Lib.hid hsl
                  have HG6 := Lib.hid (grownBy_trans hg6 hga nofun)
                  have hw6 := hg6.size
                  clear hbx hgx hg6 hga hsl q1 q1b q2 q2b q3 q3b q4 q4b q5 q5b q6 q6b hcr1 hcr2 hcr3 hcr
                  go_wp2_with (at_builtin; refine wpList_append_sl _ rfl (.tmp 118) (.tmp 120) 22 rfl wb.heap.size 51 i0 _ 6 80 Tryd.underlying22 hi hz0 hz1 hz2 rfl (by decide) (.slice RA nr rc) nr _ rfl HO2.out (some ⟨w6.heap.size, 0, none⟩) 1 1 [.bool p0, .int .i64 fl0, .bool cr, .string ⟨#[]⟩, .string ⟨X.toArray⟩, .slice (some ⟨CB, 0, none⟩) 1 1] rfl HSL.out (by unfold maxLen; omega) (by omega) (by simp; omega) ?_)
                  rintro v' w' ⟨hown', hg', hat⟩
                  obtain ⟨q', c', rfl, hq2⟩ := own_form hown' (by omega)
                  have hgw : wb.grownBy w' none := grownBy_trans (grownBy_trans HGB.out HG6.out nofun) hg' (fun l hl => .inr (HO2.out.lt l hl).1)
                  go_wp2_with fail
                  go_roundw
                  case rel =>
                    refine ⟨i + 1, c', nr + 1, nf, some ⟨q', 0, none⟩, rs ++ [⟨p0, fl0, cr, [], X, some ⟨CB, 0, none⟩, 1, [anyIt]⟩], by omega, by omega, by go_num, by rw [List.length_append, HRL.out]; rfl, rfl, by rw [ruCells_snoc]; exact hown', fun r hr => ?_, rfl, by omega, .inr (HMONO.out _), hgw⟩
                    rcases List.mem_append.1 hr with hr | hr
                    · exact HOK.out r hr
                    · rw [List.mem_singleton] at hr
                      subst hr
                      exact ⟨rfl, rfl, by show 1 ≤ 100000; omega, fun z hz => by simp only [List.mem_singleton] at hz; subst hz; show 0 ≤ 100000; omega, by show 0 ≤ 100000; omega, by show X.length ≤ 100000; omega⟩
                  case measure => simp [RowKit.intOf]; omega
              · have hili : ¬ (i : Int) < (nl : Int) := by omega
                have HOWN := Lib.hid (ownsRow_kept HROW.out HG4.out (own_none _))
                clear hgw4
                go_wp2_with fail
                go_roundw
                case rel => exact ⟨i + 1, rc, nr, nf, RA, rs, by omega, by omega, by go_num, HRL.out, rfl, HOWN.out, HOK.out, rfl, by omega, .inr (by rw [HLC.out, HNF.out]; exact Nat.le_refl _), grownBy_trans HGB.out HG4.out nofun⟩
                case measure => simp [RowKit.intOf]; omega
          · have hcases : (decide ((i : Int) ≤ (nl : Int)) = false) ∨ (decide ((i : Int) ≤ (nl : Int)) = true ∧ decide ((i : Int) < (12 : Int)) = false) := by
              by_cases h : i ≤ nl
              · refine .inr ⟨decide_eq_true (by omega), decide_eq_false (by omega)⟩
              · exact .inl (decide_eq_false (by omega))
            clear hcont hwas hsome
            go_upto_region 11 with (fail)
            go_cut [58] (fun v wx => v = .bool false ∧ wx = wr)
            case first =>
              rcases hcases with d1 | ⟨d1, d2⟩
              · have p1 : ¬ (i : Int) ≤ (nl : Int) := of_decide_eq_false d1
                go_wp2_with fail
                go_meet
                exact ⟨by first | rfl | rw [d1], rfl⟩
              · have p1 : (i : Int) ≤ (nl : Int) := of_decide_eq_true d1
                have p2 : ¬ (i : Int) < 12 := of_decide_eq_false d2
                go_wp2_with fail
                go_meet
                exact ⟨by first | rfl | rw [d2], rfl⟩
            case rest =>
              obtain ⟨rfl, rfl⟩ := hcut
              clear hcases
              go_wp2_with fail
              refine HALL.out.mono ?_
              rintro e w3 ⟨v, rfl, ⟨B2, k2, rfl, hown3⟩, hg3⟩
              rw [HNF.out] at hown3 ⊢
              have HSLF := Lib.hid (Sl.of_own hown3 (strCells_one' _))
              have HG3 := Lib.hid hg3
              clear hown3 hg3
              go_wp2_with fail
              go_loopw [18] (fun iv wx => ∃ i2 : Nat, i2 ≤ ne ∧ iv = .int .i64 (i2 : Int) ∧ w3.grownBy wx none) (fun iv _ => ne - (RowKit.intOf iv).toNat)
              case atStart => exact ⟨0, Nat.zero_le _, rfl, grownBy_refl _ none⟩
              case round =>
                obtain ⟨i2, hi2, rfl, hgl⟩ := hrel
                have HGL := Lib.hid hgl
                have hgA := grownBy_trans HGB.out (grownBy_trans HG3.out hgl nofun) nofun
                rcases Nat.lt_or_ge i2 ne with hlt2 | hge2
                · have hlti2 : (i2 : Int) < (ne : Int) := by omega
                  obtain ⟨ee, hee⟩ : ∃ ee, es[i2]? = some ee := ⟨_, List.getElem?_eq_getElem (by rw [HES.out]; exact hlt2)⟩
                  have hin := HWORD.out ee (List.mem_of_getElem? hee)
                  obtain ⟨wv, hwv⟩ : ∃ wv, ee.word = wv := ⟨_, rfl⟩
                  rw [hwv] at hin
                  have hcellE : ∀ u, wb.grownBy u none → ∃ q o, A = some ⟨q, o, none⟩ ∧ u.cell? ⟨q, o + i2 * 2, none⟩ = some (.string ⟨wv.toArray⟩) := fun u hu => by
                    obtain ⟨q, o, e1, e2, _⟩ := en_cell (HEN.out.kept hu) hee
                    rw [hwv] at e2
                    exact ⟨q, o, e1, e2⟩
                  obtain ⟨qe, oe, eA, _⟩ := hcellE wb (grownBy_refl _ none)
                  have hcellF : ∀ u, wb.grownBy u none → u.cell? ⟨qe, oe + i2 * 2, none⟩ = some (.string ⟨wv.toArray⟩) := fun u hu => by
                    obtain ⟨q, o, e1, e2⟩ := hcellE u hu
                    rw [eA] at e1
                    cases e1
                    exact e2
                  subst eA
                  have HIN := Lib.hid hin
                  have HCE := Lib.hid hcellF
                  have HGA2 := Lib.hid hgA
                  clear hin hcellE hcellF hee hwv hgA hgl
                  go_wp2_with fail
                  go_loopw [19, 20] (fun bv jv wx => ∃ (j : Nat) (bb : Bool), j ≤ nf ∧ jv = .int .i64 (j : Int) ∧ bv = .bool bb ∧ (bb = true ↔ wv ∈ L.take j) ∧ wr.grownBy wx none) (fun _ jv _ => nf - (RowKit.intOf jv).toNat)
                  case atStart => exact ⟨0, false, Nat.zero_le _, rfl, rfl, by simp, grownBy_refl _ none⟩
                  case round =>
                    obtain ⟨j, bb, hjn, rfl, rfl, hbb, hgj⟩ := hrel
                    have HBB := Lib.hid hbb
                    have HGJ := Lib.hid hgj
                    have hgB := grownBy_trans HGA2.out hgj nofun
                    have hgC := grownBy_trans HGL.out hgj nofun
                    clear hbb hgj
                    rcases Nat.lt_or_ge j nf with hlt3 | hge3
                    · have hltj : (j : Int) < (nf : Int) := by omega
                      obtain ⟨x, hx⟩ : ∃ x, L[j]? = some x := ⟨_, List.getElem?_eq_getElem (by rw [HNF.out]; exact hlt3)⟩
                      have htk : L.take (j + 1) = L.take j ++ [x] := by rw [List.take_add_one, hx]; rfl
                      have HTK := Lib.hid htk
                      obtain ⟨qf, of, rfl, hcc⟩ := (HSLF.out.kept hgC nofun).2.2 (by omega)
                      have x0 := hcc j _ (by rw [strCells, List.getElem?_map, hx]; rfl)
                      have x1 := HCE.out _ hgB
                      clear hx htk hcc hgB hgC
                      cases bb with
                      | true =>
                        go_upto_region 31 with (fail)
                        go_quiet (fail)
                        go_wp2_with fail
                        go_roundw
                        case rel => exact ⟨j + 1, true, by omega, by go_num, rfl, ⟨fun _ => by rw [HTK.out]; exact List.mem_append.2 (.inl (HBB.out.1 rfl)), fun _ => rfl⟩, grownBy_drewN HGJ.out _⟩
                        case measure => simp [RowKit.intOf]; omega
                      | false =>
                        have hno : ¬ wv ∈ L.take j := fun h => by have := HBB.out.2 h; cases this
                        have HNO := Lib.hid hno
                        clear hno
                        by_cases hxw : x = wv
                        · subst hxw
                          go_upto_region 31 with (fail)
                          go_quiet (fail)
                          go_wp2_with fail
                          go_roundw
                          case rel => exact ⟨j + 1, true, by omega, by go_num, by first | rfl | simp, ⟨fun _ => by rw [HTK.out]; simp, fun _ => rfl⟩, grownBy_drewN HGJ.out _⟩
                          case measure => simp [RowKit.intOf]; omega
                        · have n1 := wd_ne2 hxw
                          have n2 : ¬ x.toArray = wv.toArray := fun e => hxw (by simpa using e)
                          have n3 : (x == wv) = false := by rw [beq_eq_false_iff_ne]; exact hxw
                          go_upto_region 31 with (fail)
                          go_quiet (fail)
                          go_wp2_with fail
                          go_roundw
                          case rel =>
                            have hno2 : ¬ wv ∈ L.take (j + 1) := fun h => by
                              rw [HTK.out] at h
                              rcases List.mem_append.1 h with h | h
                              · exact absurd h HNO.out
                              · rw [List.mem_singleton] at h
                                exact absurd h.symm hxw
                            exact ⟨j + 1, false, by omega, by go_num, by first | rfl | simp [hxw], ⟨fun h => absurd h (by decide), fun h => absurd h hno2⟩, grownBy_drewN HGJ.out _⟩
                          case measure => simp [RowKit.intOf]; omega
                    · obtain rfl : nf = j := by omega
                      have hT1 : bb = true := HBB.out.2 (by rw [← HNF.out, List.take_length]; exact HIN.out)
                      subst hT1
                      clear hgB hgC
                      go_wp2_with fail
                      go_roundw
                      case rel => exact ⟨i2 + 1, by omega, by go_num, grownBy_trans HGL.out HGJ.out nofun⟩
                      case measure => simp [RowKit.intOf]; omega
                · obtain rfl : ne = i2 := by omega
                  have hgT := grownBy_trans HGB0.out (grownBy_trans HG3.out hgl nofun) nofun
                  have HGT := Lib.hid hgT
                  clear hgA hgl hgT
                  go_wp2_with fail
                  refine (awake13_walk _ (tabs_kept HT.out HGT.out)).mono ?_
                  rintro e w7 ⟨rfl, hg7⟩
                  have HG7 := Lib.hid hg7
                  clear hg7
                  go_wp2_with fail
                  go_ret
                  exact ⟨rfl, grownBy_trans HGT.out HG7.out nofun⟩
end Go.Proofs.YtlbbjcggjmaehaaDoor
