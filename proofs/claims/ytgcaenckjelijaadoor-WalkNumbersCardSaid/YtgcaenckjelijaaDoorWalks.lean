/-
  Layer 18's walks: both ways, with how many steps there may be: the walk: true. Conditions: words that are not too much, at most 26 codes; unicode/utf8's two tables as they are laid.
-/
import Derived.Test.YtgcaenckjelijaaDoorStrs
import Derived.Test.YtgcaenckjelijaaDoorWalkLaw
import Derived.Test.YtgcaenckjelijaaDoorWalkY
import Derived.Test.YtgcaenckjelijaaDoorRefWalk
import Derived.Test.YtgcaenckjelijaaDoorMost
import Derived.Test.YtgcaenckjelijaaDoorOpen
import Derived.Test.YtgcaenckjelijaaDoorWalkR
namespace Go.Proofs.YtgcaenckjelijaaDoor
open Go Go.RowKit Go.Maps

def okW (s : Wd) : Bool := decide (s.length ≤ 20) && s.all (fun b => b != 0)
def fewS (ss : List Wd) : Bool := (ss.take 40).all okW && decide (ss.length ≤ 40)

theorem all_take {α : Type} {p : α → Bool} {l : List α} {k : Nat} {x : α} (h : l[k]? = some x) (hk : (l.take k).all p = true) : (p x = true → (l.take (k + 1)).all p = true) ∧ ∀ m, k < m → p x = false → (l.take m).all p = false := by
  constructor
  · intro hx
    rw [List.take_add_one, h, List.all_append, hk]; simp [hx]
  · intro m hm hx
    rw [List.all_eq_false]
    refine ⟨x, ?_, by simp [hx]⟩
    have : (l.take m)[k]? = some x := by rw [List.getElem?_take_of_lt hm]; exact h
    exact List.mem_of_getElem? this

set_option maxRecDepth 100000 in
set_option maxHeartbeats 1000000 in
theorem few18_walk (ss : List Wd) (A : Option Addr) (n c : Nat) (w : World) (hn : ss.length = n) (h : Sl w 1 A n (strCells ss)) : Calls Tryd.prog 12 #[.slice A n c] w fun e w' => e = .returned (.bool (fewS ss)) ∧ w' = w := by
  have H := Lib.hid h
  have HN := Lib.hid hn
  clear h hn
  go_enter Tryd.func12, Tryd.ntmps12
  go_wp2_with fail
  go_loopw [3] (fun iv wr => ∃ i : Nat, i ≤ n ∧ i ≤ 40 ∧ iv = .int .i64 i ∧ wr = w ∧ (ss.take i).all okW = true) (fun iv _ => 40 - (intOf iv).toNat)
  case atStart => exact ⟨0, Nat.zero_le _, Nat.zero_le _, rfl, rfl, by simp⟩
  case round =>
    obtain ⟨i, hi, hi40, rfl, rfl, hok⟩ := hrel
    by_cases hend : i = n ∨ i = 40
    · have hres : fewS ss = decide (n ≤ 40) := by
        unfold fewS
        rw [HN.out]
        have : (ss.take 40).all okW = true := by
          rcases hend with e | e
          · rw [e, List.take_of_length_le (by rw [HN.out]; exact Nat.le_refl _)] at hok
            exact List.all_eq_true.2 (fun x hx => List.all_eq_true.1 hok x (List.mem_of_mem_take hx))
          · rw [e] at hok; exact hok
        rw [this, Bool.true_and]
      have HRES := Lib.hid hres
      have hd : decide ((n : Int) ≤ 40) = decide (n ≤ 40) := by rw [Bool.eq_iff_iff, decide_eq_true_iff, decide_eq_true_iff]; omega
      have HD := Lib.hid hd
      clear hres hd
      by_cases hin : i = n
      · subst hin
        go_wp2_with fail
        go_ret
        refine ⟨?_, rfl⟩
        rw [HRES.out, ← HD.out]; rfl
      · obtain rfl : i = 40 := by omega
        go_wp2_with fail
        go_ret
        refine ⟨?_, rfl⟩
        rw [HRES.out, ← HD.out]; rfl
    · obtain ⟨s, hs⟩ : ∃ s, ss[i]? = some s := ⟨_, List.getElem?_eq_getElem (by have := HN.out; omega)⟩
      obtain ⟨q, o, rfl, hc⟩ := H.out.str hs
      obtain ⟨g1, g2⟩ := all_take hs hok
      have hss : (⟨s.toArray⟩ : ByteArray).size = s.length := by simp [ByteArray.size]
      have hin : i < n := by omega
      have hi4 : i < 40 := by omega
      have hbad : okW s = false → fewS ss = false := fun e => by unfold fewS; rw [g2 40 hi4 e]; rfl
      have HBAD := Lib.hid hbad
      clear hbad hs
      by_cases hlong : 20 < s.length
      · go_wp2_with fail
        go_ret
        refine ⟨?_, rfl⟩
        rw [HBAD.out (by unfold okW; rw [decide_eq_false (by omega)]; rfl)]; rfl
      · go_wp2_with fail
        go_loopw [4] (fun kv wk => ∃ k : Nat, k ≤ s.length ∧ kv = .int .i64 k ∧ wk = wr ∧ (s.take k).all (fun b => b != 0) = true) (fun kv _ => s.length - (intOf kv).toNat)
        case atStart => exact ⟨0, Nat.zero_le _, rfl, rfl, by simp⟩
        case round =>
          obtain ⟨k, hk, rfl, rfl, hzk⟩ := hrel
          rcases Nat.lt_or_ge k s.length with hlt | hge
          · obtain ⟨b, hb⟩ : ∃ b, s[k]? = some b := ⟨_, List.getElem?_eq_getElem hlt⟩
            have hx : ∀ h : k < (⟨s.toArray⟩ : ByteArray).size, (⟨s.toArray⟩ : ByteArray)[k] = b := by
              intro h
              have := (List.getElem?_eq_some_iff.1 hb).2
              rw [← this]; rfl
            obtain ⟨z1, z2⟩ := all_take hb hzk
            have hmem := List.mem_of_getElem? hb
            have HM := Lib.hid hmem
            clear hb hmem
            by_cases hb0 : b = 0
            · subst hb0
              go_wp2_with fail
              go_ret
              refine ⟨?_, rfl⟩
              rw [HBAD.out (by unfold okW; rw [Bool.and_eq_false_iff]; right; exact List.all_eq_false.2 ⟨0, HM.out, by simp⟩)]; rfl
            · have hbn : b.toNat ≠ 0 := fun e => hb0 (UInt8.toNat_inj.1 e)
              have hz3 := z1 (by simpa using hb0)
              go_wp2_with fail
              go_roundw
              case rel => exact ⟨k + 1, by omega, by go_num, by first | rfl | trivial, hz3⟩
              case measure => simp [intOf]; omega
          · obtain rfl : k = s.length := by omega
            rw [List.take_of_length_le (Nat.le_refl _)] at hzk
            have hg := g1 (by unfold okW; rw [hzk, decide_eq_true (by omega)]; rfl)
            have HG := Lib.hid hg
            clear hg hzk
            go_wp2_with fail
            go_roundw
            case rel => exact ⟨i + 1, by omega, by omega, by go_num, by first | rfl | trivial, HG.out⟩
            case measure => simp [intOf]; omega

theorem few_ok {ss : List Wd} (h : fewS ss = true) : ss.length ≤ 40 ∧ ∀ s ∈ ss, s.length ≤ 20 ∧ ∀ b ∈ s, b ≠ 0 := by
  unfold fewS at h
  rw [Bool.and_eq_true] at h
  have hl := of_decide_eq_true h.2
  rw [List.take_of_length_le hl] at h
  refine ⟨hl, fun s hs => ?_⟩
  have := List.all_eq_true.1 h.1 s hs
  unfold okW at this
  rw [Bool.and_eq_true] at this
  exact ⟨of_decide_eq_true this.1, fun b hb => by simpa using List.all_eq_true.1 this.2 b hb⟩
end Go.Proofs.YtgcaenckjelijaaDoor

namespace Go.Proofs.YtgcaenckjelijaaDoor
open Go Go.RowKit Go.Lib Go.Maps

theorem headStep_len (x : Wd) : ∀ (k : Nat) (L : List Wd), ((List.range k).foldl (headStep x) L).length ≤ L.length + k
  | 0, _ => Nat.le_refl _
  | k + 1, L => by
    rw [range_step]
    have h1 := headStep_len x k L
    have h2 := insU_len (x.take (k + 1)) ((List.range k).foldl (headStep x) L)
    unfold headStep at h2 h1 ⊢
    omega

theorem headsS_len (m : List Wd) : (headsS m).length ≤ 1 + tot m := by
  have key : ∀ (m : List Wd) (L : List Wd), (m.foldl headsOf L).length ≤ L.length + tot m := by
    intro m
    induction m with
    | nil => intro L; exact Nat.le_refl _
    | cons x m ih =>
      intro L
      rw [List.foldl_cons, tot_cons]
      have h1 := ih (headsOf L x)
      have h2 := headStep_len x x.length L
      change (headsOf L x).length ≤ _ at h2
      omega
  have := key m [[]]
  simpa [headsS] using this

theorem tot_few {V : List Wd} {k : Nat} (h : ∀ x ∈ V, x.length ≤ k) : tot V ≤ V.length * k := by
  induction V with
  | nil => exact Nat.zero_le _
  | cons x V ih =>
    rw [tot_cons, List.length_cons, Nat.succ_mul]
    have h1 := h x (by simp)
    have h2 := ih (fun y hy => h y (by simp [hy]))
    omega

theorem heads_tail {V : List Wd} {h : Wd} (hh : h ∈ headsS V) (hne : h ≠ []) : h ∈ (headsS V).drop 1 := by
  have hr := headsS_rise V
  have hn : ([] : Wd) ∈ headsS V := mem_headsS.2 (.inl rfl)
  generalize headsS V = H at *
  match H, hr, hn, hh with
  | k :: T, hr, hn, hh =>
    obtain ⟨h1, _⟩ := List.pairwise_cons.1 hr
    have hk : k = [] := by
      rcases List.mem_cons.1 hn with e | e
      · exact e.symm
      · exact absurd (h1 _ e) (lt_nil k)
    rcases List.mem_cons.1 hh with e | e
    · exact absurd (e.trans hk) hne
    · exact e

/-- All that the walk's law needs of what Build has built. -/
structure Built (V : List Wd) (r : Nat × List DSt) : Prop where
  rise : Rise V
  few : V.length ≤ 100
  short : ∀ x ∈ V, x.length ≤ 100
  eq : buildS 201 V [] = r

theorem Built.tidy {V : List Wd} {r : Nat × List DSt} (h : Built V r) : Tidy r.2 ∧ r.1 < r.2.length + 1 ∧ r.2.length ≤ 10001 := by
  obtain ⟨h1, h2, h3⟩ := ready h.rise (fun x hx => by have := h.short x hx; omega) h.eq
  have h4 := tot_few h.short
  have h5 := h.few
  have h6 : V.length * 100 ≤ 100 * 100 := Nat.mul_le_mul_right 100 h5
  exact ⟨h1, h2, by omega⟩

theorem Built.run {V : List Wd} {r : Nat × List DSt} (h : Built V r) (t : Wd) : runS r.2 (r.1 : Int) t = decide (t ∈ V) := by
  have := buildS_run 201 V [] r.2 (fun x hx => by have := h.short x hx; omega) h.rise (by decide) (by rw [h.eq]; exact List.prefix_refl _) t
  rw [h.eq] at this; exact this

theorem Built.live {V : List Wd} {r : Nat × List DSt} (h : Built V r) : ∀ (i : Nat) (e : DEdge), e ∈ (stAt r.2 (i : Int)).2 → ∃ t, runS r.2 e.2 t = true := by
  have h1 := buildS_inv 201 V [] r.2 (fun x hx => by have := h.short x hx; omega) h.rise (by decide) (by rw [h.eq]; exact List.prefix_refl _) ⟨List.Pairwise.nil, by simp⟩
  rw [h.eq] at h1
  intro i e he
  rcases Nat.lt_or_ge i r.2.length with h2 | h2
  · have hs := List.getElem?_eq_getElem h2
    rw [stAt_in hs] at he
    exact ((h1.2 i _ hs).2 e he).2
  · rw [stAt_out (.inr (by omega))] at he
    cases he

theorem Built.offers {V : List Wd} {r : Nat × List DSt} (h : Built V r) (codes : List Int) (mo : Nat) : (walkS r.2 r.1 codes mo).l = V.flatMap (refOff codes mo) := by
  rw [walk_offers h.tidy.1 h.tidy.2.1 h.rise h.run, refOff_all]

theorem Built.steps {V : List Wd} {r : Nat × List DSt} (h : Built V r) (codes : List Int) (mo : Nat) : (walkS r.2 r.1 codes mo).steps ≤ mostC codes mo (headsS V) := by
  refine walk_steps h.tidy.1 h.live h.run codes mo (List.Pairwise.sublist (List.drop_sublist _ _) (headsS_rise V)) (fun x s hx hm => heads_tail ?_ hx)
  refine mem_headsS.2 (.inr ⟨x ++ s, hm, x.length - 1, ?_, ?_⟩)
  · rw [List.length_append]
    have : 1 ≤ x.length := by rcases Nat.eq_zero_or_pos x.length with h0 | h0; exact absurd (List.eq_nil_of_length_eq_zero h0) hx; exact h0
    omega
  · have : 1 ≤ x.length := by rcases Nat.eq_zero_or_pos x.length with h0 | h0; exact absurd (List.eq_nil_of_length_eq_zero h0) hx; exact h0
    rw [show x.length - 1 + 1 = x.length by omega, List.take_left']
    rfl

theorem mostC_le (codes : List Int) (mo : Nat) (H : List Wd) : mostC codes mo H ≤ H.length := by
  unfold mostC
  exact Nat.le_trans (List.length_filter_le _ _) (by rw [List.length_drop]; omega)

theorem Built.bounds {V : List Wd} {r : Nat × List DSt} (h : Built V r) (codes : List Int) (mo : Nat) : (walkS r.2 r.1 codes mo).steps ≤ 1000000 ∧ (walkS r.2 r.1 codes mo).l.length ≤ 1000000 := by
  constructor
  · have h1 := h.steps codes mo
    have h2 := mostC_le codes mo (headsS V)
    have h3 := headsS_len V
    have h4 := tot_few h.short
    have h6 : V.length * 100 ≤ 100 * 100 := Nat.mul_le_mul_right 100 h.few
    omega
  · rw [h.offers]
    have := offers_len codes mo V
    have := h.few
    omega
end Go.Proofs.YtgcaenckjelijaaDoor

namespace Go.Proofs.YtgcaenckjelijaaDoor
open Go Go.RowKit Go.Lib Go.Maps

theorem own_at {w : World} {base : Nat} {v : Value} {l : List (Wd × Nat)} (h : w.ownsRow base 32 2 v l.length (offCells l)) : ∃ A c, v = .slice A l.length c ∧ Sl w 2 A l.length (offCells l) := by
  obtain ⟨A, c, rfl⟩ := own_slice h
  exact ⟨A, c, rfl, Sl.of_own h (fun x hx => by unfold offCells at hx; obtain ⟨p, _, hp⟩ := List.mem_flatMap.1 hx; simp at hp; rcases hp with rfl | rfl <;> rfl)⟩

theorem off_get {l : List (Wd × Nat)} {o : Wd × Nat} : ∀ {i : Nat}, l[i]? = some o → (offCells l)[i * 2]? = some (.string ⟨o.1.toArray⟩) ∧ (offCells l)[i * 2 + 1]? = some (.int .i64 (o.2 : Int)) := by
  induction l with
  | nil => intro i h; simp at h
  | cons a t ih =>
    intro i h
    rcases i with _ | i
    · simp at h; subst h
      simp [offCells]
    · have := ih (i := i) (by simpa using h)
      rw [show (i + 1) * 2 = i * 2 + 1 + 1 by omega]
      simpa [offCells] using this

set_option maxRecDepth 100000 in
set_option maxHeartbeats 2000000 in
theorem same18_walk (l : List (Wd × Nat)) (A B : Option Addr) (n ca cb : Nat) (w : World) (hn : l.length = n) (hb : n ≤ 1000000) (hA : Sl w 2 A n (offCells l)) (hB : Sl w 2 B n (offCells l)) :
    Calls Tryd.prog 25 #[.slice A n ca, .slice B n cb] w fun e w' => e = .returned (.bool true) ∧ w.grownBy w' none := by
  have HA := Lib.hid hA
  have HB := Lib.hid hB
  have HN := Lib.hid hn
  clear hA hB hn
  go_enter Tryd.func25, Tryd.ntmps25
  go_wp2_with fail
  go_loopw [5] (fun iv wr => ∃ i : Nat, i ≤ n ∧ iv = .int .i64 (i : Int) ∧ w.grownBy wr none) (fun iv _ => n - (intOf iv).toNat)
  case atStart => exact ⟨0, Nat.zero_le _, rfl, grownBy_refl _ _⟩
  case round =>
    obtain ⟨i, hi, rfl, hg⟩ := hrel
    rcases Nat.lt_or_ge i n with hlt | hge
    · obtain ⟨o, ho⟩ : ∃ o, l[i]? = some o := ⟨_, List.getElem?_eq_getElem (by rw [HN.out]; exact hlt)⟩
      obtain ⟨g0, g1⟩ := off_get ho
      obtain ⟨qa, oa, eA, hca⟩ := (HA.out.kept hg nofun).2.2 (by omega)
      cases eA
      obtain ⟨qb, ob, eB, hcb⟩ := (HB.out.kept hg nofun).2.2 (by omega)
      cases eB
      have x0 := hca _ _ g0
      have x1 := hca _ _ g1
      have y0 := hcb _ _ g0
      have y1 := hcb _ _ g1
      rw [← Nat.add_assoc] at x1 y1
      have hli : (i : Int) < (n : Int) := by omega
      have HG := Lib.hid hg
      clear hca hcb g0 g1 hg ho
      go_upto_region 6 with (fail)
      go_quiet (fail)
      go_wp2_with fail
      go_roundw
      case rel => exact ⟨i + 1, by omega, by go_num, grownBy_drewN HG.out _⟩
      case measure => first | (simp [intOf]; done) | (simp [intOf]; omega)
    · obtain rfl : i = n := by omega
      go_wp2_with fail
      go_ret
      exact ⟨rfl, hg⟩

set_option maxRecDepth 100000 in
set_option maxHeartbeats 2000000 in
theorem walks_walk (ss : List Wd) (A C : Option Addr) (n nc ca cc : Nat) (codes : List Int) (most : Int) (w : World) (hW : WordsAt w (fun _ => False) A n ca ss) (hn : n ≤ 40) (hx : ∀ x ∈ ss, x.length ≤ 20) (hc : codes.length = nc) (hc2 : nc ≤ 900) (hcc : nc ≤ cc) (hC : Sl w 1 C nc (intCells codes))
    (hT : Lib.Utf8Tabs 0 1 w) : Calls Tryd.prog 13 #[.slice A n ca, .slice C nc cc, .int .i64 most] w (TrueRes w) := by
  obtain ⟨V, hV⟩ : ∃ V, canon ss = V := ⟨_, rfl⟩
  have hcp := canon_putAll ss
  rw [hV] at hcp
  have hVx : ∀ x ∈ V, x.length ≤ 20 := fun x h => hx x (by rw [← hV] at h; exact mem_canon.1 h)
  obtain ⟨r, hr⟩ : ∃ r, buildS 201 V [] = r := ⟨_, rfl⟩
  have HC := Lib.hid hC
  have HCL := Lib.hid hc
  have HW := Lib.hid hW
  have HT := Lib.hid hT
  have HV := Lib.hid hV
  have HCP := Lib.hid hcp
  have HVX := Lib.hid hVx
  have HR := Lib.hid hr
  clear hC hc hW hT hV hcp hVx hr hx
  go_enter Tryd.func13, Tryd.ntmps13
  go_wp2_with fail
  refine (sorted_walk ss A n ca w HW.out.1 (by omega) HW.out.2.2.2.1).mono ?_
  rintro e w1 ⟨A1, n1, c1, rfl, hl1, hnc1, hn1, hs1, hg1⟩
  rw [← HCP.out] at hl1 hs1
  have hbig : tooBig V = false := by
    unfold tooBig
    rw [Bool.or_eq_false_iff]
    refine ⟨decide_eq_false (by omega), List.any_eq_false.2 (fun x hx => ?_)⟩
    have := HVX.out x hx
    unfold isLong; simp; omega
  have hbt : Built V r := ⟨by rw [← HV.out]; exact canon_rise ss, by omega, fun x hx => by have := HVX.out x hx; omega, HR.out⟩
  have HBT := Lib.hid hbt
  have HBIG := Lib.hid hbig
  have HL1 := Lib.hid hl1
  have HS1 := Lib.hid hs1
  have HG1 := Lib.hid hg1
  clear hl1 hs1 hg1 hbig hbt
  go_wp2_with fail
  refine (build_walk ss A n ca w1 ⟨HW.out.1, HW.out.2.1, HW.out.2.2.1, HW.out.2.2.2.1.kept HG1.out nofun, fun _ h => h.elim⟩).mono ?_
  rintro e w2 hb
  obtain ⟨hg2, B, M, lv, rfl, hB, hbd⟩ := build_ok hb HV.out HBIG.out HR.out
  have H := Lib.hid hbd
  have HG2 := Lib.hid hg2
  have HG12 := Lib.hid (grownBy_trans HG1.out hg2 nofun)
  clear hbd hb hg2
  go_wp2_with fail
  refine (Steps_walk B M _ lv r.1 r.2 C nc cc codes most w2 H.out HBT.out.tidy.1 HCL.out (by omega) (HC.out.kept HG12.out nofun) (tabs_kept HT.out HG12.out) HBT.out.tidy.2.1 (by have := HBT.out.tidy.2.2; omega) (HBT.out.bounds codes _).1 (HBT.out.bounds codes _).2).mono ?_
  rintro e w3 ⟨rfl, hg3⟩
  have hst1 := HBT.out.steps codes (mostS most)
  have hst2 := (HBT.out.bounds codes (mostS most)).1
  obtain ⟨st, hst⟩ : ∃ st, (walkS r.2 r.1 codes (mostS most)).steps = st := ⟨_, rfl⟩
  rw [hst] at hst1 hst2 ⊢
  have HST1 := Lib.hid hst1
  have HG3 := Lib.hid hg3
  have HG13 := Lib.hid (grownBy_trans HG12.out hg3 nofun)
  clear hst1 hst hg3
  go_wp2_with fail
  refine (Walk_walk B M _ lv r.1 r.2 C nc cc codes most w3 (H.out.kept HG3.out) HBT.out.tidy.1 HCL.out (by omega) (HC.out.kept HG13.out nofun) (tabs_kept HT.out HG13.out) HBT.out.tidy.2.1 (by have := HBT.out.tidy.2.2; omega) (HBT.out.bounds codes _).1 (HBT.out.bounds codes _).2).mono ?_
  rintro e w4 ⟨v4, rfl, hown4, hg4⟩
  rw [HBT.out.offers] at hown4
  have HG24 := Lib.hid (grownBy_trans (grownBy_trans HG2.out HG3.out nofun) hg4 nofun)
  have HG14 := Lib.hid (grownBy_trans HG13.out hg4 nofun)
  obtain ⟨O, hO⟩ : ∃ O, V.flatMap (refOff codes (mostS most)) = O := ⟨_, rfl⟩
  have hol := offers_len codes (mostS most) V
  rw [hO] at hown4 hol
  obtain ⟨A4, c4, rfl, hsl4⟩ := own_at hown4
  have HO := Lib.hid hO
  have HS4 := Lib.hid hsl4
  clear hown4 hsl4 hg4 hO
  go_wp2_with fail
  refine (refwalk_walk V A1 C n1 nc c1 cc codes most w4 HL1.out (by omega) (fun x hx => by have := HVX.out x hx; omega) (HS1.out.kept HG24.out nofun) HCL.out (by omega) (HC.out.kept HG14.out nofun)).mono ?_
  rintro e w5 ⟨v5, rfl, hown5, hg5⟩
  rw [HO.out] at hown5
  obtain ⟨A5, c5, rfl, hsl5⟩ := own_at hown5
  have HS5 := Lib.hid hsl5
  have HS45 := Lib.hid (HS4.out.kept hg5 nofun)
  have HG25 := Lib.hid (grownBy_trans HG24.out hg5 nofun)
  have HG15 := Lib.hid (grownBy_trans HG14.out hg5 nofun)
  clear hown5 hsl5 hg5
  go_wp2_with fail
  refine (same18_walk O A4 A5 O.length c4 c5 w5 rfl (by have := HL1.out; omega) HS45.out HS5.out).mono ?_
  rintro e w6 ⟨rfl, hg6⟩
  have HG26 := Lib.hid (grownBy_trans HG25.out hg6 nofun)
  have HG16 := Lib.hid (grownBy_trans HG15.out hg6 nofun)
  clear hg6
  go_wp2_with fail
  refine (most_walk V A1 C n1 nc c1 cc codes most w6 HL1.out (by omega) (fun x hx => by have := HVX.out x hx; omega) (HS1.out.kept HG26.out nofun) HCL.out hc2 hcc (HC.out.kept HG16.out nofun)).mono ?_
  rintro e w7 ⟨x, rfl, hx7, hg7⟩
  have hle : (st : Int) ≤ (x : Int) := by have := HST1.out; omega
  have HG17 := Lib.hid (grownBy_trans HG16.out hg7 nofun)
  clear hg7 hx7
  go_wp2_with fail
  go_ret
  exact ⟨rfl, HG17.out⟩
end Go.Proofs.YtgcaenckjelijaaDoor

namespace Go.Proofs.YtgcaenckjelijaaDoor
open Go Go.RowKit Go.Lib Go.Maps

set_option maxRecDepth 100000 in
set_option maxHeartbeats 2000000 in
theorem walkall_walk (ss : List Wd) (A C : Option Addr) (n nc ca cc : Nat) (codes : List Int) (most : Int) (w : World) (hn : ss.length = n) (hA : Sl w 1 A n (strCells ss)) (hc : codes.length = nc) (hcc : nc ≤ cc) (hC : Sl w 1 C nc (intCells codes))
    (hT : Lib.Utf8Tabs 0 1 w) : Calls Tryd.prog 4 #[.slice A n ca, .slice C nc cc, .int .i64 most] w (TrueRes w) := by
  obtain ⟨i0, hi, hz0, hz1, hz2⟩ := info_parts str_info
  have HC := Lib.hid hC
  have HCL := Lib.hid hc
  have HA := Lib.hid hA
  have HN := Lib.hid hn
  have HT := Lib.hid hT
  clear hC hc hA hn hT
  go_enter Tryd.func4, Tryd.ntmps4
  go_wp2_with fail
  refine (few18_walk ss A n ca w HN.out HA.out).mono ?_
  rintro e w1 ⟨rfl, rfl⟩
  cases hf : fewS ss
  · go_wp2_with fail
    refine (awake18_walk w1 HT.out).mono ?_
    rintro e w2 ⟨rfl, hg⟩
    go_wp2_with fail
    go_ret
    exact ⟨rfl, hg⟩
  · rcases Nat.lt_or_ge 26 nc with hbig | hsm
    · have hbi : (26 : Int) < (nc : Int) := by omega
      go_wp2_with fail
      refine (awake18_walk w1 HT.out).mono ?_
      rintro e w2 ⟨rfl, hg⟩
      go_wp2_with fail
      go_ret
      exact ⟨rfl, hg⟩
    · have hbi : (nc : Int) ≤ 26 := by omega
      obtain ⟨f1, f2⟩ := few_ok hf
      rw [HN.out] at f1
      have F2 := Lib.hid f2
      clear f2
      go_wp2_with (at_builtin; refine wpList_append_sl _ rfl (.const (.slice none 0 0)) (.tmp 16) 22 rfl w1.heap.size 9 i0 _ 1 16 Tryd.underlying22 hi hz0 hz1 hz2 rfl (by decide) (.slice none 0 0) 0 [] rfl (World.ownsRow_nil _ _ _ _) A n ca (strCells ss) rfl HA.out (by unfold maxLen; omega) (by omega) (Nat.le_refl _) ?_)
      rintro v' w' ⟨hown', hg', hat⟩
      obtain ⟨A3, c3, rfl⟩ := own_slice hown'
      have hg : w1.grownBy w' none := hg'
      have HW := Lib.hid (words_own hown' (by omega))
      have HG := Lib.hid hg
      clear hown' hg' hat hg
      go_wp2_with fail
      refine (walks_walk ss A3 C n nc c3 cc codes most w' HW.out f1 (fun x hx => (F2.out x hx).1) HCL.out (by omega) hcc (HC.out.kept HG.out nofun) (tabs_kept HT.out HG.out)).mono ?_
      rintro e w2 ⟨rfl, hg2⟩
      have HG2 := Lib.hid (grownBy_trans HG.out hg2 nofun)
      clear hg2
      go_wp2_with fail
      refine (awake18_walk w2 (tabs_kept HT.out HG2.out)).mono ?_
      rintro e w3 ⟨rfl, hg3⟩
      have HG3 := Lib.hid (grownBy_trans HG2.out hg3 nofun)
      clear hg3
      go_wp2_with fail
      go_ret
      exact ⟨rfl, HG3.out⟩
end Go.Proofs.YtgcaenckjelijaaDoor

namespace Go.Proofs.YtgcaenckjelijaaDoor
open Go Go.RowKit Go.ChangeShapes Go.WideShapes Go.Deep

section
variable {H : Type} {enc : TypeId × Value → H} {W : World} {held : Bool}

theorem cells_int : Tryd.prog.cellsOf 3 = 1 := by kernel_rfl

theorem ints_open {A : Option Addr} {n c m : Nat} {y : DataW H × List MemPlace} (h : DataW.trod enc Tryd.prog W 0 (fun _ => true) held m 28 [.slice A n c] = some y) :
    ∃ zs : List Int, zs.length = n ∧ n ≤ c ∧ Sl W 1 A n (intCells zs) := by
  obtain ⟨hle, hm, g, hlen, hc, hx⟩ := open_rows Tryd.underlying28 cells_int (by omega) (fun l => ∃ z : Int, l = [.int .i64 z]) (fun m cs y hl h => by obtain ⟨z, e1, _⟩ := DataW.trod_int Tryd.underlying3 h; exact ⟨z, e1⟩) h
  have hs := sl_of_rows hlen hc (Q := fun l => ∃ z : Int, l = [.int .i64 z]) (by rintro l ⟨z, rfl⟩ x hx; simp at hx; subst hx; rfl) hx
  have key : ∀ i, i < n → ∃ z : Int, g[i]? = some (.int .i64 z) := by
    intro i hi
    obtain ⟨l, _, ⟨z, rfl⟩, hj⟩ := hx i hi
    have := hj 0 (by omega)
    rw [Nat.mul_one, Nat.add_zero] at this
    exact ⟨z, by rw [this]; simp⟩
  let f : Value → Int := fun v => match v with | .int _ z => z | _ => 0
  have e : intCells (g.map f) = g := by
    apply List.ext_getElem?
    intro i
    rw [intCells, List.map_map, List.getElem?_map]
    rcases Nat.lt_or_ge i n with hi | hi
    · obtain ⟨z, h2⟩ := key i hi
      rw [h2]; simp [f]
    · rw [List.getElem?_eq_none (by omega)]; rfl
  exact ⟨g.map f, by rw [List.length_map, hlen, Nat.mul_one], hle, by rw [e]; exact hs⟩
end
end Go.Proofs.YtgcaenckjelijaaDoor
