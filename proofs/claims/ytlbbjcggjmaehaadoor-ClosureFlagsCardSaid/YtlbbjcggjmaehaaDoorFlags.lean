/-
  Layer 13's law ClosureFlags: the walk. Every number, any flags; unicode/utf8's two tables as they are laid.
-/
import Derived.Test.YtlbbjcggjmaehaaDoorFlagsP
import Derived.Test.YtlbbjcggjmaehaaDoorPlace
namespace Go.Proofs.YtlbbjcggjmaehaaDoor
open Go Go.RowKit Go.Maps

/-- The array of flags seen. -/
def HasAt (w : World) (H : Nat) (fl : List Int) : Prop := ∃ cs : Array Value, w.heap[H]? = some (.cells cs 53 (0, 0)) ∧ cs.size = 10 ∧ ∀ j : Nat, j < 10 → cs[j]? = some (.bool (fl.contains (97 + (j : Int))))

def FlRel (w2 : World) (H nl : Nat) (fv cv iv : Value) (wr : World) : Prop :=
  ∃ (i c : Nat) (A : Option Addr) (fl : List Int), i ≤ nl ∧ i ≤ 20 ∧ iv = .int .i64 (i : Int) ∧ fl.length = i ∧ fv = .slice A i c ∧ wr.ownsRow w2.heap.size 3 1 (.slice A i c) i (intCells fl) ∧ cv = .int .i64 ((1 + (onF fl).length : Nat) : Int) ∧ HasAt wr H fl ∧ w2.grownBy wr (some H)

theorem bool_info : (Tryd.prog.info? 53).map (·.size) = some 10 := by kernel_rfl

set_option maxRecDepth 100000 in
set_option maxHeartbeats 8000000 in
theorem flags_walk (x : Int) (zs : List Int) (ZA : Option Addr) (nl zc : Nat) (cross : Bool) (w : World) (hzn : zs.length = nl) (hz : Sl w 1 ZA nl (intCells zs)) (hT : Lib.Utf8Tabs 0 1 w) :
    Calls Tryd.prog 6 #[.int .i64 x, .slice ZA nl zc, .bool cross] w (TrueRes w) := by
  obtain ⟨i0, hi, hz0, hz1, hz2⟩ := info_parts rule_info
  obtain ⟨m, hm⟩ : ∃ m : Nat, x % 10 = m := ⟨(x % 10).toNat, by omega⟩
  have hm10 : m < 10 := by omega
  have HM := Lib.hid hm
  have HT := Lib.hid hT
  have HZ := Lib.hid hz
  have HZN := Lib.hid hzn
  clear hT hm hz hzn
  have hex := slice_wd abcF 0 (1 + m)
  rw [List.drop_zero] at hex
  obtain ⟨W, hW⟩ : ∃ W, abcF.take (1 + m) = W := ⟨_, rfl⟩
  rw [hW] at hex
  have hWl : W.length = 1 + m := by rw [← hW, List.length_take]; show min (1 + m) 10 = 1 + m; omega
  have HW := Lib.hid hW
  unfold abcF at hex
  clear hW
  have hm1 : (1 : Int) + (m : Int) ≤ 10 := by omega
  go_enter Tryd.func6, Tryd.ntmps6
  go_wp2_with fail
  refine (place_any x 10 w (by omega) (by omega)).mono ?_
  rintro e w' ⟨rfl, rfl⟩
  rw [HM.out]
  obtain ⟨CB, hCB⟩ : ∃ CB, w.heap.size = CB := ⟨_, rfl⟩
  have hal := World.grownBy_alloc w (.cells #[.bool true, .bool false, .slice none 0 0] 48) none
  have hit := Sl.of_own (World.ownsRow_lit (base := 0) (size := 3) (e := 48) w #[.bool true, .bool false, .slice none 0 0] 1 (Nat.zero_le _) (by decide) rfl) (by intro x hx; simp at hx; rcases hx with rfl | rfl | rfl <;> rfl)
  have hcond : CondAt (w.alloc (.cells #[.bool true, .bool false, .slice none 0 0] 48)) (some ⟨w.heap.size, 0, none⟩) [anyIt] := ⟨hit, fun z hz => by rw [List.mem_singleton] at hz; subst hz; exact Sl.nil _ _ _⟩
  have hszw : (w.alloc (.cells #[.bool true, .bool false, .slice none 0 0] 48)).heap.size = CB + 1 := by rw [World.size_alloc, hCB]
  rw [hCB] at hcond
  go_wp2_with fail
  obtain ⟨w1, hw1⟩ : ∃ w1, w.alloc (.cells #[.bool true, .bool false, .slice none 0 0] 48) = w1 := ⟨_, rfl⟩
  rw [hw1] at hcond hal hszw ⊢
  rw [hex]
  have HEX := Lib.hid hex
  clear hex
  have HC := Lib.hid hcond
  have HAL := Lib.hid hal
  have HSZ := Lib.hid hszw
  clear hw1 hal hit hcond hszw
  go_loopw [8, 10] (fun lv iv wr => ∃ (i c : Nat) (A : Option Addr), i ≤ 10 ∧ iv = .int .i64 (i : Int) ∧ lv = .slice A i c ∧ wr.ownsRow w1.heap.size 51 6 (.slice A i c) i (ruCells (flagsR cross (some ⟨CB, 0, none⟩) 1 i)) ∧ w1.grownBy wr none) (fun _ iv _ => 10 - (RowKit.intOf iv).toNat)
  case atStart => exact ⟨0, 0, none, Nat.zero_le _, rfl, rfl, World.ownsRow_nil _ _ _ _, grownBy_refl _ none⟩
  case round =>
    obtain ⟨i, c, A, hia, rfl, rfl, hown, hg⟩ := hrel
    rcases Nat.lt_or_ge i 10 with hlt | hge
    · skip
      have hlti : (i : Int) < (10 : Int) := by omega
      have wf : IntKind.i64.wrap (97 + (i : Int)) = 97 + (i : Int) := by rw [IntKind.wrap_i64]; omega
      have hl8 : (i : Int) + 1 ≤ 10 := by omega
      have hii : (i : Int) ≤ (i : Int) + 1 := by omega
      have wi : IntKind.i64.wrap (i : Int) = (i : Int) := by rw [IntKind.wrap_i64]; omega
      have wi1 : IntKind.i64.wrap ((i : Int) + 1) = (i : Int) + 1 := by rw [IntKind.wrap_i64]; omega
      have zi : (0 : Int) ≤ (i : Int) + 1 := by omega
      have hex := slice_wd digsF i (i + 1)
      obtain ⟨X, hX⟩ : ∃ X, (digsF.take (i + 1)).drop i = X := ⟨_, rfl⟩
      rw [hX] at hex
      unfold digsF at hex
      have HX := Lib.hid hX
      have hga := World.grownBy_alloc wr (.cells #[.bool false, .int .i64 (97 + (i : Int)), .bool cross, .string ⟨#[]⟩, .string ⟨X.toArray⟩, .slice (some ⟨CB, 0, none⟩) 1 1] 51) none
      have hsl := Sl.of_own (World.ownsRow_lit (base := 0) (size := 6) (e := 51) wr #[.bool false, .int .i64 (97 + (i : Int)), .bool cross, .string ⟨#[]⟩, .string ⟨X.toArray⟩, .slice (some ⟨CB, 0, none⟩) 1 1] 1 (Nat.zero_le _) (by decide) rfl) (by intro x hx; simp at hx; rcases hx with rfl | rfl | rfl | rfl | rfl | rfl <;> rfl)
      have hown2 := ownsRow_kept hown hga (own_none _)
      have hwr := hg.size
      have HSL := Lib.hid hsl
      have HO2 := Lib.hid hown2
      have HGA := Lib.hid hga
      have HG := Lib.hid hg
      clear hX hga hsl hown2 hg hown
      go_wp2_with (at_builtin; refine wpList_append_sl _ rfl (.tmp 29) (.tmp 39) 22 rfl w1.heap.size 51 i0 _ 6 80 Tryd.underlying22 hi hz0 hz1 hz2 rfl (by decide) (.slice A (i) c) (i) _ rfl HO2.out (some ⟨wr.heap.size, 0, none⟩) 1 1 [.bool false, .int .i64 (97 + (i : Int)), .bool cross, .string ⟨#[]⟩, .string ⟨X.toArray⟩, .slice (some ⟨CB, 0, none⟩) 1 1] rfl HSL.out (by unfold maxLen; omega) (by omega) (by simp; omega) ?_)
      rintro v' w' ⟨hown', hg', hat⟩
      obtain ⟨q', c', rfl, _⟩ := own_form hown' (by omega)
      have hgw : w1.grownBy w' none := grownBy_trans (grownBy_trans HG.out HGA.out nofun) hg' (fun l hl => .inr (HO2.out.lt l hl).1)
      go_wp2_with fail
      go_roundw
      case rel =>
        refine ⟨i + 1, c', some ⟨q', 0, none⟩, by omega, by go_num, by rfl, ?_, hgw⟩
        rw [flagsR_snoc, ruCells_snoc]
        rw [← HX.out] at hown'
        exact hown'
      case measure => simp [RowKit.intOf]; omega
    · have hnr10 : i = 10 := by omega
      obtain ⟨nr, hnr⟩ : ∃ nr : Nat, nr = i := ⟨i, rfl⟩
      subst hnr
      have HO := Lib.hid hown
      have HG := Lib.hid hg
      clear hown hg
      obtain ⟨rules, hrules⟩ : ∃ rules, flagsR cross (some ⟨CB, 0, none⟩) 1 10 = rules := ⟨_, rfl⟩
      have hrl : rules.length = nr := by rw [← hrules, flagsR_len]; exact hnr10.symm
      have hown := HO.out
      have er : flagsR cross (some ⟨CB, 0, none⟩) 1 nr = flagsR cross (some ⟨CB, 0, none⟩) 1 10 := by rw [hnr10]
      rw [er, hrules] at hown
      have hrs : RusAt wr A rules := by
        refine ⟨?_, fun r hr => ?_⟩
        · have := Sl.of_own hown (ruCells_one rules)
          rw [hrl]; exact this
        · have hcd := HC.out.kept HG.out
          rw [← hrules] at hr
          have hdl : ∀ i, ((digsF.take (i + 1)).drop i).length ≤ 100000 := fun i => by
            rw [List.length_drop, List.length_take]
            have : digsF.length = 10 := rfl
            omega
          obtain ⟨i, _, rfl⟩ := List.mem_map.1 hr
          exact ⟨hcd, by show 1 ≤ 100000; omega, fun z hz => by simp only [flagR, List.mem_singleton] at hz; subst hz; show 0 ≤ 100000; omega, by show 0 ≤ 100000; omega, hdl i⟩
      have hff := fun (F : Option Addr) (fc : Nat) (fl : List Int) => flags_forms hm10 cross (some ⟨CB, 0, none⟩) 1 F fc fl
      rw [HW.out] at hff
      simp only [hrules] at hff
      have HFF := Lib.hid hff
      have HRS := Lib.hid hrs
      have HRL := Lib.hid hrl
      have HT1 := Lib.hid (tabs_kept HT.out (grownBy_trans HAL.out HG.out nofun))
      have HNR := Lib.hid hnr10
      clear hrs hff hrl hown hrules HO er hnr10
      obtain ⟨HB, hHB⟩ : ∃ HB, wr.heap.size = HB := ⟨_, rfl⟩
      go_wp2_with fail
      obtain ⟨w2, hw2⟩ : ∃ w2, wr.alloc (.cells #[.bool false, .bool false, .bool false, .bool false, .bool false, .bool false, .bool false, .bool false, .bool false, .bool false] 53) = w2 := ⟨_, rfl⟩
      rw [hw2]
      have hal2 := World.grownBy_alloc wr (.cells #[.bool false, .bool false, .bool false, .bool false, .bool false, .bool false, .bool false, .bool false, .bool false, .bool false] 53) none
      have hhb := heap_alloc_new wr (.cells #[.bool false, .bool false, .bool false, .bool false, .bool false, .bool false, .bool false, .bool false, .bool false, .bool false] 53 (0, 0))
      have hsz2 : w2.heap.size = HB + 1 := by rw [← hw2, World.size_alloc, hHB]
      rw [hw2] at hal2 hhb
      rw [hHB] at hhb
      have hHlt : HB < w2.heap.size := by omega
      have hHle : w2.heap.size ≤ HB + 1 := by omega
      clear hsz2
      have hhas : HasAt w2 HB [] := ⟨_, hhb, rfl, fun j hj => by
        match j, hj with
        | 0, _ => rfl
        | 1, _ => rfl
        | 2, _ => rfl
        | 3, _ => rfl
        | 4, _ => rfl
        | 5, _ => rfl
        | 6, _ => rfl
        | 7, _ => rfl
        | 8, _ => rfl
        | 9, _ => rfl
        | n + 10, h => exact absurd h (by omega)⟩
      have hw0 : w.heap.size ≤ HB := by have h1 := HAL.out.size; have h2 := HG.out.size; omega
      have hg02 : w.grownBy w2 none := grownBy_trans HAL.out (grownBy_trans HG.out hal2 nofun) nofun
      have HG02 := Lib.hid hg02
      have HAL2 := Lib.hid hal2
      have HHAS := Lib.hid hhas
      obtain ⟨j0, hj0, kz0, kz1, kz2⟩ := info_parts int_info
      have hwrHB : wr.heap.size ≤ HB := by omega
      clear hal2 hhb hw2 hhas hg02 hHB
      go_loopw [11, 13, 14] (fun fv cv iv wr => FlRel w2 HB nl fv cv iv wr) (fun _ _ iv _ => 20 - (RowKit.intOf iv).toNat)
      case atStart => exact ⟨0, 0, none, [], Nat.zero_le _, Nat.zero_le _, rfl, rfl, rfl, World.ownsRow_nil _ _ _ _, by rw [show onF [] = [] by decide]; rfl, HHAS.out, grownBy_refl _ _⟩
      case round =>
        obtain ⟨i, fc, FA, fl, hil, hi20, rfl, hfl, rfl, hown, rfl, hhas, hg⟩ := hrel
        obtain ⟨cnt, hcnt⟩ : ∃ cnt, 1 + (onF fl).length = cnt := ⟨_, rfl⟩
        have hcb : cnt ≤ 11 := by rw [← hcnt]; have := List.length_filter_le (fun i : Nat => fl.contains (97 + (i : Int))) (List.range 10); simp only [List.length_range] at this; unfold onF; omega
        rw [hcnt]
        have HCN := Lib.hid hcnt
        have HO := Lib.hid hown
        have HH := Lib.hid hhas
        have HGF := Lib.hid hg
        have HFL := Lib.hid hfl
        have hg0 : w.grownBy wr none := grownBy_trans HG02.out hg (fun l hl => .inr (by cases hl; omega))
        have hwr := hg.size
        have HG0 := Lib.hid hg0
        clear hcnt hown hhas hg hfl hg0
        by_cases hcont : i < nl ∧ i < 20
        · obtain ⟨hlt, hlt20⟩ := hcont
          have d1 : decide ((i : Int) < (nl : Int)) = true := decide_eq_true (by omega)
          have d2 : decide ((i : Int) < (20 : Int)) = true := decide_eq_true (by omega)
          have hlti : (i : Int) < (nl : Int) := by omega
          obtain ⟨z, hz⟩ : ∃ z, zs[i]? = some z := ⟨_, List.getElem?_eq_getElem (by rw [HZN.out]; exact hlt)⟩
          obtain ⟨qz, oz, rfl, hcell⟩ := int_at (l := zs) (by rw [HZN.out]; exact HZ.out.kept HG0.out nofun) hz
          obtain ⟨j, hj⟩ : ∃ j : Nat, z % 10 = j := ⟨(z % 10).toNat, by omega⟩
          have hj10 : j < 10 := by omega
          have HJ := Lib.hid hj
          clear hz hj
          go_wp2_with fail
          refine (place_any z 10 wr (by omega) (by omega)).mono ?_
          rintro e w' ⟨rfl, rfl⟩
          rw [HJ.out]
          have wj : IntKind.i64.wrap (97 + (j : Int)) = 97 + (j : Int) := by rw [IntKind.wrap_i64]; omega
          have hga := World.grownBy_alloc wr (.cells #[.int .i64 (97 + (j : Int))] 3) none
          have hsl := Sl.of_own (World.ownsRow_lit (base := 0) (size := 1) (e := 3) wr #[.int .i64 (97 + (j : Int))] 1 (Nat.zero_le _) (by decide) rfl) (by intro x hx; simp at hx; subst hx; rfl)
          have HO2 := Lib.hid (ownsRow_kept HO.out hga (own_none _))
          have HSL := Lib.hid hsl
          have HGA := Lib.hid hga
          clear hga hsl hcell
          go_wp2_with (at_builtin; refine wpList_append_sl _ rfl (.tmp 56) (.tmp 59) 23 rfl w2.heap.size 3 j0 _ 1 8 Tryd.underlying23 hj0 kz0 kz1 kz2 rfl (by decide) (.slice FA i fc) i _ rfl HO2.out (some ⟨wr.heap.size, 0, none⟩) 1 1 [.int .i64 (97 + (j : Int))] rfl HSL.out (by unfold maxLen; omega) (by omega) (by simp; omega) ?_)
          rintro v' w' ⟨hown', hg', hat⟩
          obtain ⟨q', c', rfl, hq2⟩ := own_form hown' (by omega)
          obtain ⟨cs, hcs, hcz, hcv⟩ := HH.out
          have hcs' := grownBy_heap (World.grownBy_alloc wr (.cells #[.int .i64 (97 + (j : Int))] 3) none) hcs nofun
          have hcs2 := grownBy_heap hg' hcs' (fun e => by have := (HO2.out.lt _ e).1; omega)
          have x0 := cell_of_heap hcs2 j
          rw [hcv j hj10] at x0
          have x1 := frozen_of_heap hcs2 j
          obtain ⟨p, hp⟩ : ∃ p, fl.contains (97 + (j : Int)) = p := ⟨_, rfl⟩
          rw [hp] at x0
          have hadd := onF_add (fl := fl) hj10
          rw [hp] at hadd
          have hgF : w2.grownBy w' (some HB) := grownBy_trans (grownBy_trans HGF.out HGA.out nofun) hg' (fun l hl => .inr (HO2.out.lt l hl).1)
          have hset := heap_setCell hcs2 j (.bool true)
          have HSET := Lib.hid hset
          have HGN := Lib.hid (grownBy_setCell hgF HB j (.bool true) (.inl rfl))
          have hqne : q' ≠ HB := by have := (hown'.lt q' rfl).1; omega
          have HOW := Lib.hid (ownsRow_setCell hown' (k := HB) (fun e => by cases e; exact hqne rfl) j (.bool true))
          have HADD := Lib.hid hadd
          have HPP := Lib.hid hp
          have HCV := Lib.hid (And.intro hcz hcv)
          clear hown' hg' hat hcs hcs' hcs2 hcz hcv hp hadd hgF hset
          cases p with
          | true =>
            go_wp2_with fail
            go_roundw
            case rel =>
              refine ⟨i + 1, c', some ⟨q', 0, none⟩, fl ++ [97 + (j : Int)], by omega, by omega, by go_num, by rw [List.length_append, HFL.out]; rfl, rfl, by have h := HOW.out; have e : intCells (fl ++ [97 + (j : Int)]) = intCells fl ++ [.int .i64 (97 + (j : Int))] := (by simp [intCells]); rw [e]; exact h, ?_, ?_, HGN.out⟩
              · have h := HADD.out
                rw [if_pos rfl] at h
                rw [h, Nat.add_zero, HCN.out]
              · refine ⟨_, HSET.out, by rw [Array.size_setIfInBounds]; exact HCV.out.1, fun t ht => ?_⟩
                rw [Array.getElem?_setIfInBounds]
                by_cases htj : j = t
                · subst htj
                  rw [if_pos rfl, if_pos (by rw [HCV.out.1]; exact hj10)]
                  simp
                · rw [if_neg htj, HCV.out.2 t ht]
                  congr 2
                  rw [Bool.eq_iff_iff, List.contains_iff_mem, List.contains_iff_mem, List.mem_append, List.mem_singleton]
                  exact ⟨.inl, fun h => h.resolve_right (fun h => htj (by omega))⟩
            case measure => simp [RowKit.intOf]; omega
          | false =>
            have wc : IntKind.i64.wrap ((cnt : Int) + 1) = (cnt : Int) + 1 := by rw [IntKind.wrap_i64]; omega
            go_wp2_with fail
            go_roundw
            case rel =>
              refine ⟨i + 1, c', some ⟨q', 0, none⟩, fl ++ [97 + (j : Int)], by omega, by omega, by go_num, by rw [List.length_append, HFL.out]; rfl, rfl, by have h := HOW.out; have e : intCells (fl ++ [97 + (j : Int)]) = intCells fl ++ [.int .i64 (97 + (j : Int))] := (by simp [intCells]); rw [e]; exact h, ?_, ?_, HGN.out⟩
              · have h := HADD.out
                rw [if_neg Bool.false_ne_true] at h
                rw [h, ← Nat.add_assoc, HCN.out]; rfl
              · refine ⟨_, HSET.out, by rw [Array.size_setIfInBounds]; exact HCV.out.1, fun t ht => ?_⟩
                rw [Array.getElem?_setIfInBounds]
                by_cases htj : j = t
                · subst htj
                  rw [if_pos rfl, if_pos (by rw [HCV.out.1]; exact hj10)]
                  simp
                · rw [if_neg htj, HCV.out.2 t ht]
                  congr 2
                  rw [Bool.eq_iff_iff, List.contains_iff_mem, List.contains_iff_mem, List.mem_append, List.mem_singleton]
                  exact ⟨.inl, fun h => h.resolve_right (fun h => htj (by omega))⟩
            case measure => simp [RowKit.intOf]; omega
        · have hgx := grownBy_trans HAL2.out HGF.out (fun l hl => .inr (by cases hl; omega))
          have HGX := Lib.hid hgx
          have hrs := HRS.out.kept hgx
          have hflS := Sl.of_own HO.out (by intro x hx; simp only [intCells, List.mem_map] at hx; obtain ⟨_, _, rfl⟩ := hx; rfl)
          have hf := forms_walk rules A nr c ⟨W, FA, fc, fl⟩ wr HRL.out (by have := HNR.out; omega) hrs ⟨by show Sl wr 1 FA fl.length _; rw [HFL.out]; exact hflS, by show W.length ≤ 100000; omega, by show fl.length ≤ 100000; rw [HFL.out]; omega⟩ (tabs_kept HT1.out hgx)
          unfold En.val at hf
          simp only at hf
          rw [HFF.out FA fc fl, HFL.out] at hf
          have hl1 : (listF W fl).length = cnt := by rw [listF_len]; exact HCN.out
          have hhas := HH.out
          have hget : ∀ k : Nat, 1 ≤ k → k < cnt → ∃ t : Nat, t < 10 ∧ fl.contains (97 + (t : Int)) = true ∧ (listF W fl)[k]? = some (W ++ [digB t]) := fun k hk1 hk2 => by
            obtain ⟨k', rfl⟩ : ∃ k', k = k' + 1 := ⟨k - 1, by omega⟩
            have hk3 : k' < (onF fl).length := by have := HCN.out; omega
            have hm := List.getElem_mem hk3
            have hm2 := List.mem_filter.1 hm
            refine ⟨(onF fl)[k'], List.mem_range.1 hm2.1, hm2.2, ?_⟩
            unfold listF
            rw [List.getElem?_cons_succ, List.getElem?_map, List.getElem?_eq_getElem hk3]; rfl
          have hz0' : (listF W fl)[0]? = some W := rfl
          obtain ⟨L, hL⟩ : ∃ L, listF W fl = L := ⟨_, rfl⟩
          rw [hL] at hf hl1 hz0'
          simp only [hL] at hget
          have HF := Lib.hid hf
          have HL1 := Lib.hid hl1
          have HGET := Lib.hid hget
          have HZ0 := Lib.hid hz0'
          have HRS2 := Lib.hid hrs
          clear hgx hrs hflS hf hL hl1 hget hz0' hhas
          have hcases : (decide ((i : Int) < (nl : Int)) = false) ∨ (decide ((i : Int) < (nl : Int)) = true ∧ decide ((i : Int) < (20 : Int)) = false) := by
            by_cases h : i < nl
            · refine .inr ⟨decide_eq_true (by omega), decide_eq_false (by omega)⟩
            · exact .inl (decide_eq_false (by omega))
          clear hcont
          go_upto_region 12 with (fail)
          go_cut [48] (fun v wx => v = .bool false ∧ wx = wr)
          case first =>
            rcases hcases with d1 | ⟨d1, d2⟩
            · have p1 : ¬ (i : Int) < (nl : Int) := of_decide_eq_false d1
              go_wp2_with fail
              go_meet
              exact ⟨rfl, rfl⟩
            · have p1 : (i : Int) < (nl : Int) := of_decide_eq_true d1
              have p2 : ¬ (i : Int) < 20 := of_decide_eq_false d2
              go_wp2_with fail
              go_meet
              exact ⟨by first | rfl | rw [d2], rfl⟩
          case rest =>
            obtain ⟨rfl, rfl⟩ := hcut
            clear hcases
            go_wp2_with fail
            refine HF.out.mono ?_
            rintro e w5 ⟨v, rfl, ⟨A2, k2, rfl, hown2⟩, hg5⟩
            have hf2 := forms_walk rules A nr c ⟨W, none, 0, []⟩ w5 HRL.out (by have := HNR.out; omega) (HRS2.out.kept hg5) ⟨Sl.nil _ _ _, by show W.length ≤ 100000; omega, by show 0 ≤ 100000; omega⟩ (tabs_kept (tabs_kept HT1.out HGX.out) hg5)
            unfold En.val at hf2
            simp only [List.length_nil] at hf2
            rw [HFF.out none 0 [], listF_none] at hf2
            rw [HL1.out] at hown2 ⊢
            have HSL2 := Lib.hid (Sl.of_own hown2 (strCells_one' _))
            have HF2 := Lib.hid hf2
            have HG5 := Lib.hid hg5
            clear hown2 hf2 hg5
            go_wp2_with fail
            refine HF2.out.mono ?_
            rintro e w6 ⟨v, rfl, ⟨A3, k3, rfl, hown3⟩, hg6⟩
            simp only [List.length_singleton] at hown3 ⊢
            have hsl3 := Sl.of_own hown3 (strCells_one' _)
            have hsl2 := HSL2.out.kept hg6 nofun
            have hc1 : 1 ≤ cnt := by have := HCN.out; omega
            obtain ⟨q2, o2, rfl, h2⟩ := hsl2.2.2 (by omega)
            obtain ⟨q3, o3, rfl, h3⟩ := hsl3.2.2 (by decide)
            have x0 := h2 0 _ (by rw [strCells, List.getElem?_map, HZ0.out]; rfl)
            have y0 := h3 0 _ rfl
            simp only [Nat.add_zero] at x0 y0
            have hci : (0 : Int) < (cnt : Int) := by omega
            have HG6 := Lib.hid (grownBy_trans HG5.out hg6 nofun)
            have HSL4 := Lib.hid hsl2
            obtain ⟨cs, hcs, hcz, hcv⟩ := HH.out
            have HCS := Lib.hid (grownBy_heap (grownBy_trans HG5.out hg6 nofun) hcs nofun)
            have HCV := Lib.hid hcv
            clear hcs hcz hcv hown3 hsl3 hsl2 h2 h3 hg6
            obtain ⟨lw, hlw⟩ : ∃ lw, W.length = lw := ⟨_, rfl⟩
            have zW := size_wd W
            rw [hlw] at zW
            have HLW := Lib.hid hlw
            have hlwb : lw ≤ 11 := by omega
            clear hlw
            go_wp2_with fail
            go_loopw [18] (fun iv wr => ∃ i : Nat, 1 ≤ i ∧ i ≤ cnt ∧ iv = .int .i64 (i : Int) ∧ w6.grownBy wr none) (fun iv _ => cnt - (RowKit.intOf iv).toNat)
            case atStart => exact ⟨1, Nat.le_refl _, hc1, rfl, grownBy_refl _ none⟩
            case round =>
              obtain ⟨i, hi1, hin, rfl, hg⟩ := hrel
              have HGL := Lib.hid hg
              rcases Nat.lt_or_ge i cnt with hlt | hge
              · have hlti : (i : Int) < (cnt : Int) := by omega
                obtain ⟨t, ht10, htc, hti⟩ := HGET.out i hi1 hlt
                obtain ⟨_, _, e9, h2⟩ := (HSL4.out.kept hg nofun).2.2 (by omega)
                cases e9
                have x1 := h2 i _ (by rw [strCells, List.getElem?_map, hti]; rfl)
                obtain ⟨sW, hsW⟩ : ∃ sW, W ++ [digB t] = sW := ⟨_, rfl⟩
                rw [hsW] at x1
                have zS := size_wd sW
                have hsl : sW.length = lw + 1 := by rw [← hsW, List.length_append, HLW.out]; rfl
                rw [hsl] at zS
                have hexS := slice_wd sW 0 lw
                have htk : sW.take lw = W := by rw [← hsW, ← HLW.out, List.take_left']; rfl
                rw [List.drop_zero, htk] at hexS
                obtain ⟨db, hdb⟩ : ∃ db, digB t = db := ⟨_, rfl⟩
                have hgb := get_byte (s := sW) (i := lw) (b := db) (by rw [← hsW, ← HLW.out, List.getElem?_append_right (Nat.le_refl _), Nat.sub_self, hdb]; rfl)
                have hdn : db.toNat = 48 + t := by rw [← hdb]; unfold digB; rw [UInt8.toNat_ofNat']; omega
                have e1 : decide ((db.toNat : Int) < (48 : Int)) = false := decide_eq_false (by omega)
                have e2 : decide ((57 : Int) < (db.toNat : Int)) = false := decide_eq_false (by omega)
                have e3 : (db.toNat : Int) - 48 = (t : Int) := by omega
                have e4 : IntKind.u8.wrap (t : Int) = (t : Int) := by rw [IntKind.wrap_u8]; omega
                have e5 : (t : Int) < 10 := by omega
                have hh := grownBy_heap hg HCS.out nofun
                have x2 := cell_of_heap hh t
                rw [HCV.out t ht10, htc] at x2
                have l1 : (lw : Int) ≤ (lw : Int) + 1 := by omega
                have l2 : (lw : Int) < (lw : Int) + 1 := by omega
                have HDN := Lib.hid hdn
                clear h2 hti hsW hsl htk hdb hdn htc hh hg x0 y0
                go_wp2_with fail
                go_roundw
                case rel => exact ⟨i + 1, by omega, by omega, by go_num, HGL.out⟩
                case measure => simp [RowKit.intOf]; omega
              · obtain rfl : i = cnt := by omega
                clear hg x0 y0
                go_wp2_with fail
                refine (awake13_walk _ (tabs_kept (tabs_kept HT1.out HGX.out) (grownBy_trans HG6.out HGL.out nofun))).mono ?_
                rintro e w7 ⟨rfl, hg7⟩
                have HG7 := Lib.hid hg7
                clear hg7
                go_wp2_with fail
                go_ret
                exact ⟨rfl, grownBy_trans HG0.out (grownBy_trans HG6.out (grownBy_trans HGL.out HG7.out nofun) nofun) nofun⟩
end Go.Proofs.YtlbbjcggjmaehaaDoor
