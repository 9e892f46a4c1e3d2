/-
  closure.put: the walk. Conditions: at most 900 rules; a word, the rules' parts not too long; unicode/utf8's two tables as they are laid.
-/
import Derived.Test.YtlbbjcggjmaehaaDoorPutP
namespace Go.Proofs.YtlbbjcggjmaehaaDoor
open Go Go.RowKit Go.Maps

theorem grown_row {a b : World} (h : a.grownBy b none) (r : Option Nat) : a.grownBy b r := ⟨h.os, h.tape, h.output, h.size, fun k hk _ => h.block k hk nofun⟩

/-- The first loop: what has been put, the rules kept. -/
def PutRel (rules : List Ru) (e : En) (M nm : Nat) (ks : List Wd) (w1 : World) (sv pv iv : Value) (wr : World) : Prop :=
  ∃ (i c cs cp : Nat) (S Q : Option Addr), i ≤ rules.length ∧ iv = .int .i64 (i : Int) ∧ c ≤ nm + 1 + i ∧ SetIs wr M c (ks ++ [e.word] ++ (rules.take i).flatMap (oneQ e)) ∧
    sv = .slice S ((rules.take i).filter (isS e)).length cs ∧ pv = .slice Q ((rules.take i).filter (isP e)).length cp ∧
    wr.ownsRow w1.heap.size 51 6 (.slice S ((rules.take i).filter (isS e)).length cs) ((rules.take i).filter (isS e)).length (ruCells ((rules.take i).filter (isS e))) ∧
    wr.ownsRow w1.heap.size 51 6 (.slice Q ((rules.take i).filter (isP e)).length cp) ((rules.take i).filter (isP e)).length (ruCells ((rules.take i).filter (isP e))) ∧
    (∀ l, (Value.slice S ((rules.take i).filter (isS e)).length cs).ownBlock = some l → (Value.slice Q ((rules.take i).filter (isP e)).length cp).ownBlock ≠ some l) ∧ w1.grownBy wr (some M)

set_option maxRecDepth 100000 in
set_option maxHeartbeats 4000000 in
theorem put13_walk (rules : List Ru) (A : Option Addr) (n cap : Nat) (e : En) (M nm : Nat) (ks : List Wd) (w0 w : World) (hn : rules.length = n) (hb : n ≤ 900) (hr : RusAt w0 A rules) (he : EnAt w0 e)
    (hT : Lib.Utf8Tabs 0 1 w0) (g0 : w0.grownBy w none) (hM : w0.heap.size ≤ M) (hset : SetIs w M nm ks) (hnm : nm + 1000000 ≤ maxLen) :
    Calls Tryd.prog 22 #[.map (some M), .slice A n cap, e.val] w fun x w' => x = .returned (.tuple #[]) ∧ (∃ c, c ≤ nm + 1000000 ∧ SetIs w' M c (ks ++ formsQ rules e)) ∧ w.grownBy w' (some M) := by
  obtain ⟨i0, hi, hz0, hz1, hz2⟩ := info_parts rule_info
  obtain ⟨word, hword⟩ : ∃ word, e.word = word := ⟨_, rfl⟩
  obtain ⟨F, hF⟩ : ∃ F, e.F = F := ⟨_, rfl⟩
  obtain ⟨m, hm⟩ : ∃ m, e.flags.length = m := ⟨_, rfl⟩
  obtain ⟨fcap, hfc⟩ : ∃ fcap, e.cap = fcap := ⟨_, rfl⟩
  have hwl := he.2.1
  rw [hword] at hwl
  have hev : e.val = .agg #[.string ⟨word.toArray⟩, .slice F m fcap] := by unfold En.val; rw [hword, hF, hm, hfc]
  rw [hev]
  have hbox := World.grownBy_alloc w (.cells #[.string ⟨word.toArray⟩, .slice F m fcap] 25) none
  have hob := heap_alloc_new w (.cells #[.string ⟨word.toArray⟩, .slice F m fcap] 25 (0, 0))
  have hMw := hset.lt
  obtain ⟨w1, hput, hset1, hg1⟩ := (hset.kept hbox nofun).store word (by unfold maxLen; omega) (by omega)
  have hob1 := grownBy_heap hg1 hob (by intro h; cases h; omega)
  have hs1 := hg1.size
  rw [World.size_alloc] at hs1
  have hgw1 : w.grownBy w1 (some M) := grownBy_trans (grown_row hbox _) hg1 (fun i h => .inl h)
  have hg01 : w0.grownBy w1 none := grownBy_trans (grownBy_trans g0 hbox nofun) hg1 (fun i h => .inr (by cases h; omega))
  have HG1 := Lib.hid hgw1
  have HG01 := Lib.hid hg01
  have HOB := Lib.hid hob1
  have HS1 := Lib.hid hset1
  have HR := Lib.hid hr
  have HE := Lib.hid he
  have HT := Lib.hid hT
  have HN := Lib.hid hn
  have HEW := Lib.hid (And.intro hword (And.intro hF hm))
  have hMw1 : M < w1.heap.size := by omega
  clear hbox hob hset hset1 hg1 hob1 hgw1 hg01 hr he hT hn g0 hev hword hF hm hfc
  go_enter Tryd.func22, Tryd.ntmps22
  go_wp2_with fail
  clear hput
  go_loopw [6, 7, 23] (fun sv pv iv wr => PutRel rules e M nm ks w1 sv pv iv wr) (fun _ _ iv _ => n - (RowKit.intOf iv).toNat)
  case atStart =>
    exact ⟨0, nm + 1, 0, 0, none, none, Nat.zero_le _, rfl, by omega, by rw [HEW.out.1]; simpa using HS1.out, rfl, rfl, World.ownsRow_nil _ _ _ _, World.ownsRow_nil _ _ _ _, nofun, grownBy_refl _ _⟩
  case round =>
    obtain ⟨i, c, cs, cp, S, Q, hile, rfl, hc, hset, rfl, rfl, hS, hQ, hsep, hg⟩ := hrel
    rw [HN.out] at hile
    have hg0 : w0.grownBy wr none := grownBy_trans HG01.out hg (fun l hl => .inr (by cases hl; omega))
    have hob := grownBy_heap hg HOB.out (by intro h; cases h; omega)
    have hwr := hg.size
    obtain ⟨Ls, hLs⟩ : ∃ Ls, (rules.take i).filter (isS e) = Ls := ⟨_, rfl⟩
    obtain ⟨Lp, hLp⟩ : ∃ Lp, (rules.take i).filter (isP e) = Lp := ⟨_, rfl⟩
    rw [hLs] at hS hsep ⊢
    rw [hLp] at hQ hsep ⊢
    have hlS : Ls.length ≤ i := by rw [← hLs]; exact Nat.le_trans (List.length_filter_le _ _) (by rw [List.length_take]; omega)
    have hlP : Lp.length ≤ i := by rw [← hLp]; exact Nat.le_trans (List.length_filter_le _ _) (by rw [List.length_take]; omega)
    obtain ⟨ns, hns⟩ : ∃ ns, Ls.length = ns := ⟨_, rfl⟩
    obtain ⟨np, hnp⟩ : ∃ np, Lp.length = np := ⟨_, rfl⟩
    rw [hns] at hS hsep hlS ⊢
    rw [hnp] at hQ hsep hlP ⊢
    have HLL := Lib.hid (And.intro hLs (And.intro hLp (And.intro hns hnp)))
    have HSET := Lib.hid hset
    have HS := Lib.hid hS
    have HQ := Lib.hid hQ
    have HSEP := Lib.hid hsep
    have HG := Lib.hid hg
    have HG0 := Lib.hid hg0
    have HO := Lib.hid hob
    clear hset hS hQ hsep hg hg0 hob hLs hLp hns hnp
    rcases Nat.lt_or_ge i n with hlt | hge
    · have hlti : (i : Int) < (n : Int) := by omega
      obtain ⟨r, hr⟩ : ∃ r, rules[i]? = some r := ⟨_, List.getElem?_eq_getElem (by rw [HN.out]; exact hlt)⟩
      have hrus := HR.out.kept HG0.out
      obtain ⟨q, o, rfl, c0, c1, c2, c3, c4, c5⟩ := ru_cell hrus hr
      have e0 := cell_of_heap HO.out 0
      have e1 := cell_of_heap HO.out 1
      have htk : rules.take (i + 1) = rules.take i ++ [r] := by rw [List.take_add_one, hr]; rfl
      have HTK := Lib.hid htk
      have hrr := ru_vals hrus hr
      have hap := apply_walk r word
      unfold Ru.val at hap
      have hin : r ∈ rules := List.mem_of_getElem? hr
      have HIN := Lib.hid hin
      obtain ⟨r0, hr0⟩ : ∃ r0, r.pre = r0 := ⟨_, rfl⟩
      obtain ⟨r1, hr1⟩ : ∃ r1, r.flag = r1 := ⟨_, rfl⟩
      obtain ⟨r2, hr2⟩ : ∃ r2, r.cross = r2 := ⟨_, rfl⟩
      obtain ⟨r3, hr3⟩ : ∃ r3, r.strip = r3 := ⟨_, rfl⟩
      obtain ⟨r4, hr4⟩ : ∃ r4, r.add = r4 := ⟨_, rfl⟩
      obtain ⟨r5, hr5⟩ : ∃ r5, r.C = r5 := ⟨_, rfl⟩
      obtain ⟨r6, hr6⟩ : ∃ r6, r.cond.length = r6 := ⟨_, rfl⟩
      obtain ⟨r7, hr7⟩ : ∃ r7, r.cap = r7 := ⟨_, rfl⟩
      have hrow : r.row = [.bool r0, .int .i64 r1, .bool r2, .string ⟨r3.toArray⟩, .string ⟨r4.toArray⟩, .slice r5 r6 r7] := by unfold Ru.row; rw [hr0, hr1, hr2, hr3, hr4, hr5, hr6, hr7]
      rw [hr0] at c0; rw [hr1] at c1; rw [hr2] at c2; rw [hr3] at c3; rw [hr4] at c4; rw [hr5, hr6, hr7] at c5
      rw [hr0, hr1, hr2, hr3, hr4, hr5, hr6, hr7] at hap
      have hal := World.grownBy_alloc wr (.cells #[.bool r0, .int .i64 r1, .bool r2, .string ⟨r3.toArray⟩, .string ⟨r4.toArray⟩, .slice r5 r6 r7] 51) none
      have hbl := heap_alloc_new wr (.cells #[.bool r0, .int .i64 r1, .bool r2, .string ⟨r3.toArray⟩, .string ⟨r4.toArray⟩, .slice r5 r6 r7] 51 (0, 0))
      have hob2 := grownBy_heap hal HO.out nofun
      obtain ⟨wa, hwa⟩ : ∃ wa, wr.alloc (.cells #[.bool r0, .int .i64 r1, .bool r2, .string ⟨r3.toArray⟩, .string ⟨r4.toArray⟩, .slice r5 r6 r7] 51) = wa := ⟨_, rfl⟩
      obtain ⟨k, hk⟩ : ∃ k, e.flags.contains r1 = k := ⟨_, rfl⟩
      have hcon := contains_walk e.flags r1 e.F m fcap (wr.alloc (.cells #[.bool r0, .int .i64 r1, .bool r2, .string ⟨r3.toArray⟩, .string ⟨r4.toArray⟩, .slice r5 r6 r7] 51)) HEW.out.2.2 (by have := HE.out.2.2; rw [HEW.out.2.2] at this; exact this)
        (by have := (HE.out.kept (grownBy_trans HG0.out hal nofun)).1; rw [HEW.out.2.2] at this; exact this)
      rw [hk, HEW.out.2.1] at hcon
      have d0 := cell_of_heap hbl 0
      have d1 := cell_of_heap hbl 1
      have d2 := cell_of_heap hbl 2
      have d3 := cell_of_heap hbl 3
      have d4 := cell_of_heap hbl 4
      have d5 := cell_of_heap hbl 5
      have f0 := cell_of_heap hob2 0
      have f1 := cell_of_heap hob2 1
      have HCON := Lib.hid hcon
      have HAP := Lib.hid hap
      have HBL := Lib.hid hbl
      have HOB2 := Lib.hid hob2
      have HAL := Lib.hid hal
      have HRR := Lib.hid (hrr.kept hal)
      have HTA := Lib.hid (tabs_kept HT.out (grownBy_trans HG0.out hal nofun))
      have HFK := Lib.hid (show e.flags.contains r.flag = k by rw [hr1]; exact hk)
      have HROW := Lib.hid hrow
      have HPC := Lib.hid (And.intro hr0 hr2)
      clear hcon hap hbl hob2 hal hrr hk hr hrus hin htk hrow hr0 hr1 hr2 hr3 hr4 hr5 hr6 hr7 hwa
      go_wp2_with fail
      refine HCON.out.mono ?_
      rintro x w2 ⟨rfl, rfl⟩
      cases k with
      | false =>
        have hone : oneQ e r = [] := by unfold oneQ; rw [HFK.out, if_neg Bool.false_ne_true]
        have hp : isP e r = false := by unfold isP; rw [HFK.out]; rfl
        have hs : isS e r = false := by unfold isS; rw [HFK.out]; rfl
        clear c0 c1 c2 c3 c4 c5 d0 d1 d2 d3 d4 d5 e0 e1 f0 f1
        go_wp2_with fail
        go_roundw
        case rel =>
          have e1 : (rules.take (i + 1)).flatMap (oneQ e) = (rules.take i).flatMap (oneQ e) := by rw [HTK.out, List.flatMap_append]; simp [hone]
          have e2 : (rules.take (i + 1)).filter (isS e) = Ls := by rw [HTK.out, List.filter_append, HLL.out.1]; simp [hs]
          have e3 : (rules.take (i + 1)).filter (isP e) = Lp := by rw [HTK.out, List.filter_append, HLL.out.2.1]; simp [hp]
          refine ⟨i + 1, c, cs, cp, S, Q, by rw [HN.out]; omega, by go_num, by omega, by rw [e1]; exact HSET.out.kept HAL.out nofun, by rw [e2, HLL.out.2.2.1], by rw [e3, HLL.out.2.2.2], ?_, ?_, ?_, grownBy_trans HG.out HAL.out nofun⟩
          · rw [e2, HLL.out.2.2.1]; exact ownsRow_kept HS.out HAL.out (own_none _)
          · rw [e3, HLL.out.2.2.2]; exact ownsRow_kept HQ.out HAL.out (own_none _)
          · rw [e2, e3, HLL.out.2.2.1, HLL.out.2.2.2]; exact HSEP.out
        case measure => simp [RowKit.intOf]; omega
      | true =>
        clear c0 c1 c2 c3 c4 c5 e0 e1
        go_wp2_with fail
        refine (HAP.out _ hwl HRR.out HTA.out).mono ?_
        intro x w3 hres
        obtain ⟨rfl, hg3⟩ := hres.val
        clear d0 d1 d2 d3 d4 d5 f0 f1 hres
        obtain ⟨ro, hro⟩ : ∃ ro, applyS r word = ro := ⟨_, rfl⟩
        rw [hro]
        unfold optV
        have HG3 := Lib.hid (grownBy_trans HAL.out hg3 nofun)
        have hb3 := grownBy_heap hg3 HBL.out nofun
        have ho3 := grownBy_heap hg3 HOB2.out nofun
        have d0 := cell_of_heap hb3 0
        have d1 := cell_of_heap hb3 1
        have d2 := cell_of_heap hb3 2
        have d3 := cell_of_heap hb3 3
        have d4 := cell_of_heap hb3 4
        have d5 := cell_of_heap hb3 5
        have f0 := cell_of_heap ho3 0
        have hsz3 := hg3.size
        have hal3 := HAL.out.size
        clear hg3 hb3 ho3
        cases ro with
        | none =>
          have hone : oneQ e r = [] := by unfold oneQ; rw [HFK.out, if_pos rfl, HEW.out.1, hro]; rfl
          have hp : isP e r = false := by unfold isP; rw [HFK.out, HEW.out.1, hro]; rfl
          have hs : isS e r = false := by unfold isS; rw [HFK.out, HEW.out.1, hro]; rfl
          clear hro
          simp only [Option.getD_none, Option.isSome_none]
          go_wp2_with fail
          go_roundw
          case rel =>
            have e1 : (rules.take (i + 1)).flatMap (oneQ e) = (rules.take i).flatMap (oneQ e) := by rw [HTK.out, List.flatMap_append]; simp [hone]
            have e2 : (rules.take (i + 1)).filter (isS e) = Ls := by rw [HTK.out, List.filter_append, HLL.out.1]; simp [hs]
            have e3 : (rules.take (i + 1)).filter (isP e) = Lp := by rw [HTK.out, List.filter_append, HLL.out.2.1]; simp [hp]
            refine ⟨i + 1, c, cs, cp, S, Q, by rw [HN.out]; omega, by go_num, by omega, by rw [e1]; exact HSET.out.kept HG3.out nofun, by rw [e2, HLL.out.2.2.1], by rw [e3, HLL.out.2.2.2], ?_, ?_, ?_, grownBy_trans HG.out HG3.out nofun⟩
            · rw [e2, HLL.out.2.2.1]; exact ownsRow_kept HS.out HG3.out (own_none _)
            · rw [e3, HLL.out.2.2.2]; exact ownsRow_kept HQ.out HG3.out (own_none _)
            · rw [e2, e3, HLL.out.2.2.1, HLL.out.2.2.2]; exact HSEP.out
          case measure => simp [RowKit.intOf]; omega
        | some so =>
          have hone : oneQ e r = [so] := by unfold oneQ; rw [HFK.out, if_pos rfl, HEW.out.1, hro]; rfl
          have hsol : so.length ≤ maxLen := by
            have h1 := applyS_len hro
            have h2 := HRR.out.2.add
            unfold maxLen; omega
          have hp : isP e r = (r0 && r2) := by unfold isP; rw [HFK.out, HEW.out.1, hro, HPC.out.1, HPC.out.2]; rfl
          have hs : isS e r = (!r0 && r2) := by unfold isS; rw [HFK.out, HEW.out.1, hro, HPC.out.1, HPC.out.2]; rfl
          clear hro
          simp only [Option.getD_some, Option.isSome_some]
          cases r0 <;> cases r2
          · simp only [Bool.and_false, Bool.not_false] at hp hs
            obtain ⟨w5, hput, hset5, hg5⟩ := (HSET.out.kept HG3.out nofun).store so hsol (by omega)
            have hS5 := ownsRow_kept (ownsRow_kept HS.out HG3.out (own_none _)) hg5 (.inr fun e => by have := (HS.out.lt _ e).1; omega)
            have hQ5 := ownsRow_kept (ownsRow_kept HQ.out HG3.out (own_none _)) hg5 (.inr fun e => by have := (HQ.out.lt _ e).1; omega)
            have hg35 : w1.grownBy w5 (some M) := grownBy_trans (grownBy_trans HG.out HG3.out nofun) hg5 (fun l hl => .inl hl)
            have HSET5 := Lib.hid hset5
            have HS5 := Lib.hid hS5
            have HQ5 := Lib.hid hQ5
            have HG35 := Lib.hid hg35
            clear hset5 hS5 hQ5 hg35 hg5
            go_wp2_with fail
            go_roundw
            case rel =>
              have e1 : (rules.take (i + 1)).flatMap (oneQ e) = (rules.take i).flatMap (oneQ e) ++ [so] := by rw [HTK.out, List.flatMap_append]; simp [hone]
              have e2 : (rules.take (i + 1)).filter (isS e) = Ls := by rw [HTK.out, List.filter_append, HLL.out.1]; simp [hs]
              have e3 : (rules.take (i + 1)).filter (isP e) = Lp := by rw [HTK.out, List.filter_append, HLL.out.2.1]; simp [hp]
              refine ⟨i + 1, c + 1, cs, cp, S, Q, by rw [HN.out]; omega, by go_num, by omega, by rw [e1, ← List.append_assoc]; exact HSET5.out, by rw [e2, HLL.out.2.2.1], by rw [e3, HLL.out.2.2.2], ?_, ?_, ?_, HG35.out⟩
              · rw [e2, HLL.out.2.2.1]; exact HS5.out
              · rw [e3, HLL.out.2.2.2]; exact HQ5.out
              · rw [e2, e3, HLL.out.2.2.1, HLL.out.2.2.2]; exact HSEP.out
            case measure => simp [RowKit.intOf]; omega
          · simp only [Bool.and_true, Bool.not_false] at hp hs
            have hga := World.grownBy_alloc w3 (.cells #[.bool false, .int .i64 r1, .bool true, .string ⟨r3.toArray⟩, .string ⟨r4.toArray⟩, .slice r5 r6 r7] 51) none
            have hsl := Sl.of_own (World.ownsRow_lit (base := 0) (size := 6) (e := 51) w3 #[.bool false, .int .i64 r1, .bool true, .string ⟨r3.toArray⟩, .string ⟨r4.toArray⟩, .slice r5 r6 r7] 1 (Nat.zero_le _) (by decide) rfl) (by intro x hx; simp at hx; rcases hx with rfl | rfl | rfl | rfl | rfl | rfl <;> rfl)
            have hown2 := ownsRow_kept HS.out (grownBy_trans HG3.out hga nofun) (own_none _)
            have HSL := Lib.hid hsl
            have HO2 := Lib.hid hown2
            have HGA := Lib.hid (grownBy_trans HG3.out hga nofun)
            clear hga hsl hown2
            go_wp2_with (at_builtin; refine wpList_append_sl _ rfl (.tmp 57) (.tmp 59) 22 rfl w1.heap.size 51 i0 _ 6 80 Tryd.underlying22 hi hz0 hz1 hz2 rfl (by decide) (.slice S ns cs) ns _ rfl HO2.out (some ⟨w3.heap.size, 0, none⟩) 1 1 [.bool false, .int .i64 r1, .bool true, .string ⟨r3.toArray⟩, .string ⟨r4.toArray⟩, .slice r5 r6 r7] rfl HSL.out (by unfold maxLen; omega) (by omega) (by simp; omega) ?_)
            rintro v' w4 ⟨hown', hg', hat⟩
            obtain ⟨q', c', rfl, _⟩ := own_form hown' (by omega)
            have hlo : ∀ l, (Value.slice S ns cs).ownBlock = some l → w1.heap.size ≤ l := fun l hl => (HS.out.lt l hl).1
            have hsetq := (HSET.out.kept HGA.out nofun).kept hg' (by intro h; have := hlo _ h.symm; omega)
            obtain ⟨w5, hput, hset5, hg5⟩ := hsetq.store so hsol (by omega)
            have hother := ownsRow_kept (ownsRow_kept HQ.out HGA.out (own_none _)) hg' (by
              rcases own_none (Value.slice Q np cp) with h | h
              · exact .inl h
              · refine .inr fun e => ?_
                obtain ⟨l, hl⟩ := Option.ne_none_iff_exists'.1 h
                rw [hl] at e
                exact HSEP.out l e.symm hl)
            have hoth5 := ownsRow_kept hother hg5 (.inr fun e => by have := (hother.lt _ e).1; omega)
            have hown5 := ownsRow_kept hown' hg5 (.inr fun e => by have := (hown'.lt _ e).1; omega)
            have hg35 : w1.grownBy w5 (some M) := grownBy_trans (grownBy_trans (grownBy_trans HG.out HGA.out nofun) hg' (fun l hl => .inr (hlo l hl))) hg5 (fun l hl => .inl hl)
            have hwsz := HGA.out.size
            have hoval : ∀ l, (Value.slice Q np cp).ownBlock = some l → l < wr.heap.size := fun l hl => (HQ.out.lt l hl).2
            have HSET5 := Lib.hid hset5
            have HOT5 := Lib.hid hoth5
            have HOW5 := Lib.hid hown5
            have HG35 := Lib.hid hg35
            have HAT := Lib.hid hat
            clear hset5 hoth5 hown5 hg35 hat hother hown' hg' hg5 hsetq
            go_wp2_with fail
            go_roundw
            case rel =>
              have e1 : (rules.take (i + 1)).flatMap (oneQ e) = (rules.take i).flatMap (oneQ e) ++ [so] := by rw [HTK.out, List.flatMap_append]; simp [hone]
              have e2 : (rules.take (i + 1)).filter (isS e) = Ls ++ [r] := by rw [HTK.out, List.filter_append, HLL.out.1]; simp [hs]
              have e3 : (rules.take (i + 1)).filter (isP e) = Lp := by rw [HTK.out, List.filter_append, HLL.out.2.1]; simp [hp]
              have l2 : (Ls ++ [r]).length = ns + 1 := by rw [List.length_append, HLL.out.2.2.1]; rfl
              have l3 : Lp.length = np := HLL.out.2.2.2
              refine ⟨i + 1, c + 1, c', cp, some ⟨q', 0, none⟩, Q, by rw [HN.out]; omega, by go_num, by omega, by rw [e1, ← List.append_assoc]; exact HSET5.out, by rw [e2, l2], by rw [e3, l3], ?_, ?_, ?_, HG35.out⟩
              · rw [e2, l2, ruCells_snoc, HROW.out]; exact HOW5.out
              · rw [e3, l3]; exact HOT5.out
              · rw [e2, l2, e3, l3]
                intro l hl hl2
                have h1 := hoval l hl2
                rcases HAT.out with h | h
                · exact HSEP.out l (h.symm.trans hl) hl2
                · have h3 := h.symm.trans hl
                  cases h3
                  omega
            case measure => simp [RowKit.intOf]; omega
          · simp only [Bool.and_false, Bool.not_true] at hp hs
            obtain ⟨w5, hput, hset5, hg5⟩ := (HSET.out.kept HG3.out nofun).store so hsol (by omega)
            have hS5 := ownsRow_kept (ownsRow_kept HS.out HG3.out (own_none _)) hg5 (.inr fun e => by have := (HS.out.lt _ e).1; omega)
            have hQ5 := ownsRow_kept (ownsRow_kept HQ.out HG3.out (own_none _)) hg5 (.inr fun e => by have := (HQ.out.lt _ e).1; omega)
            have hg35 : w1.grownBy w5 (some M) := grownBy_trans (grownBy_trans HG.out HG3.out nofun) hg5 (fun l hl => .inl hl)
            have HSET5 := Lib.hid hset5
            have HS5 := Lib.hid hS5
            have HQ5 := Lib.hid hQ5
            have HG35 := Lib.hid hg35
            clear hset5 hS5 hQ5 hg35 hg5
            go_wp2_with fail
            go_roundw
            case rel =>
              have e1 : (rules.take (i + 1)).flatMap (oneQ e) = (rules.take i).flatMap (oneQ e) ++ [so] := by rw [HTK.out, List.flatMap_append]; simp [hone]
              have e2 : (rules.take (i + 1)).filter (isS e) = Ls := by rw [HTK.out, List.filter_append, HLL.out.1]; simp [hs]
              have e3 : (rules.take (i + 1)).filter (isP e) = Lp := by rw [HTK.out, List.filter_append, HLL.out.2.1]; simp [hp]
              refine ⟨i + 1, c + 1, cs, cp, S, Q, by rw [HN.out]; omega, by go_num, by omega, by rw [e1, ← List.append_assoc]; exact HSET5.out, by rw [e2, HLL.out.2.2.1], by rw [e3, HLL.out.2.2.2], ?_, ?_, ?_, HG35.out⟩
              · rw [e2, HLL.out.2.2.1]; exact HS5.out
              · rw [e3, HLL.out.2.2.2]; exact HQ5.out
              · rw [e2, e3, HLL.out.2.2.1, HLL.out.2.2.2]; exact HSEP.out
            case measure => simp [RowKit.intOf]; omega
          · simp only [Bool.and_true, Bool.not_true] at hp hs
            have hga := World.grownBy_alloc w3 (.cells #[.bool true, .int .i64 r1, .bool true, .string ⟨r3.toArray⟩, .string ⟨r4.toArray⟩, .slice r5 r6 r7] 51) none
            have hsl := Sl.of_own (World.ownsRow_lit (base := 0) (size := 6) (e := 51) w3 #[.bool true, .int .i64 r1, .bool true, .string ⟨r3.toArray⟩, .string ⟨r4.toArray⟩, .slice r5 r6 r7] 1 (Nat.zero_le _) (by decide) rfl) (by intro x hx; simp at hx; rcases hx with rfl | rfl | rfl | rfl | rfl | rfl <;> rfl)
            have hown2 := ownsRow_kept HQ.out (grownBy_trans HG3.out hga nofun) (own_none _)
            have HSL := Lib.hid hsl
            have HO2 := Lib.hid hown2
            have HGA := Lib.hid (grownBy_trans HG3.out hga nofun)
            clear hga hsl hown2
            go_wp2_with (at_builtin; refine wpList_append_sl _ rfl (.tmp 50) (.tmp 52) 22 rfl w1.heap.size 51 i0 _ 6 80 Tryd.underlying22 hi hz0 hz1 hz2 rfl (by decide) (.slice Q np cp) np _ rfl HO2.out (some ⟨w3.heap.size, 0, none⟩) 1 1 [.bool true, .int .i64 r1, .bool true, .string ⟨r3.toArray⟩, .string ⟨r4.toArray⟩, .slice r5 r6 r7] rfl HSL.out (by unfold maxLen; omega) (by omega) (by simp; omega) ?_)
            rintro v' w4 ⟨hown', hg', hat⟩
            obtain ⟨q', c', rfl, _⟩ := own_form hown' (by omega)
            have hlo : ∀ l, (Value.slice Q np cp).ownBlock = some l → w1.heap.size ≤ l := fun l hl => (HQ.out.lt l hl).1
            have hsetq := (HSET.out.kept HGA.out nofun).kept hg' (by intro h; have := hlo _ h.symm; omega)
            obtain ⟨w5, hput, hset5, hg5⟩ := hsetq.store so hsol (by omega)
            have hother := ownsRow_kept (ownsRow_kept HS.out HGA.out (own_none _)) hg' (by
              rcases own_none (Value.slice S ns cs) with h | h
              · exact .inl h
              · refine .inr fun e => ?_
                obtain ⟨l, hl⟩ := Option.ne_none_iff_exists'.1 h
                rw [hl] at e
                exact HSEP.out l hl e.symm)
            have hoth5 := ownsRow_kept hother hg5 (.inr fun e => by have := (hother.lt _ e).1; omega)
            have hown5 := ownsRow_kept hown' hg5 (.inr fun e => by have := (hown'.lt _ e).1; omega)
            have hg35 : w1.grownBy w5 (some M) := grownBy_trans (grownBy_trans (grownBy_trans HG.out HGA.out nofun) hg' (fun l hl => .inr (hlo l hl))) hg5 (fun l hl => .inl hl)
            have hwsz := HGA.out.size
            have hoval : ∀ l, (Value.slice S ns cs).ownBlock = some l → l < wr.heap.size := fun l hl => (HS.out.lt l hl).2
            have HSET5 := Lib.hid hset5
            have HOT5 := Lib.hid hoth5
            have HOW5 := Lib.hid hown5
            have HG35 := Lib.hid hg35
            have HAT := Lib.hid hat
            clear hset5 hoth5 hown5 hg35 hat hother hown' hg' hg5 hsetq
            go_wp2_with fail
            go_roundw
            case rel =>
              have e1 : (rules.take (i + 1)).flatMap (oneQ e) = (rules.take i).flatMap (oneQ e) ++ [so] := by rw [HTK.out, List.flatMap_append]; simp [hone]
              have e2 : (rules.take (i + 1)).filter (isS e) = Ls := by rw [HTK.out, List.filter_append, HLL.out.1]; simp [hs]
              have e3 : (rules.take (i + 1)).filter (isP e) = Lp ++ [r] := by rw [HTK.out, List.filter_append, HLL.out.2.1]; simp [hp]
              have l2 : Ls.length = ns := HLL.out.2.2.1
              have l3 : (Lp ++ [r]).length = np + 1 := by rw [List.length_append, HLL.out.2.2.2]; rfl
              refine ⟨i + 1, c + 1, cs, c', S, some ⟨q', 0, none⟩, by rw [HN.out]; omega, by go_num, by omega, by rw [e1, ← List.append_assoc]; exact HSET5.out, by rw [e2, l2], by rw [e3, l3], ?_, ?_, ?_, HG35.out⟩
              · rw [e2, l2]; exact HOT5.out
              · rw [e3, l3, ruCells_snoc, HROW.out]; exact HOW5.out
              · rw [e2, l2, e3, l3]
                intro l hl hl2
                have h1 := hoval l hl
                rcases HAT.out with h | h
                · exact HSEP.out l hl (h.symm.trans hl2)
                · have h3 := h.symm.trans hl2
                  cases h3
                  omega
            case measure => simp [RowKit.intOf]; omega
    · obtain rfl : i = n := by omega
      have htl : rules.take i = rules := by rw [← HN.out, List.take_length]
      have hset := HSET.out
      rw [htl] at hset
      have hll := HLL.out
      rw [htl] at hll
      obtain ⟨acc, hacc⟩ : ∃ acc, ks ++ [e.word] ++ rules.flatMap (oneQ e) = acc := ⟨_, rfl⟩
      rw [hacc] at hset
      have HACC := Lib.hid hacc
      have HSET := Lib.hid hset
      have HLL := Lib.hid hll
      clear hset hll hacc htl
      go_wp2_with fail
      go_loopw [66] (fun jv wx => ∃ j c, j ≤ np ∧ jv = .int .i64 (j : Int) ∧ c ≤ nm + 1 + i + j * ns ∧ SetIs wx M c (acc ++ (Lp.take j).flatMap (fun p => Ls.flatMap (pairQ e p))) ∧ wr.grownBy wx (some M)) (fun jv _ => np - (RowKit.intOf jv).toNat)
      case atStart => exact ⟨0, c, Nat.zero_le _, rfl, by omega, by simpa using HSET.out, grownBy_refl _ _⟩
      case round =>
        obtain ⟨j, c2, hj, rfl, hc2, hset, hg⟩ := hrel
        have hg0 : w0.grownBy wr none := grownBy_trans HG0.out hg (fun l hl => .inr (by cases hl; omega))
        have HSET2 := Lib.hid hset
        have HGJ := Lib.hid hg
        have HGJ0 := Lib.hid hg0
        have hob := grownBy_heap hg HO.out (by intro h; cases h; omega)
        have HOJ := Lib.hid hob
        have hwrj := hg.size
        clear hset hg0 hob
        rcases Nat.lt_or_ge j np with hjn | hjn
        · have hjni : (j : Int) < (np : Int) := by omega
          obtain ⟨p, hp⟩ : ∃ p, Lp[j]? = some p := ⟨_, List.getElem?_eq_getElem (by rw [HLL.out.2.2.2]; exact hjn)⟩
          have hpin : p ∈ rules := by have := List.mem_of_getElem? hp; rw [← HLL.out.2.1] at this; exact (List.mem_filter.1 this).1
          have hqj := ownsRow_kept HQ.out hg (.inr fun e => by have := (HQ.out.lt _ e).1; omega)
          rw [← HLL.out.2.2.2] at hqj
          have hpq := rus_own hqj (fun r hr => by rw [← HLL.out.2.1] at hr; exact (HR.out.kept HGJ0.out).2 r (List.mem_filter.1 hr).1)
          obtain ⟨q, o, rfl, c0, c1, c2', c3, c4, c5⟩ := ru_cell hpq hp
          have hpu := (HR.out.kept HGJ0.out).2 p hpin
          have htk : Lp.take (j + 1) = Lp.take j ++ [p] := by rw [List.take_add_one, hp]; rfl
          have hboth := fun x => both_walk p x word
          unfold Ru.val at hboth
          obtain ⟨p0, hp0⟩ : ∃ p0, p.pre = p0 := ⟨_, rfl⟩
          obtain ⟨p1, hp1⟩ : ∃ p1, p.flag = p1 := ⟨_, rfl⟩
          obtain ⟨p2, hp2⟩ : ∃ p2, p.cross = p2 := ⟨_, rfl⟩
          obtain ⟨p3, hp3⟩ : ∃ p3, p.strip = p3 := ⟨_, rfl⟩
          obtain ⟨p4, hp4⟩ : ∃ p4, p.add = p4 := ⟨_, rfl⟩
          obtain ⟨p5, hp5⟩ : ∃ p5, p.C = p5 := ⟨_, rfl⟩
          obtain ⟨p6, hp6⟩ : ∃ p6, p.cond.length = p6 := ⟨_, rfl⟩
          obtain ⟨p7, hp7⟩ : ∃ p7, p.cap = p7 := ⟨_, rfl⟩
          rw [hp0] at c0; rw [hp1] at c1; rw [hp2] at c2'; rw [hp3] at c3; rw [hp4] at c4; rw [hp5, hp6, hp7] at c5
          simp only [hp0, hp1, hp2, hp3, hp4, hp5, hp6, hp7] at hboth
          have hal := World.grownBy_alloc wr (.cells #[.bool p0, .int .i64 p1, .bool p2, .string ⟨p3.toArray⟩, .string ⟨p4.toArray⟩, .slice p5 p6 p7] 51) none
          have hbl := heap_alloc_new wr (.cells #[.bool p0, .int .i64 p1, .bool p2, .string ⟨p3.toArray⟩, .string ⟨p4.toArray⟩, .slice p5 p6 p7] 51 (0, 0))
          have HBOTH := Lib.hid hboth
          have HTK := Lib.hid htk
          have HPU := Lib.hid hpu
          have HAL := Lib.hid hal
          have HBL := Lib.hid hbl
          clear hqj hpq hp hpin hboth htk hpu hal hbl hg hp0 hp1 hp2 hp3 hp4 hp5 hp6 hp7
          go_wp2_with fail
          go_loopw [72] (fun kv wx => ∃ k c3, k ≤ ns ∧ kv = .int .i64 (k : Int) ∧ c3 ≤ nm + 1 + i + j * ns + k ∧ SetIs wx M c3 (acc ++ (Lp.take j).flatMap (fun p => Ls.flatMap (pairQ e p)) ++ (Ls.take k).flatMap (pairQ e p)) ∧
            (wr.alloc (.cells #[.bool p0, .int .i64 p1, .bool p2, .string ⟨p3.toArray⟩, .string ⟨p4.toArray⟩, .slice p5 p6 p7] 51)).grownBy wx (some M)) (fun kv _ => ns - (RowKit.intOf kv).toNat)
          case atStart => exact ⟨0, c2, Nat.zero_le _, rfl, by omega, by simpa using HSET2.out.kept HAL.out nofun, grownBy_refl _ _⟩
          case round =>
            obtain ⟨k, ck, hk, rfl, hck, hset, hg⟩ := hrel
            have hjs : j * ns ≤ 900 * 900 := Nat.mul_le_mul (by omega) (by omega)
            have HSETK := Lib.hid hset
            have HGK := Lib.hid hg
            have hgA := grownBy_trans (grown_row HAL.out (some M)) hg (fun l hl => .inl hl)
            have hgB := grownBy_trans HGJ.out hgA (fun l hl => .inl hl)
            have hg0 : w0.grownBy wr none := grownBy_trans HGJ0.out hgA (fun l hl => .inr (by cases hl; omega))
            have hpb := grownBy_heap hg HBL.out (by intro h; cases h; omega)
            have hob := grownBy_heap hgA HOJ.out (by intro h; cases h; omega)
            have hszk := hg.size
            rw [World.size_alloc] at hszk
            have HGA := Lib.hid hgA
            have HK0 := Lib.hid hg0
            clear hset hg hgA hg0
            rcases Nat.lt_or_ge k ns with hkn | hkn
            · have hkni : (k : Int) < (ns : Int) := by omega
              obtain ⟨x, hx⟩ : ∃ x, Ls[k]? = some x := ⟨_, List.getElem?_eq_getElem (by rw [HLL.out.2.2.1]; exact hkn)⟩
              have hxin : x ∈ rules := by have := List.mem_of_getElem? hx; rw [← HLL.out.1] at this; exact (List.mem_filter.1 this).1
              have hsk := ownsRow_kept HS.out hgB (.inr fun e => by have := (HS.out.lt _ e).1; omega)
              rw [← HLL.out.2.2.1] at hsk
              have hxq := rus_own hsk (fun r hr => by rw [← HLL.out.1] at hr; exact (HR.out.kept HK0.out).2 r (List.mem_filter.1 hr).1)
              obtain ⟨q2, o2, rfl, g0, g1, g2, g3, g4, g5⟩ := ru_cell hxq hx
              have hxu := (HR.out.kept HK0.out).2 x hxin
              have htk : Ls.take (k + 1) = Ls.take k ++ [x] := by rw [List.take_add_one, hx]; rfl
              have hboth := HBOTH.out x
              obtain ⟨rp, hrp⟩ : ∃ rp, bothS p x word = rp := ⟨_, rfl⟩
              rw [hrp] at hboth
              have hlen : ∀ s, rp = some s → s.length ≤ maxLen := fun s hs => by
                have h1 := bothS_len (hrp.trans hs)
                have h2 := HPU.out.2.add
                have h3 := hxu.2.add
                unfold maxLen; omega
              have hpq : pairQ e p x = rp.toList := by unfold pairQ; rw [HEW.out.1, hrp]
              obtain ⟨x0, hx0⟩ : ∃ x0, x.pre = x0 := ⟨_, rfl⟩
              obtain ⟨x1, hx1⟩ : ∃ x1, x.flag = x1 := ⟨_, rfl⟩
              obtain ⟨x2, hx2⟩ : ∃ x2, x.cross = x2 := ⟨_, rfl⟩
              obtain ⟨x3, hx3⟩ : ∃ x3, x.strip = x3 := ⟨_, rfl⟩
              obtain ⟨x4, hx4⟩ : ∃ x4, x.add = x4 := ⟨_, rfl⟩
              obtain ⟨x5, hx5⟩ : ∃ x5, x.C = x5 := ⟨_, rfl⟩
              obtain ⟨x6, hx6⟩ : ∃ x6, x.cond.length = x6 := ⟨_, rfl⟩
              obtain ⟨x7, hx7⟩ : ∃ x7, x.cap = x7 := ⟨_, rfl⟩
              rw [hx0] at g0; rw [hx1] at g1; rw [hx2] at g2; rw [hx3] at g3; rw [hx4] at g4; rw [hx5, hx6, hx7] at g5
              simp only [hx0, hx1, hx2, hx3, hx4, hx5, hx6, hx7] at hboth
              have hal := World.grownBy_alloc wr (.cells #[.bool x0, .int .i64 x1, .bool x2, .string ⟨x3.toArray⟩, .string ⟨x4.toArray⟩, .slice x5 x6 x7] 51) none
              have hbl := heap_alloc_new wr (.cells #[.bool x0, .int .i64 x1, .bool x2, .string ⟨x3.toArray⟩, .string ⟨x4.toArray⟩, .slice x5 x6 x7] 51 (0, 0))
              have hpb2 := grownBy_heap hal hpb nofun
              have hob2 := grownBy_heap hal hob nofun
              have d0 := cell_of_heap hpb2 0
              have d1 := cell_of_heap hpb2 1
              have d2 := cell_of_heap hpb2 2
              have d3 := cell_of_heap hpb2 3
              have d4 := cell_of_heap hpb2 4
              have d5 := cell_of_heap hpb2 5
              have k0 := cell_of_heap hbl 0
              have k1 := cell_of_heap hbl 1
              have k2 := cell_of_heap hbl 2
              have k3 := cell_of_heap hbl 3
              have k4 := cell_of_heap hbl 4
              have k5 := cell_of_heap hbl 5
              have f0 := cell_of_heap hob2 0
              have hpp := (HPU.out.kept (grownBy_trans HAL.out (grownBy_refl _ none) nofun))
              have HCALL := Lib.hid (hboth _ hwl ((HR.out.kept (grownBy_trans HK0.out hal nofun)).2 p (by
                have h9 : p ∈ Lp := by
                  have := congrArg (fun l => p ∈ l) HTK.out
                  simp only [List.mem_append, List.mem_singleton, or_true, eq_iff_iff, iff_true] at this
                  exact List.mem_of_mem_take this
                rw [← HLL.out.2.1] at h9; exact (List.mem_filter.1 h9).1)) (hxu.kept hal) (tabs_kept HT.out (grownBy_trans HK0.out hal nofun)))
              have HTKX := Lib.hid htk
              have HLEN := Lib.hid hlen
              have HPQ := Lib.hid hpq
              have HALX := Lib.hid hal
              clear hsk hxq hx hxin hboth htk hxu hal hbl hpb hob hpb2 hob2 hgB hrp hlen hpq hpp hx0 hx1 hx2 hx3 hx4 hx5 hx6 hx7
              go_wp2_with fail
              refine HCALL.out.mono ?_
              intro y w5 hres
              obtain ⟨rfl, hg5⟩ := hres.val
              have HG5 := Lib.hid (grownBy_trans HALX.out hg5 nofun)
              unfold optV
              clear hres hg5 g0 g1 g2 g3 g4 g5 d0 d1 d2 d3 d4 d5 k0 k1 k2 k3 k4 k5 f0
              cases rp with
              | none =>
                simp only [Option.getD_none, Option.isSome_none]
                go_wp2_with fail
                go_roundw
                case rel =>
                  refine ⟨k + 1, ck, by omega, by go_num, by omega, ?_, grownBy_trans HGK.out HG5.out nofun⟩
                  rw [HTKX.out, List.flatMap_append]
                  simpa [HPQ.out] using HSETK.out.kept HG5.out nofun
                case measure => simp [RowKit.intOf]; omega
              | some so =>
                simp only [Option.getD_some, Option.isSome_some]
                obtain ⟨w6, hput, hset6, hg6⟩ := (HSETK.out.kept HG5.out nofun).store so (HLEN.out so rfl) (by omega)
                have HSET6 := Lib.hid hset6
                have HG6 := Lib.hid (grownBy_trans (grownBy_trans HGK.out HG5.out nofun) hg6 (fun l hl => .inl hl))
                clear hset6 hg6
                go_wp2_with fail
                go_roundw
                case rel =>
                  refine ⟨k + 1, ck + 1, by omega, by go_num, by omega, ?_, HG6.out⟩
                  rw [HTKX.out, List.flatMap_append, ← List.append_assoc]
                  simpa [HPQ.out] using HSET6.out
                case measure => simp [RowKit.intOf]; omega
            · obtain rfl : k = ns := by omega
              have hl : Ls.take k = Ls := by rw [← HLL.out.2.2.1, List.take_length]
              have hset := HSETK.out
              rw [hl] at hset
              have HSETL := Lib.hid hset
              clear hset hpb hob hgB hl
              go_wp2_with fail
              go_roundw
              case rel =>
                refine ⟨j + 1, ck, by omega, by go_num, by rw [Nat.succ_mul]; omega, ?_, grownBy_trans HGJ.out HGA.out (fun l hl => .inl hl)⟩
                rw [HTK.out, List.flatMap_append, ← List.append_assoc]
                simpa using HSETL.out
              case measure => simp [RowKit.intOf]; omega
        · obtain rfl : j = np := by omega
          have hl : Lp.take j = Lp := by rw [← HLL.out.2.2.2, List.take_length]
          have hset := HSET2.out
          rw [hl] at hset
          have hjs : j * ns ≤ 900 * 900 := Nat.mul_le_mul (by omega) (by omega)
          have HSETL := Lib.hid hset
          clear hset hg hl
          go_wp2_with fail
          go_end0
          refine ⟨rfl, ⟨c2, by omega, ?_⟩, grownBy_trans HG1.out (grownBy_trans HG.out HGJ.out (fun l hl => .inl hl)) (fun l hl => .inl hl)⟩
          have := HSETL.out
          rw [← HACC.out, ← HLL.out.1, ← HLL.out.2.1] at this
          unfold formsQ
          simpa [List.append_assoc] using this
end Go.Proofs.YtlbbjcggjmaehaaDoor
