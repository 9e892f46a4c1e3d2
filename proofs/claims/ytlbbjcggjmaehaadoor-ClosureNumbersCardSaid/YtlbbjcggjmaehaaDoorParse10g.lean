/-
  ref10.Parse: the walk, by shape. Conditions: a text of at most 100000 bytes.
-/
import Derived.Test.YtlbbjcggjmaehaaDoorParse9g
import Derived.Test.YtlbbjcggjmaehaaDoorParse10
namespace Go.Proofs.YtlbbjcggjmaehaaDoor
open Go Go.RowKit Go.Maps

theorem wordsF_small : ∀ (t cur : Wd), ∀ x ∈ wordsF t cur, x.length ≤ cur.length + t.length
  | [], cur, x, h => by simp [wordsF] at h; subst h; simp
  | b :: t, cur, x, h => by
    unfold wordsF at h
    split at h
    · rcases List.mem_cons.1 h with rfl | h
      · simp
      · have := wordsF_small t [] x h; simp only [List.length_nil, List.length_cons] at this ⊢; omega
    · have := wordsF_small t (cur ++ [b]) x h; simp only [List.length_append, List.length_cons, List.length_nil] at this ⊢; omega

theorem partV_len (s : Wd) : (partV s).length ≤ s.length := by unfold partV; split <;> simp

/-- A rule whose condition lies in new memory. -/
def RuNew (w' : World) (b0 : Nat) (r : Ru) : Prop := RuAt w' r ∧ ∀ b, b < b0 → Off r.C r.cond.length b ∧ ∀ x ∈ r.cond, Off x.S x.set.length b

/-- A rule's flag and side, out of its text. -/
def ruleF (s : Wd) : Option (Int × Bool) :=
  match wordsF s [] with
  | [a0, a1, a2, a3, a4, a5] => if (((a0 == [80, 70, 88] || a0 == [83, 70, 88]) && !(flagF a1 == 0) && (a2 == [89] || a2 == [78])) && (partB a3 && partB a4 && good9 a5)) = true then some (flagF a1, a0 == [80, 70, 88]) else none
  | _ => none

theorem ruleF_none {s : Wd} {W : List Wd} (hw : wordsF s [] = W) (h : W.length ≠ 6) : ruleF s = none := by
  unfold ruleF
  rw [hw]
  split
  · exact absurd rfl h
  · rfl

/-- What a condition's cut leaves. -/
def RuleCut (b : Bool) (w1 : World) (v : Value) (wx : World) : Prop := v = .bool b ∧ wx = w1

/-- What ref10.Parse answers. -/
def P10Res (s : Wd) (w : World) (e : Ending) (w' : World) : Prop :=
  w.grownBy w' none ∧ ∃ (r : Ru) (ok : Bool), e = .returned (.tuple #[r.val, .bool ok]) ∧ (ok = true → RuNew w' w.heap.size r) ∧ (∀ f p, ruleF s = some (f, p) → ok = true ∧ r.flag = f ∧ r.pre = p)

theorem six_words {α : Type} {l : List α} (h : l.length = 6) : ∃ a b c d e f, l = [a, b, c, d, e, f] := by
  match l, h with
  | [a, b, c, d, e, f], _ => exact ⟨a, b, c, d, e, f, rfl⟩

set_option maxRecDepth 100000 in
set_option maxHeartbeats 4000000 in
theorem parse10_walk (s : Wd) (w : World) (hl : s.length ≤ 100000) : Calls Tryd.prog 21 #[.string ⟨s.toArray⟩] w (P10Res s w) := by
  have hal := World.grownBy_alloc w (.cells #[.bool false, .int .i64 0, .bool false, .string ⟨#[]⟩, .string ⟨#[]⟩, .slice none 0 0] 51) none
  have hbl := heap_alloc_new w (.cells #[.bool false, .int .i64 0, .bool false, .string ⟨#[]⟩, .string ⟨#[]⟩, .slice none 0 0] 51 (0, 0))
  have HAL := Lib.hid hal
  have HBL := Lib.hid hbl
  clear hal hbl
  go_enter Tryd.func21, Tryd.ntmps21
  go_wp2_with fail
  refine (words_walk s _ hl).mono ?_
  rintro e w1 ⟨A, c, rfl, hown, hg1⟩
  have hsm := wordsF_small s []
  obtain ⟨W, hW⟩ : ∃ W, wordsF s [] = W := ⟨_, rfl⟩
  rw [hW] at hown hsm ⊢
  have HWS := Lib.hid hW
  clear hW
  obtain ⟨n, hn⟩ : ∃ n, W.length = n := ⟨_, rfl⟩
  rw [hn] at hown ⊢
  have HN := Lib.hid hn
  have HB1 := Lib.hid (grownBy_heap hg1 HBL.out nofun)
  have HG1 := Lib.hid (grownBy_trans HAL.out hg1 nofun)
  clear hn hg1
  by_cases h6 : n = 6
  · subst h6
    obtain ⟨a0, a1, a2, a3, a4, a5, hWe⟩ := six_words HN.out
    subst hWe
    have hsl := Sl.of_own hown (strCells_one' _)
    obtain ⟨q, o, rfl, hc⟩ := hsl.2.2 (by decide)
    have hs3 := hsm a3 (by simp)
    have hs4 := hsm a4 (by simp)
    have hs5 := hsm a5 (by simp)
    simp only [List.length_nil, Nat.zero_add] at hs3 hs4 hs5
    have c0 := hc 0 _ rfl
    have c1 := hc 1 _ rfl
    have c2 := hc 2 _ rfl
    have c3 := hc 3 _ rfl
    have c4 := hc 4 _ rfl
    have c5 := hc 5 _ rfl
    simp only [Nat.add_zero] at c0
    dsimp only at c1 c2 c3 c4 c5
    have hqne : q ≠ w.heap.size := by have h9 := (hown.lt q rfl).1; rw [World.size_alloc] at h9; omega
    clear hown hsl hc hsm HN
    obtain ⟨S0, hS0⟩ : ∃ S : ByteArray, (⟨a0.toArray⟩ : ByteArray) = S := ⟨_, rfl⟩
    obtain ⟨S2, hS2⟩ : ∃ S : ByteArray, (⟨a2.toArray⟩ : ByteArray) = S := ⟨_, rfl⟩
    rw [hS0] at c0
    rw [hS2] at c2
    have ht0 : S0.toList = a0 := by rw [← hS0, ByteArray.toList_eq]
    have ht2 : S2.toList = a2 := by rw [← hS2, ByteArray.toList_eq]
    clear hS0 hS2
    obtain ⟨p0, hp0⟩ : ∃ p : Bool, (S0.toList == [80, 70, 88]) = p := ⟨_, rfl⟩
    obtain ⟨p1, hp1⟩ : ∃ p : Bool, (S0.toList == [83, 70, 88]) = p := ⟨_, rfl⟩
    obtain ⟨y0, hy0⟩ : ∃ p : Bool, (S2.toList == [89]) = p := ⟨_, rfl⟩
    obtain ⟨y1, hy1⟩ : ∃ p : Bool, (S2.toList == [78]) = p := ⟨_, rfl⟩
    have hfl := fun u => flag_walk a1 u
    obtain ⟨fl, hfle⟩ : ∃ fl, flagF a1 = fl := ⟨_, rfl⟩
    simp only [hfle] at hfl
    have HFL := Lib.hid hfl
    obtain ⟨X, hX⟩ : ∃ X, ((p0 || p1) && !(fl == 0) && (y0 || y1)) = X := ⟨_, rfl⟩
    have hrf : ruleF s = if (X && (partB a3 && partB a4 && good9 a5)) = true then some (fl, p0) else none := by
      have q0 : (a0 == [80, 70, 88]) = p0 := by rw [← ht0]; exact hp0
      have q1 : (a0 == [83, 70, 88]) = p1 := by rw [← ht0]; exact hp1
      have q2 : (a2 == [89]) = y0 := by rw [← ht2]; exact hy0
      have q3 : (a2 == [78]) = y1 := by rw [← ht2]; exact hy1
      unfold ruleF
      rw [HWS.out]
      simp only [q0, q1, q2, q3, hfle, hX]
    have HRF := Lib.hid hrf
    have HX := Lib.hid hX
    clear hfl hfle hrf hX ht0 ht2
    have C0 := Lib.hid c0
    have C1 := Lib.hid c1
    have C2 := Lib.hid c2
    have C3 := Lib.hid c3
    have C4 := Lib.hid c4
    have C5 := Lib.hid c5
    clear c0 c1 c2 c3 c4 c5
    go_upto_region 2 with (fail)
    go_cut [46] (fun v wx => RuleCut (!X) w1 v wx)
    case first =>
      have c0 := C0.out
      have c1 := C1.out
      have c2 := C2.out
      have hz : (fl = 0 ∧ (fl == 0) = true) ∨ (fl ≠ 0 ∧ (fl == 0) = false) := by
        by_cases h : fl = 0
        · exact .inl ⟨h, by simp [h]⟩
        · exact .inr ⟨h, by simpa using h⟩
      cases p0 <;> cases p1
      case false.false =>
        go_wp2_with fail
        go_meet
        exact ⟨by rw [← HX.out]; simp, rfl⟩
      all_goals
        rcases hz with ⟨hz1, hz2⟩ | ⟨hz1, hz2⟩
        · subst hz1
          go_wp2_with (go_at_call 34; refine (HFL.out _).mono ?_; rintro e w2 ⟨rfl, rfl⟩)
          go_meet
          exact ⟨by rw [← HX.out]; simp, rfl⟩
        · cases y0 <;> cases y1
          all_goals
            go_wp2_with (go_at_call 34; refine (HFL.out _).mono ?_; rintro e w2 ⟨rfl, rfl⟩)
            go_meet
            exact ⟨by rw [← HX.out]; simp [hz2], rfl⟩
    case rest =>
      obtain ⟨rfl, rfl⟩ := hcut
      cases X with
      | false =>
        have HNF := Lib.hid (show ruleF s = none by rw [HRF.out]; rfl)
        have gz0 := frozen_of_heap HB1.out 0
        have fz0 := cell_of_heap HB1.out 0
        have gz1 := frozen_of_heap HB1.out 1
        have fz1 := cell_of_heap HB1.out 1
        have gz2 := frozen_of_heap HB1.out 2
        have fz2 := cell_of_heap HB1.out 2
        have gz3 := frozen_of_heap HB1.out 3
        have fz3 := cell_of_heap HB1.out 3
        have gz4 := frozen_of_heap HB1.out 4
        have fz4 := cell_of_heap HB1.out 4
        have gz5 := frozen_of_heap HB1.out 5
        have fz5 := cell_of_heap HB1.out 5
        go_wp2_with fail
        have hset := set_rule HB1.out (.bool false) (.int .i64 0) (.bool false) (.string ⟨#[]⟩) (.string ⟨#[]⟩) (.slice none 0 0)
        have hgr := grown_set6 HG1.out w.heap.size (.inr (Nat.le_refl _)) (.bool false) (.int .i64 0) (.bool false) (.string ⟨#[]⟩) (.string ⟨#[]⟩) (.slice none 0 0)
        obtain ⟨wz, hwz⟩ : ∃ wz, ((((((wc.setCell ⟨w.heap.size, 0, none⟩ (.bool false)).setCell ⟨w.heap.size, 1, none⟩ (.int .i64 0)).setCell ⟨w.heap.size, 2, none⟩ (.bool false)).setCell ⟨w.heap.size, 3, none⟩ (.string ⟨#[]⟩)).setCell ⟨w.heap.size, 4, none⟩ (.string ⟨#[]⟩)).setCell ⟨w.heap.size, 5, none⟩ (.slice none 0 0)) = wz := ⟨_, rfl⟩
        rw [hwz] at hset hgr
        try rw [hwz]
        refine bodyPost_ret (results_cell_tmp rfl rfl (load_rule hset) rfl) rfl ?_
        exact ⟨hgr, ⟨false, 0, false, [], [], none, 0, []⟩, false, rfl, nofun, fun f p h => by rw [HNF.out] at h; cases h⟩
      | true =>
        obtain ⟨v3, hv3⟩ : ∃ v, partV a3 = v := ⟨_, rfl⟩
        obtain ⟨b3, hb3⟩ : ∃ v, partB a3 = v := ⟨_, rfl⟩
        obtain ⟨v4, hv4⟩ : ∃ v, partV a4 = v := ⟨_, rfl⟩
        obtain ⟨b4, hb4⟩ : ∃ v, partB a4 = v := ⟨_, rfl⟩
        have hl3 : v3.length ≤ 100000 := by have := partV_len a3; rw [hv3] at this; omega
        have hl4 : v4.length ≤ 100000 := by have := partV_len a4; rw [hv4] at this; omega
        have hq3 := fun u => part_walk a3 u (by omega)
        have hq4 := fun u => part_walk a4 u (by omega)
        have hq5 := fun u => parse9_walk a5 100000 u (by omega) (Nat.le_refl _)
        simp only [hv3, hb3] at hq3
        simp only [hv4, hb4] at hq4
        have HQ3 := Lib.hid hq3
        have HQ4 := Lib.hid hq4
        have HQ5 := Lib.hid hq5
        have HRF2 := Lib.hid (show ruleF s = if (b3 && b4 && good9 a5) = true then some (fl, p0) else none by rw [HRF.out, hb3, hb4, Bool.true_and])
        clear hq3 hq4 hq5 hv3 hb3 hv4 hb4
        have c3 := C3.out
        go_wp2_with fail
        refine (HQ3.out _).mono ?_
        rintro e w3 ⟨rfl, hg3⟩
        have c4 := hg3.cell C4.out nofun
        have HG3 := Lib.hid hg3
        clear c3 hg3
        go_wp2_with fail
        refine (HQ4.out _).mono ?_
        rintro e w4 ⟨rfl, hg4⟩
        have c5 := (grownBy_trans HG3.out hg4 nofun).cell C5.out nofun
        have HG4 := Lib.hid (grownBy_trans HG3.out hg4 nofun)
        clear c4 hg4
        go_wp2_with fail
        refine (HQ5.out _).mono ?_
        rintro e w5 ⟨hg5, hr5⟩
        have HG5 := Lib.hid (grownBy_trans HG4.out hg5 nofun)
        have HB5 := Lib.hid (grownBy_heap (grownBy_trans HG4.out hg5 nofun) HB1.out nofun)
        have HGW := Lib.hid (grownBy_trans HG1.out (grownBy_trans HG4.out hg5 nofun) nofun)
        have hw5 : w.heap.size < w4.heap.size := by have h1 := heap_lt HB1.out; have h2 := HG4.out.size; omega
        clear c5 hg5
        rcases hr5 with ⟨C, m, k, l, rfl, hlm, hmL, hcond, hoff, hset5⟩ | ⟨rfl, hg9⟩
        · have HOF := Lib.hid hoff
          have HCD := Lib.hid hcond
          have HST5 := Lib.hid hset5
          have HLM := Lib.hid hlm
          clear hoff hcond hset5 hlm
          by_cases hbb : b3 = true ∧ b4 = true
          · obtain ⟨rfl, rfl⟩ := hbb
            go_upto_region 9 with (fail)
            have hset := set_rule HB5.out (.bool p0) (.int .i64 fl) (.bool y0) (.string ⟨v3.toArray⟩) (.string ⟨v4.toArray⟩) (.slice C m k)
            have hgr := grown_set6 HGW.out w.heap.size (.inr (Nat.le_refl _)) (.bool p0) (.int .i64 fl) (.bool y0) (.string ⟨v3.toArray⟩) (.string ⟨v4.toArray⟩) (.slice C m k)
            have ho := fun b (hb : b < w4.heap.size) => HOF.out b hb
            have hg56 := grown_set6 (grownBy_refl w5 (some w.heap.size)) w.heap.size (.inl rfl) (.bool p0) (.int .i64 fl) (.bool y0) (.string ⟨v3.toArray⟩) (.string ⟨v4.toArray⟩) (.slice C m k)
            have HC6 := Lib.hid (show CondAt _ C l from ⟨HCD.out.1.kept hg56 (fun l' hl' => by cases hl'; rw [HLM.out]; exact (ho _ hw5).1), fun x hx => (HCD.out.2 x hx).kept hg56 (fun l' hl' => by cases hl'; exact (ho _ hw5).2 x hx)⟩)
            have HSET := Lib.hid hset
            have HGR := Lib.hid hgr
            have HG56 := Lib.hid hg56
            clear hset hgr ho hg56
            have g0 := frozen_of_heap HB5.out 0
            have f0 := cell_of_heap HB5.out 0
            have g1 := frozen_of_heap HB5.out 1
            have f1 := cell_of_heap HB5.out 1
            have g2 := frozen_of_heap HB5.out 2
            have f2 := cell_of_heap HB5.out 2
            have g3 := frozen_of_heap HB5.out 3
            have f3 := cell_of_heap HB5.out 3
            have g4 := frozen_of_heap HB5.out 4
            have f4 := cell_of_heap HB5.out 4
            have g5 := frozen_of_heap HB5.out 5
            have f5 := cell_of_heap HB5.out 5
            have HD := Lib.hid (And.intro (HG5.out.cell C0.out nofun) (And.intro (HG5.out.cell C1.out nofun) (HG5.out.cell C2.out nofun)))
            go_wp2_with fail
            refine region_tail 16 (fun u => u.cell? ⟨q, o, none⟩ = some (.string S0) ∧ u.cell? ⟨q, o + 1, none⟩ = some (.string ⟨a1.toArray⟩) ∧ u.cell? ⟨q, o + 2, none⟩ = some (.string S2)) (by kernel_rfl) HD.out (fun hHeld => ?_)
            refine tail_take 0 (v := ?_) rfl (by kernel_rfl) (by kernel_rfl) (by kernel_rfl) (by kernel_rfl) (fun _ _ _ h => h) (by rfl) (fun u hu => ?_) (by assumption) ?_
            rotate_left
            focus ((try dsimp only at hu); obtain ⟨u0, u1, u2⟩ := hu; go_simp; (try with_reducible rfl); done)
            try simp only [Act.put]
            refine tail_take 1 (v := ?_) rfl (by kernel_rfl) (by kernel_rfl) (by kernel_rfl) (by kernel_rfl) (fun _ _ _ h => h) (by rfl) (fun u hu => ?_) (by assumption) ?_
            rotate_left
            focus ((try dsimp only at hu); obtain ⟨u0, u1, u2⟩ := hu; go_simp; (try with_reducible rfl); done)
            try simp only [Act.put]
            refine tail_take 2 (v := ?_) rfl (by kernel_rfl) (by kernel_rfl) (by kernel_rfl) (by kernel_rfl) (fun _ _ _ h => h) (by rfl) (fun u hu => ?_) (by assumption) ?_
            rotate_left
            focus ((try dsimp only at hu); obtain ⟨u0, u1, u2⟩ := hu; go_simp; (try with_reducible rfl); done)
            try simp only [Act.put]
            refine tail_take 3 (v := ?_) rfl (by kernel_rfl) (by kernel_rfl) (by kernel_rfl) (by kernel_rfl) (fun _ _ _ h => h) (by rfl) (fun u hu => ?_) (by assumption) ?_
            rotate_left
            focus ((try dsimp only at hu); obtain ⟨u0, u1, u2⟩ := hu; go_simp; (try with_reducible rfl); done)
            try simp only [Act.put]
            refine tail_take 4 (v := ?_) rfl (by kernel_rfl) (by kernel_rfl) (by kernel_rfl) (by kernel_rfl) (fun _ _ _ h => h) (by rfl) (fun u hu => ?_) (by assumption) ?_
            rotate_left
            focus ((try dsimp only at hu); obtain ⟨u0, u1, u2⟩ := hu; go_simp; (try with_reducible rfl); done)
            try simp only [Act.put]
            refine tail_take 5 (v := ?_) rfl (by kernel_rfl) (by kernel_rfl) (by kernel_rfl) (by kernel_rfl) (fun _ _ _ h => h) (by rfl) (fun u hu => ?_) (by assumption) ?_
            rotate_left
            focus ((try dsimp only at hu); obtain ⟨u0, u1, u2⟩ := hu; go_simp; (try with_reducible rfl); done)
            try simp only [Act.put]
            refine tail_take 6 (v := ?_) rfl (by kernel_rfl) (by kernel_rfl) (by kernel_rfl) (by kernel_rfl) (fun _ _ _ h => h) (by rfl) (fun u hu => ?_) (by assumption) ?_
            rotate_left
            focus ((try dsimp only at hu); obtain ⟨u0, u1, u2⟩ := hu; go_simp; (try with_reducible rfl); done)
            try simp only [Act.put]
            refine tail_take 8 (v := ?_) rfl (by kernel_rfl) (by kernel_rfl) (by kernel_rfl) (by kernel_rfl) (fun _ _ _ h => h) (by rfl) (fun u hu => ?_) (by assumption) ?_
            rotate_left
            focus ((try dsimp only at hu); obtain ⟨u0, u1, u2⟩ := hu; go_simp; (try with_reducible rfl); done)
            try simp only [Act.put]
            refine tail_take 9 (v := ?_) rfl (by kernel_rfl) (by kernel_rfl) (by kernel_rfl) (by kernel_rfl) (fun _ _ _ h => h) (by rfl) (fun u hu => ?_) (by assumption) ?_
            rotate_left
            focus ((try dsimp only at hu); obtain ⟨u0, u1, u2⟩ := hu; go_simp; (try with_reducible rfl); done)
            try simp only [Act.put]
            refine tail_take 10 (v := ?_) rfl (by kernel_rfl) (by kernel_rfl) (by kernel_rfl) (by kernel_rfl) (fun _ _ _ h => h) (by rfl) (fun u hu => ?_) (by assumption) ?_
            rotate_left
            focus ((try dsimp only at hu); obtain ⟨u0, u1, u2⟩ := hu; go_simp; (try with_reducible rfl); done)
            try simp only [Act.put]
            refine tail_take 11 (v := ?_) rfl (by kernel_rfl) (by kernel_rfl) (by kernel_rfl) (by kernel_rfl) (fun _ _ _ h => h) (by rfl) (fun u hu => ?_) (by assumption) ?_
            rotate_left
            focus ((try dsimp only at hu); obtain ⟨u0, u1, u2⟩ := hu; go_simp; (try with_reducible rfl); done)
            try simp only [Act.put]
            refine tail_take 12 (v := ?_) rfl (by kernel_rfl) (by kernel_rfl) (by kernel_rfl) (by kernel_rfl) (fun _ _ _ h => h) (by rfl) (fun u hu => ?_) (by assumption) ?_
            rotate_left
            focus ((try dsimp only at hu); obtain ⟨u0, u1, u2⟩ := hu; go_simp; (try with_reducible rfl); done)
            try simp only [Act.put]
            refine tail_take 13 (v := ?_) rfl (by kernel_rfl) (by kernel_rfl) (by kernel_rfl) (by kernel_rfl) (fun _ _ _ h => h) (by rfl) (fun u hu => ?_) (by assumption) ?_
            rotate_left
            focus ((try dsimp only at hu); obtain ⟨u0, u1, u2⟩ := hu; go_simp; (try with_reducible rfl); done)
            try simp only [Act.put]
            refine tail_take 14 (v := ?_) rfl (by kernel_rfl) (by kernel_rfl) (by kernel_rfl) (by kernel_rfl) (fun _ _ _ h => h) (by rfl) (fun u hu => ?_) (by assumption) ?_
            rotate_left
            focus ((try dsimp only at hu); obtain ⟨u0, u1, u2⟩ := hu; go_simp; (try with_reducible rfl); done)
            try simp only [Act.put]
            refine tail_step 7 (by kernel_rfl) rfl (fun K hK => ?_)
            go_simp
            go_at_call 34
            refine (HFL.out _).mono ?_
            rintro e w2 ⟨rfl, rfl⟩
            refine hK.out _ _ (by exact hHeld) (fun hHeld7 => ?_)
            clear hK K
            try simp only [Act.put]
            refine tail_take 15 (v := ?_) rfl (by kernel_rfl) (by kernel_rfl) (by kernel_rfl) (by kernel_rfl) (fun _ _ _ h => h) (by rfl) (fun u hu => ?_) (by assumption) ?_
            rotate_left
            focus ((try dsimp only at hu); go_simp; (try with_reducible rfl); done)
            try simp only [Act.put]
            refine tail_last (by kernel_rfl) rfl (fun K hK => ?_)
            go_simp
            refine hK.out _ _ ?_
            clear hK K
            refine tail_step 17 (by kernel_rfl) rfl (fun K hK => ?_)
            go_simp
            refine hK.out _ _ (by exact ⟨(grownBy_drew HG56.out).cell HD.out.1 (fun e => hqne (by cases e; rfl)), (grownBy_drew HG56.out).cell HD.out.2.1 (fun e => hqne (by cases e; rfl)), (grownBy_drew HG56.out).cell HD.out.2.2 (fun e => hqne (by cases e; rfl))⟩) (fun hHeld17 => ?_)
            clear hK K
            try simp only [Act.put]
            refine tail_done (by kernel_rfl) ?_
            go_wp2_with fail
            obtain ⟨wz, hwz⟩ : ∃ wz, ((((((w5.setCell ⟨w.heap.size, 0, none⟩ (.bool p0)).setCell ⟨w.heap.size, 1, none⟩ (.int .i64 fl)).setCell ⟨w.heap.size, 2, none⟩ (.bool y0)).setCell ⟨w.heap.size, 3, none⟩ (.string ⟨v3.toArray⟩)).setCell ⟨w.heap.size, 4, none⟩ (.string ⟨v4.toArray⟩)).setCell ⟨w.heap.size, 5, none⟩ (.slice C m k)) = wz := ⟨_, rfl⟩
            have hz1 := HSET.out
            have hz2 := HC6.out
            have hz3 := HGR.out
            rw [hwz] at hz1 hz2 hz3 ⊢
            have hz4 : wz.drew.heap[w.heap.size]? = _ := hz1
            refine bodyPost_ret (results_cell_tmp rfl rfl (load_rule hz4) rfl) rfl ?_
            refine ⟨grownBy_drew hz3, ⟨p0, fl, y0, v3, v4, C, k, l⟩, true, by show _ = Ending.returned (.tuple #[.agg #[.bool p0, .int .i64 fl, .bool y0, .string ⟨v3.toArray⟩, .string ⟨v4.toArray⟩, .slice C l.length k], .bool true]); rw [HLM.out]; rfl, fun _ => ⟨⟨hz2.kept (grownBy_drew (grownBy_refl _ none)), ⟨by rw [HLM.out]; exact hmL, HST5.out, hl3, hl4⟩⟩, fun b hb => ?_⟩, fun f p h => by rw [HRF2.out] at h; split at h; (cases h; exact ⟨rfl, rfl, rfl⟩); cases h⟩
            have := HOF.out b (by omega)
            rw [HLM.out]
            exact this
          · have hbc : (b3 = false) ∨ (b3 = true ∧ b4 = false) := by
              cases b3 <;> cases b4 <;> simp at hbb ⊢
            have HNF := Lib.hid (show ruleF s = none by
              rw [HRF2.out]
              rcases hbc with h | ⟨_, h⟩ <;> rw [h] <;> simp)
            clear hbb
            have gz0 := frozen_of_heap HB5.out 0
            have fz0 := cell_of_heap HB5.out 0
            have gz1 := frozen_of_heap HB5.out 1
            have fz1 := cell_of_heap HB5.out 1
            have gz2 := frozen_of_heap HB5.out 2
            have fz2 := cell_of_heap HB5.out 2
            have gz3 := frozen_of_heap HB5.out 3
            have fz3 := cell_of_heap HB5.out 3
            have gz4 := frozen_of_heap HB5.out 4
            have fz4 := cell_of_heap HB5.out 4
            have gz5 := frozen_of_heap HB5.out 5
            have fz5 := cell_of_heap HB5.out 5
            rcases hbc with rfl | ⟨rfl, rfl⟩
            all_goals
              go_wp2_with fail
              have hset := set_rule HB5.out (.bool false) (.int .i64 0) (.bool false) (.string ⟨#[]⟩) (.string ⟨#[]⟩) (.slice none 0 0)
              have hgr := grown_set6 HGW.out w.heap.size (.inr (Nat.le_refl _)) (.bool false) (.int .i64 0) (.bool false) (.string ⟨#[]⟩) (.string ⟨#[]⟩) (.slice none 0 0)
              obtain ⟨wz, hwz⟩ : ∃ wz, ((((((w5.setCell ⟨w.heap.size, 0, none⟩ (.bool false)).setCell ⟨w.heap.size, 1, none⟩ (.int .i64 0)).setCell ⟨w.heap.size, 2, none⟩ (.bool false)).setCell ⟨w.heap.size, 3, none⟩ (.string ⟨#[]⟩)).setCell ⟨w.heap.size, 4, none⟩ (.string ⟨#[]⟩)).setCell ⟨w.heap.size, 5, none⟩ (.slice none 0 0)) = wz := ⟨_, rfl⟩
              rw [hwz] at hset hgr
              try rw [hwz]
              refine bodyPost_ret (results_cell_tmp rfl rfl (load_rule hset) rfl) rfl ?_
              exact ⟨hgr, ⟨false, 0, false, [], [], none, 0, []⟩, false, rfl, nofun, fun f p h => by rw [HNF.out] at h; cases h⟩
        · have HNF := Lib.hid (show ruleF s = none by rw [HRF2.out, hg9, Bool.and_false]; rfl)
          clear hg9
          cases b3 <;> cases b4
          all_goals
            have gz0 := frozen_of_heap HB5.out 0
            have fz0 := cell_of_heap HB5.out 0
            have gz1 := frozen_of_heap HB5.out 1
            have fz1 := cell_of_heap HB5.out 1
            have gz2 := frozen_of_heap HB5.out 2
            have fz2 := cell_of_heap HB5.out 2
            have gz3 := frozen_of_heap HB5.out 3
            have fz3 := cell_of_heap HB5.out 3
            have gz4 := frozen_of_heap HB5.out 4
            have fz4 := cell_of_heap HB5.out 4
            have gz5 := frozen_of_heap HB5.out 5
            have fz5 := cell_of_heap HB5.out 5
            go_wp2_with fail
            have hset := set_rule HB5.out (.bool false) (.int .i64 0) (.bool false) (.string ⟨#[]⟩) (.string ⟨#[]⟩) (.slice none 0 0)
            have hgr := grown_set6 HGW.out w.heap.size (.inr (Nat.le_refl _)) (.bool false) (.int .i64 0) (.bool false) (.string ⟨#[]⟩) (.string ⟨#[]⟩) (.slice none 0 0)
            obtain ⟨wz, hwz⟩ : ∃ wz, ((((((w5.setCell ⟨w.heap.size, 0, none⟩ (.bool false)).setCell ⟨w.heap.size, 1, none⟩ (.int .i64 0)).setCell ⟨w.heap.size, 2, none⟩ (.bool false)).setCell ⟨w.heap.size, 3, none⟩ (.string ⟨#[]⟩)).setCell ⟨w.heap.size, 4, none⟩ (.string ⟨#[]⟩)).setCell ⟨w.heap.size, 5, none⟩ (.slice none 0 0)) = wz := ⟨_, rfl⟩
            rw [hwz] at hset hgr
            try rw [hwz]
            refine bodyPost_ret (results_cell_tmp rfl rfl (load_rule hset) rfl) rfl ?_
            exact ⟨hgr, ⟨false, 0, false, [], [], none, 0, []⟩, false, rfl, nofun, fun f p h => by rw [HNF.out] at h; cases h⟩
  · have HNF := Lib.hid (ruleF_none HWS.out (by rw [HN.out]; exact h6))
    have hne : ((n : Int) == 6) = false := by rw [beq_eq_false_iff_ne]; omega
    have gz0 := frozen_of_heap HB1.out 0
    have fz0 := cell_of_heap HB1.out 0
    have gz1 := frozen_of_heap HB1.out 1
    have fz1 := cell_of_heap HB1.out 1
    have gz2 := frozen_of_heap HB1.out 2
    have fz2 := cell_of_heap HB1.out 2
    have gz3 := frozen_of_heap HB1.out 3
    have fz3 := cell_of_heap HB1.out 3
    have gz4 := frozen_of_heap HB1.out 4
    have fz4 := cell_of_heap HB1.out 4
    have gz5 := frozen_of_heap HB1.out 5
    have fz5 := cell_of_heap HB1.out 5
    go_wp2_with fail
    have hset := set_rule HB1.out (.bool false) (.int .i64 0) (.bool false) (.string ⟨#[]⟩) (.string ⟨#[]⟩) (.slice none 0 0)
    have hgr := grown_set6 HG1.out w.heap.size (.inr (Nat.le_refl _)) (.bool false) (.int .i64 0) (.bool false) (.string ⟨#[]⟩) (.string ⟨#[]⟩) (.slice none 0 0)
    obtain ⟨wz, hwz⟩ : ∃ wz, ((((((w1.setCell ⟨w.heap.size, 0, none⟩ (.bool false)).setCell ⟨w.heap.size, 1, none⟩ (.int .i64 0)).setCell ⟨w.heap.size, 2, none⟩ (.bool false)).setCell ⟨w.heap.size, 3, none⟩ (.string ⟨#[]⟩)).setCell ⟨w.heap.size, 4, none⟩ (.string ⟨#[]⟩)).setCell ⟨w.heap.size, 5, none⟩ (.slice none 0 0)) = wz := ⟨_, rfl⟩
    rw [hwz] at hset hgr
    try rw [hwz]
    refine bodyPost_ret (results_cell_tmp rfl rfl (load_rule hset) rfl) rfl ?_
    exact ⟨hgr, ⟨false, 0, false, [], [], none, 0, []⟩, false, rfl, nofun, fun f p h => by rw [HNF.out] at h; cases h⟩
end Go.Proofs.YtlbbjcggjmaehaaDoor
