/-
  ref13.Forms: the walk. Conditions: at most 900 rules; a word, the rules' parts not too long.
-/
import Derived.Test.YtlbbjcggjmaehaaDoorRBoth
import Derived.Test.YtlbbjcggjmaehaaDoorPut
import Derived.Test.YtlbbjcggjmaehaaDoorQuiet
namespace Go.Proofs.YtlbbjcggjmaehaaDoor
open Go Go.RowKit Go.Maps

set_option maxRecDepth 100000 in
set_option maxHeartbeats 1000000 in
theorem rmine_walk (e : En) (v : Int) (w : World) (h : EnAt w e) :
    Calls Tryd.prog 25 #[e.val, .int .i64 v] w fun x w' => x = .returned (.bool (e.flags.contains v)) ∧ w.grownBy w' none := by
  obtain ⟨word, F, cap, set⟩ := e
  obtain ⟨hs, _, hb⟩ := h
  unfold En.val
  simp only at hb hs ⊢
  obtain ⟨n, hn⟩ : ∃ n, set.length = n := ⟨_, rfl⟩
  rw [hn] at hb hs ⊢
  obtain ⟨r, hr⟩ : ∃ r, set.contains v = r := ⟨_, rfl⟩
  rw [hr]
  have HR := Lib.hid hr
  have hbox := World.grownBy_alloc w (.cells #[.string ⟨word.toArray⟩, .slice F n cap] 25) none
  have hob := heap_alloc_new w (.cells #[.string ⟨word.toArray⟩, .slice F n cap] 25 (0, 0))
  have HB := Lib.hid hbox
  have HOB := Lib.hid hob
  have HS := Lib.hid hs
  have HN := Lib.hid hn
  clear hbox hob hs hn hr
  go_enter Tryd.func25, Tryd.ntmps25
  go_wp2_with fail
  go_loopw [5] (fun kv wr => ∃ k : Nat, k ≤ n ∧ kv = .int .i64 (k : Int) ∧ (set.take k).contains v = false ∧ (w.alloc (.cells #[.string ⟨word.toArray⟩, .slice F n cap] 25)).grownBy wr none) (fun kv _ => n - (RowKit.intOf kv).toNat)
  case atStart => exact ⟨0, Nat.zero_le _, rfl, rfl, grownBy_refl _ none⟩
  case round =>
    obtain ⟨k, hk, rfl, hno, hg⟩ := hrel
    have hob := grownBy_heap hg HOB.out nofun
    have c1 := cell_of_heap hob 1
    have HG := Lib.hid hg
    have HNO := Lib.hid hno
    clear hob hno
    rcases Nat.lt_or_ge k n with hlt | hge
    · have hlti : (k : Int) < (n : Int) := by omega
      obtain ⟨c, hc⟩ : ∃ c, set[k]? = some c := ⟨_, List.getElem?_eq_getElem (by rw [HN.out]; exact hlt)⟩
      obtain ⟨q, o, rfl, hcell⟩ := int_at (l := set) (by rw [HN.out]; exact HS.out.kept (grownBy_trans HB.out hg nofun) nofun) hc
      have hnext := contains_next (v := v) hc
      rw [HNO.out, Bool.false_or] at hnext
      have HNX := Lib.hid hnext
      have HC := Lib.hid hc
      clear hnext hc hg
      by_cases hcv : c = v
      · subst hcv
        have hT : set.contains c = true := by rw [List.contains_iff_mem]; exact List.mem_of_getElem? HC.out
        rw [HR.out] at hT
        subst hT
        go_wp2_with fail
        go_ret
        exact ⟨rfl, grownBy_trans HB.out HG.out nofun⟩
      · have hcd : decide (c = v) = false := decide_eq_false hcv
        have hcb : (c == v) = false := by rw [beq_eq_false_iff_ne]; exact hcv
        go_wp2_with fail
        go_roundw
        case rel => exact ⟨k + 1, by omega, by go_num, by rw [HNX.out, hcb], HG.out⟩
        case measure => simp [RowKit.intOf]; omega
    · obtain rfl : k = n := by omega
      have hI := HNO.out
      rw [← HN.out, List.take_length, HR.out] at hI
      subst hI
      clear hg
      go_wp2_with fail
      go_ret
      exact ⟨rfl, grownBy_trans HB.out HG.out nofun⟩

/-- What the reference puts for one rule and another one. -/
def pairR (e : En) (r x : Ru) : List Wd := if e.flags.contains x.flag then (bothS r x e.word).toList else []
def oneR (rules : List Ru) (e : En) (r : Ru) : List Wd := if e.flags.contains r.flag then (applyS r e.word).toList ++ rules.flatMap (pairR e r) else []
def formsR (rules : List Ru) (e : En) : List Wd := [e.word] ++ rules.flatMap (oneR rules e)

theorem putAll_snoc (l : List Wd) (s : Wd) : putAll (l ++ [s]) = insU s (putAll l) := by unfold putAll; rw [List.foldl_append]; rfl

theorem foldIns_len : ∀ (l L : List Wd), (l.foldl (fun L x => insU x L) L).length ≤ L.length + l.length
  | [], L => by simp
  | s :: l, L => by
    rw [List.foldl_cons, List.length_cons]
    have h1 := foldIns_len l (insU s L)
    have h2 := insU_len s L
    omega

theorem putAll_len (l : List Wd) : (putAll l).length ≤ l.length := by
  have := foldIns_len l []
  simpa [putAll] using this

theorem toList_len (o : Option Wd) : o.toList.length ≤ 1 := by cases o <;> simp

theorem pairs_len (e : En) (r : Ru) : ∀ l : List Ru, (l.flatMap (pairR e r)).length ≤ l.length
  | [] => by simp
  | x :: l => by
    rw [List.flatMap_cons, List.length_append, List.length_cons]
    have := pairs_len e r l
    have : (pairR e r x).length ≤ 1 := by unfold pairR; split; exact toList_len _; simp
    omega

theorem ones_len (rules : List Ru) (e : En) : ∀ l : List Ru, (l.flatMap (oneR rules e)).length ≤ l.length * (1 + rules.length)
  | [] => by simp
  | x :: l => by
    rw [List.flatMap_cons, List.length_append, List.length_cons, Nat.add_mul]
    have h1 := ones_len rules e l
    have h2 : (oneR rules e x).length ≤ 1 + rules.length := by
      unfold oneR; split
      · rw [List.length_append]; have := toList_len (applyS x e.word); have := pairs_len e x rules; omega
      · simp
    omega

/-- A row that holds words. -/
def HasWd (w : World) (v : Value) (L : List Wd) : Prop := ∃ A n c, v = .slice A n c ∧ L.length = n ∧ n ≤ c ∧ Sl w 1 A n (strCells L)

theorem HasWd.kept {w w' : World} {v : Value} {L : List Wd} (h : HasWd w v L) (g : w.grownBy w' none) : HasWd w' v L := by
  obtain ⟨A, n, c, e, h1, h2, h3⟩ := h
  exact ⟨A, n, c, e, h1, h2, h3.kept g nofun⟩

theorem ru_vals {w : World} {A : Option Addr} {l : List Ru} (h : RusAt w A l) {i : Nat} {r : Ru} (hr : l[i]? = some r) : RuAt w r := h.2 r (List.mem_of_getElem? hr)

set_option maxRecDepth 100000 in
set_option maxHeartbeats 2000000 in
theorem rforms_walk (rules : List Ru) (A : Option Addr) (n cap : Nat) (e : En) (w : World) (hn : rules.length = n) (hb : n ≤ 900) (hr : RusAt w A rules) (he : EnAt w e) :
    Calls Tryd.prog 12 #[.slice A n cap, e.val] w fun x w' => ∃ v, x = .returned v ∧ HasWd w' v (putAll (formsR rules e)) ∧ w.grownBy w' none := by
  obtain ⟨word, F, fcap, flags⟩ := e
  have hev : (⟨word, F, fcap, flags⟩ : En).val = .agg #[.string ⟨word.toArray⟩, .slice F flags.length fcap] := rfl
  have hmine := fun (v : Int) (u : World) (hu : w.grownBy u none) => rmine_walk ⟨word, F, fcap, flags⟩ v u (he.kept hu)
  have happ := fun (r : Ru) (u : World) (h : RuAt u r) => rapply_walk r word u he.2.1 h
  have hboth := fun (p x : Ru) (u : World) (hp : RuAt u p) (hx : RuAt u x) => rboth_walk p x word u he.2.1 hp hx
  simp only [hev] at hmine
  rw [hev]
  obtain ⟨m, hm⟩ : ∃ m, flags.length = m := ⟨_, rfl⟩
  rw [hm] at hmine ⊢
  have hbox := World.grownBy_alloc w (.cells #[.string ⟨word.toArray⟩, .slice F m fcap] 25) none
  have hob := heap_alloc_new w (.cells #[.string ⟨word.toArray⟩, .slice F m fcap] 25 (0, 0))
  have hlit := World.grownBy_alloc (w.alloc (.cells #[.string ⟨word.toArray⟩, .slice F m fcap] 25)) (.cells #[.string ⟨word.toArray⟩] 9) none
  have hsl := Sl.of_own (World.ownsRow_lit (base := 0) (size := 1) (e := 9) (w.alloc (.cells #[.string ⟨word.toArray⟩, .slice F m fcap] 25)) #[.string ⟨word.toArray⟩] 1 (Nat.zero_le _) (by decide) rfl) (by intro x hx; simp at hx; subst hx; rfl)
  rw [World.size_alloc] at hsl
  have HB := Lib.hid (grownBy_trans hbox hlit nofun)
  have HOB := Lib.hid (grownBy_heap hlit hob nofun)
  have HSL := Lib.hid hsl
  have HMINE := Lib.hid hmine
  have HAPP := Lib.hid happ
  have HBOTH := Lib.hid hboth
  have HR := Lib.hid hr
  have HN := Lib.hid hn
  clear hbox hob hlit hsl hmine happ hboth hr hn hev he hm
  go_enter Tryd.func12, Tryd.ntmps12
  go_wp2_with fail
  go_loopw [5, 6] (fun lv iv wr => ∃ i : Nat, i ≤ n ∧ iv = .int .i64 (i : Int) ∧ HasWd wr lv (putAll ([word] ++ (rules.take i).flatMap (oneR rules ⟨word, F, fcap, flags⟩))) ∧
    ((w.alloc (.cells #[.string ⟨word.toArray⟩, .slice F m fcap] 25)).alloc (.cells #[.string ⟨word.toArray⟩] 9)).grownBy wr none) (fun _ iv _ => n - (RowKit.intOf iv).toNat)
  case atStart => exact ⟨0, Nat.zero_le _, rfl, ⟨_, 1, 1, rfl, rfl, Nat.le_refl _, HSL.out⟩, grownBy_refl _ none⟩
  case round =>
    obtain ⟨i, hi, rfl, ⟨B, ln, lc, rfl, hln, hlc, hL⟩, hg⟩ := hrel
    have hob := grownBy_heap hg HOB.out nofun
    have HO := Lib.hid hob
    have HG := Lib.hid hg
    have HGW := Lib.hid (grownBy_trans HB.out hg nofun)
    have HL := Lib.hid (And.intro hln (And.intro hlc hL))
    clear hln hlc hL hob hg
    rcases Nat.lt_or_ge i n with hlt | hge
    · have hlti : (i : Int) < (n : Int) := by omega
      obtain ⟨r, hr⟩ : ∃ r, rules[i]? = some r := ⟨_, List.getElem?_eq_getElem (by rw [HN.out]; exact hlt)⟩
      have hrus := HR.out.kept HGW.out
      obtain ⟨q, o, rfl, c0, c1, c2, c3, c4, c5⟩ := ru_cell hrus hr
      have e0 := cell_of_heap HO.out 0
      have e1 := cell_of_heap HO.out 1
      have hstep : (rules.take (i + 1)).flatMap (oneR rules ⟨word, F, fcap, flags⟩) = (rules.take i).flatMap (oneR rules ⟨word, F, fcap, flags⟩) ++ oneR rules ⟨word, F, fcap, flags⟩ r := by
        rw [List.take_add_one, hr]; simp
      have HST := Lib.hid hstep
      have HRR := Lib.hid hr
      clear hstep hr hrus
      obtain ⟨acc, hacc⟩ : ∃ acc, [word] ++ (rules.take i).flatMap (oneR rules ⟨word, F, fcap, flags⟩) = acc := ⟨_, rfl⟩
      have hal : acc.length ≤ 1 + i * (1 + n) := by
        rw [← hacc, List.length_append]
        have h1 := ones_len rules ⟨word, F, fcap, flags⟩ (rules.take i)
        rw [List.length_take, HN.out, Nat.min_eq_left hi] at h1
        simp only [List.length_singleton]; omega
      have hin : i * (1 + n) ≤ 900 * 901 := Nat.mul_le_mul (by omega) (by omega)
      have hL := HL.out
      rw [hacc] at hL
      have HL := Lib.hid hL
      have HACC := Lib.hid hacc
      clear hL hacc
      obtain ⟨k, hk⟩ : ∃ k, flags.contains r.flag = k := ⟨_, rfl⟩
      have HK := Lib.hid hk
      have hgd : wr.grownBy wr.drew none := grownBy_drew (grownBy_refl wr none)
      have hm1 := HMINE.out r.flag wr.drew (grownBy_trans HGW.out hgd nofun)
      rw [hk] at hm1
      have HM1 := Lib.hid hm1
      have HD := Lib.hid hgd
      clear hk hm1 hgd
      go_upto_region 5 with (fail)
      go_still_tail 6, (by kernel_rfl)
      change wpList _ _ _ _ _ wr.drew
      have d1 : wr.drew.cell? _ = _ := c1
      have f0 : wr.drew.cell? _ = _ := e0
      have f1 : wr.drew.cell? _ = _ := e1
      go_wp2_with fail
      refine HM1.out.mono ?_
      rintro e w2 ⟨rfl, hg2⟩
      clear d1 f0 f1
      have hg2' := grownBy_trans HD.out hg2 nofun
      have HG2 := Lib.hid hg2'
      cases k with
      | false =>
        have hone : oneR rules ⟨word, F, fcap, flags⟩ r = [] := by unfold oneR; simp only; rw [HK.out, if_neg Bool.false_ne_true]
        clear hg2 hg2' c0 c1 c2 c3 c4 c5 e0 e1
        go_wp2_with fail
        go_roundw
        case rel =>
          refine ⟨i + 1, by omega, by go_num, ⟨B, ln, lc, rfl, ?_, HL.out.2.1, ?_⟩, grownBy_trans HG.out HG2.out nofun⟩
          · rw [HST.out, hone, List.append_nil, HACC.out]; exact HL.out.1
          · rw [HST.out, hone, List.append_nil, HACC.out]; exact HL.out.2.2.kept HG2.out nofun
        case measure => simp [RowKit.intOf]; omega
      | true =>
        have d0 := hg2'.cell c0 nofun
        have d1 := hg2'.cell c1 nofun
        have d2 := hg2'.cell c2 nofun
        have d3 := hg2'.cell c3 nofun
        have d4 := hg2'.cell c4 nofun
        have d5 := hg2'.cell c5 nofun
        have f0 := hg2'.cell e0 nofun
        have hap : ∀ w3, Since w2 w3 → Calls Tryd.prog 26 #[r.val, .string ⟨word.toArray⟩] w3 fun e w' => e = .returned (optV (applyS r word)) ∧ Since w2 w' := fun w3 hw3 =>
          (HAPP.out r w3 (ru_vals (HR.out.kept (grownBy_trans HGW.out (grownBy_trans HG2.out hw3 nofun) nofun)) HRR.out)).mono fun e w' h => ⟨h.val.1, grownBy_trans hw3 h.val.2 nofun⟩
        obtain ⟨ro, hro⟩ : ∃ ro, applyS r word = ro := ⟨_, rfl⟩
        rw [hro] at hap
        unfold Ru.val optV at hap
        obtain ⟨so, hso⟩ : ∃ so, ro.getD [] = so := ⟨_, rfl⟩
        obtain ⟨sb, hsb⟩ : ∃ sb, ro.isSome = sb := ⟨_, rfl⟩
        rw [hso, hsb] at hap
        have HSO := Lib.hid (And.intro hso hsb)
        clear hso hsb
        have HAP := Lib.hid hap
        have HRO := Lib.hid hro
        clear hg2 hg2' hap c0 c1 c2 c3 c4 c5 e0 e1 hro
        go_upto_region 6 with (fail)
        refine region_since (by kernel_rfl) (by kernel_rfl) ?_
        iterate 12
          (first
            | (refine quiet_un ?_ ?_
               focus (go_simp; done)
               simp only [Act.put, List.setIfInBounds_toArray, List.set_cons_zero, List.set_cons_succ])
            | (refine quiet_val (v := ?_) ?_ (fun w3 hw3 => ?_) ?_
               rotate_left
               focus (go_simp; done)
               · have x0 := World.grownBy.cell hw3 d0 nofun
                 have x1 := World.grownBy.cell hw3 d1 nofun
                 have x2 := World.grownBy.cell hw3 d2 nofun
                 have x3 := World.grownBy.cell hw3 d3 nofun
                 have x4 := World.grownBy.cell hw3 d4 nofun
                 have x5 := World.grownBy.cell hw3 d5 nofun
                 have y0 := World.grownBy.cell hw3 f0 nofun
                 unfold Oper.quietAt Oper.quietUpon
                 go_simp
                 first
                   | done
                   | (go_at_call 26; exact HAP.out w3 hw3)
                   | rfl
               simp only [Act.put, List.setIfInBounds_toArray, List.set_cons_zero, List.set_cons_succ]))
        refine quiet_end ?_
        intro w4 hw4
        have HG4 := Lib.hid (grownBy_trans HG2.out hw4 nofun)
        have hone : oneR rules ⟨word, F, fcap, flags⟩ r = ro.toList ++ rules.flatMap (pairR ⟨word, F, fcap, flags⟩ r) := by unfold oneR; simp only; rw [HK.out, if_pos rfl, HRO.out]
        have HONE := Lib.hid hone
        clear hw4 d0 d1 d2 d3 d4 d5 f0 hone
        go_upto_if 39 with (fail)
        go_cut [5] (fun v wx => HasWd wx v (putAll (acc ++ ro.toList)) ∧ wr.grownBy wx none)
        case first =>
          cases sb with
          | false =>
            have hro : ro = none := by have := HSO.out.2; cases ro with
              | none => rfl
              | some x => cases this
            subst hro
            go_wp2_with fail
            go_meet
            exact ⟨⟨B, ln, lc, rfl, by rw [Option.toList_none, List.append_nil]; exact HL.out.1, HL.out.2.1, by rw [Option.toList_none, List.append_nil]; exact HL.out.2.2.kept HG4.out nofun⟩, HG4.out⟩
          | true =>
            have hro : ro = some so := by have h1 := HSO.out.1; have h2 := HSO.out.2; cases ro with
              | none => cases h2
              | some x => simp only [Option.getD_some] at h1; rw [h1]
            subst hro
            have hln := HL.out.1
            have hpl := putAll_len acc
            rw [hln] at hpl
            go_wp2_with fail
            refine (put_walk (putAll acc) so B ln lc w4 hln HL.out.2.1 (by omega) (HL.out.2.2.kept HG4.out nofun)).mono ?_
            rintro e w5 ⟨A', n', c', rfl, hl5, hc5, hs5, hg5⟩
            have HH5 := Lib.hid (show HasWd w5 (.slice A' n' c') (putAll (acc ++ [so])) from ⟨A', n', c', rfl, by rw [putAll_snoc]; exact hl5, hc5, by rw [putAll_snoc]; exact hs5⟩)
            have HG5 := Lib.hid (grownBy_trans HG4.out hg5 nofun)
            clear hl5 hc5 hs5 hg5 hln
            go_wp2_with fail
            go_meet
            exact ⟨HH5.out, HG5.out⟩
        case rest =>
          obtain ⟨⟨B5, l5, c5, rfl, hl5, hc5, hs5⟩, hg5⟩ := hcut
          obtain ⟨acc1, hacc1⟩ : ∃ acc1, acc ++ ro.toList = acc1 := ⟨_, rfl⟩
          have hal1 : acc1.length ≤ acc.length + 1 := by rw [← hacc1, List.length_append]; have := toList_len ro; omega
          rw [hacc1] at hl5 hs5
          have HA1 := Lib.hid hacc1
          have H5 := Lib.hid (And.intro hl5 (And.intro hc5 hs5))
          have HG5 := Lib.hid hg5
          clear hl5 hc5 hs5 hg5 hacc1 HG4
          go_wp2_with fail
          go_loopw [5, 9] (fun lv kv wz => ∃ k : Nat, k ≤ n ∧ kv = .int .i64 (k : Int) ∧ HasWd wz lv (putAll (acc1 ++ (rules.take k).flatMap (pairR ⟨word, F, fcap, flags⟩ r))) ∧ wr.grownBy wz none) (fun _ kv _ => n - (RowKit.intOf kv).toNat)
          case atStart => exact ⟨0, Nat.zero_le _, rfl, ⟨B5, l5, c5, rfl, by simpa using H5.out.1, H5.out.2.1, by simpa using H5.out.2.2⟩, HG5.out⟩
          case round =>
            obtain ⟨k, hk, rfl, ⟨B6, l6, c6, rfl, hl6, hc6, hs6⟩, hg6⟩ := hrel
            have HG6 := Lib.hid hg6
            have H6 := Lib.hid (And.intro hl6 (And.intro hc6 hs6))
            clear hl6 hc6 hs6
            rcases Nat.lt_or_ge k n with hkn | hkn
            · have hkni : (k : Int) < (n : Int) := by omega
              obtain ⟨x, hx⟩ : ∃ x, rules[k]? = some x := ⟨_, List.getElem?_eq_getElem (by rw [HN.out]; exact hkn)⟩
              have hgw6 := grownBy_trans HGW.out hg6 nofun
              obtain ⟨_, _, e9, c0, c1, c2, c3, c4, c5⟩ := ru_cell (HR.out.kept hgw6) HRR.out
              cases e9
              obtain ⟨_, _, e9, g0, g1, g2, g3, g4, g5⟩ := ru_cell (HR.out.kept hgw6) hx
              cases e9
              have hob6 := grownBy_heap hg6 HO.out nofun
              have e0 := cell_of_heap hob6 0
              have e1 := cell_of_heap hob6 1
              have hstep : (rules.take (k + 1)).flatMap (pairR ⟨word, F, fcap, flags⟩ r) = (rules.take k).flatMap (pairR ⟨word, F, fcap, flags⟩ r) ++ pairR ⟨word, F, fcap, flags⟩ r x := by
                rw [List.take_add_one, hx]; simp
              have hpl2 := pairs_len ⟨word, F, fcap, flags⟩ r (rules.take k)
              rw [List.length_take, HN.out, Nat.min_eq_left hk] at hpl2
              obtain ⟨ps, hps⟩ : ∃ ps, (rules.take k).flatMap (pairR ⟨word, F, fcap, flags⟩ r) = ps := ⟨_, rfl⟩
              rw [hps] at hstep hpl2
              have h6 := H6.out
              rw [hps] at h6
              have H6 := Lib.hid h6
              have HPS := Lib.hid hps
              have HSTK := Lib.hid hstep
              have HXX := Lib.hid hx
              have HGW6 := Lib.hid hgw6
              obtain ⟨kx, hkx⟩ : ∃ kx, flags.contains x.flag = kx := ⟨_, rfl⟩
              have hm1 := HMINE.out x.flag wr.drew (grownBy_drew hgw6)
              rw [hkx] at hm1
              have HM1 := Lib.hid hm1
              have HKX := Lib.hid hkx
              clear hx hgw6 hob6 hstep hps h6 hkx hm1 hg6
              go_upto_region 12 with (fail)
              go_still_tail 6, (by kernel_rfl)
              change wpList _ _ _ _ _ wr.drew
              have x1 : wr.drew.cell? _ = _ := g1
              have f0 : wr.drew.cell? _ = _ := e0
              have f1 : wr.drew.cell? _ = _ := e1
              go_wp2_with fail
              refine HM1.out.mono ?_
              rintro e w7 ⟨rfl, hg7⟩
              clear x1 f0 f1
              have hg7' : wr.grownBy w7 none := grownBy_trans (grownBy_drew (grownBy_refl wr none)) hg7 nofun
              have HG7 := Lib.hid hg7'
              cases kx with
              | false =>
                have hpr : pairR ⟨word, F, fcap, flags⟩ r x = [] := by unfold pairR; simp only; rw [HKX.out, if_neg Bool.false_ne_true]
                clear hg7 hg7' c0 c1 c2 c3 c4 c5 g0 g1 g2 g3 g4 g5 e0 e1
                go_wp2_with fail
                go_roundw
                case rel =>
                  refine ⟨k + 1, by omega, by go_num, ⟨B6, l6, c6, rfl, ?_, H6.out.2.1, ?_⟩, grownBy_trans HG6.out HG7.out nofun⟩
                  · rw [HSTK.out, hpr, List.append_nil]; exact H6.out.1
                  · rw [HSTK.out, hpr, List.append_nil]; exact H6.out.2.2.kept HG7.out nofun
                case measure => simp [RowKit.intOf]; omega
              | true =>
                have d0 := hg7'.cell c0 nofun
                have d1 := hg7'.cell c1 nofun
                have d2 := hg7'.cell c2 nofun
                have d3 := hg7'.cell c3 nofun
                have d4 := hg7'.cell c4 nofun
                have d5 := hg7'.cell c5 nofun
                have h0 := hg7'.cell g0 nofun
                have h1 := hg7'.cell g1 nofun
                have h2 := hg7'.cell g2 nofun
                have h3 := hg7'.cell g3 nofun
                have h4 := hg7'.cell g4 nofun
                have h5 := hg7'.cell g5 nofun
                have f0 := hg7'.cell e0 nofun
                have hap : ∀ w3, Since w7 w3 → Calls Tryd.prog 28 #[r.val, x.val, .string ⟨word.toArray⟩] w3 fun e w' => e = .returned (optV (bothS r x word)) ∧ Since w7 w' := fun w3 hw3 =>
                  have hk := HR.out.kept (grownBy_trans HGW6.out (grownBy_trans HG7.out hw3 nofun) nofun)
                  (HBOTH.out r x w3 (ru_vals hk HRR.out) (ru_vals hk HXX.out)).mono fun e w' h => ⟨h.val.1, grownBy_trans hw3 h.val.2 nofun⟩
                obtain ⟨rp, hrp⟩ : ∃ rp, bothS r x word = rp := ⟨_, rfl⟩
                rw [hrp] at hap
                unfold Ru.val optV at hap
                obtain ⟨so2, hso⟩ : ∃ so2, rp.getD [] = so2 := ⟨_, rfl⟩
                obtain ⟨sb2, hsb⟩ : ∃ sb2, rp.isSome = sb2 := ⟨_, rfl⟩
                rw [hso, hsb] at hap
                have HSO2 := Lib.hid (And.intro hso hsb)
                have HAP2 := Lib.hid hap
                have hpr : pairR ⟨word, F, fcap, flags⟩ r x = rp.toList := by unfold pairR; simp only; rw [HKX.out, if_pos rfl, hrp]
                have HPR := Lib.hid hpr
                clear hg7 hg7' hap c0 c1 c2 c3 c4 c5 g0 g1 g2 g3 g4 g5 e0 e1 hrp hso hsb hpr
                go_upto_region 13 with (fail)
                refine region_since (by kernel_rfl) (by kernel_rfl) ?_
                iterate 16
                  (first
                    | (refine quiet_un ?_ ?_
                       focus (go_simp; done)
                       simp only [Act.put, List.setIfInBounds_toArray, List.set_cons_zero, List.set_cons_succ])
                    | (refine quiet_val (v := ?_) ?_ (fun w3 hw3 => ?_) ?_
                       rotate_left
                       focus (go_simp; done)
                       · have x0 := World.grownBy.cell hw3 d0 nofun
                         have x1 := World.grownBy.cell hw3 d1 nofun
                         have x2 := World.grownBy.cell hw3 d2 nofun
                         have x3 := World.grownBy.cell hw3 d3 nofun
                         have x4 := World.grownBy.cell hw3 d4 nofun
                         have x5 := World.grownBy.cell hw3 d5 nofun
                         have z0 := World.grownBy.cell hw3 h0 nofun
                         have z1 := World.grownBy.cell hw3 h1 nofun
                         have z2 := World.grownBy.cell hw3 h2 nofun
                         have z3 := World.grownBy.cell hw3 h3 nofun
                         have z4 := World.grownBy.cell hw3 h4 nofun
                         have z5 := World.grownBy.cell hw3 h5 nofun
                         have y0 := World.grownBy.cell hw3 f0 nofun
                         unfold Oper.quietAt Oper.quietUpon
                         go_simp
                         first
                           | done
                           | (go_at_call 28; exact HAP2.out w3 hw3)
                           | rfl
                       simp only [Act.put, List.setIfInBounds_toArray, List.set_cons_zero, List.set_cons_succ]))
                refine quiet_end ?_
                intro w8 hw8
                have HG8 := Lib.hid (grownBy_trans HG7.out hw8 nofun)
                clear hw8 d0 d1 d2 d3 d4 d5 h0 h1 h2 h3 h4 h5 f0
                cases sb2 with
                | false =>
                  have hro : rp = none := by have := HSO2.out.2; cases rp with
                    | none => rfl
                    | some x => cases this
                  subst hro
                  go_wp2_with fail
                  go_roundw
                  case rel =>
                    refine ⟨k + 1, by omega, by go_num, ⟨B6, l6, c6, rfl, ?_, H6.out.2.1, ?_⟩, grownBy_trans HG6.out HG8.out nofun⟩
                    · rw [HSTK.out, HPR.out, Option.toList_none, List.append_nil]; exact H6.out.1
                    · rw [HSTK.out, HPR.out, Option.toList_none, List.append_nil]; exact H6.out.2.2.kept HG8.out nofun
                  case measure => simp [RowKit.intOf]; omega
                | true =>
                  have hro : rp = some so2 := by have h1 := HSO2.out.1; have h2 := HSO2.out.2; cases rp with
                    | none => cases h2
                    | some x => simp only [Option.getD_some] at h1; rw [h1]
                  subst hro
                  have hln := H6.out.1
                  have hpl := putAll_len (acc1 ++ ps)
                  rw [hln, List.length_append] at hpl
                  go_wp2_with fail
                  refine (put_walk (putAll (acc1 ++ ps)) so2 B6 l6 c6 w8 hln H6.out.2.1 (by omega) (H6.out.2.2.kept HG8.out nofun)).mono ?_
                  rintro e w9 ⟨A', n', c', rfl, hl9, hc9, hs9, hg9⟩
                  have HH9 := Lib.hid (show HasWd w9 (.slice A' n' c') (putAll (acc1 ++ ps ++ [so2])) from ⟨A', n', c', rfl, by rw [putAll_snoc]; exact hl9, hc9, by rw [putAll_snoc]; exact hs9⟩)
                  have HG9 := Lib.hid (grownBy_trans HG8.out hg9 nofun)
                  clear hl9 hc9 hs9 hg9 hln
                  go_wp2_with fail
                  go_roundw
                  case rel =>
                    refine ⟨k + 1, by omega, by go_num, ?_, grownBy_trans HG6.out HG9.out nofun⟩
                    rw [HSTK.out, HPR.out, Option.toList_some, ← List.append_assoc]; exact HH9.out
                  case measure => simp [RowKit.intOf]; omega
            · obtain rfl : k = n := by omega
              have h6 := H6.out
              have HH6 := Lib.hid h6
              clear hg6
              go_wp2_with fail
              go_roundw
              case rel =>
                refine ⟨i + 1, by omega, by go_num, ⟨B6, l6, c6, rfl, ?_, HH6.out.2.1, ?_⟩, grownBy_trans HG.out HG6.out nofun⟩
                · rw [HST.out, HONE.out, ← List.append_assoc, HACC.out, ← List.append_assoc, HA1.out]
                  have := HH6.out.1
                  rw [← HN.out, List.take_length] at this
                  exact this
                · rw [HST.out, HONE.out, ← List.append_assoc, HACC.out, ← List.append_assoc, HA1.out]
                  have := HH6.out.2.2
                  rw [← HN.out, List.take_length] at this
                  exact this
              case measure => simp [RowKit.intOf]; omega
    · obtain rfl : i = n := by omega
      have h := HL.out
      rw [← HN.out, List.take_length] at h
      have HH := Lib.hid h
      clear h
      go_wp2_with fail
      go_ret
      exact ⟨_, rfl, ⟨B, ln, lc, rfl, HH.out.1, HH.out.2.1, HH.out.2.2⟩, HGW.out⟩
end Go.Proofs.YtlbbjcggjmaehaaDoor
