/-
  rule.Both: the walk. Conditions: a word, the rules' parts not too long; unicode/utf8's two tables as they are laid.
-/
import Derived.Test.YtlbbjcggjmaehaaDoorApply
namespace Go.Proofs.YtlbbjcggjmaehaaDoor
open Go Go.RowKit Go.Maps

theorem OptRes.is {o : Option Wd} {w : World} {e : Ending} {w' : World} (h : OptRes o w e w') : ∃ s : ByteArray, e = .returned (.tuple #[.string s, .bool o.isSome]) ∧ w.grownBy w' none := by
  obtain ⟨hg, ⟨s, rfl, rfl⟩ | ⟨s, rfl, rfl, rfl⟩⟩ := h
  · exact ⟨_, rfl, hg⟩
  · exact ⟨_, rfl, hg⟩

theorem slice_wd (s : Wd) (i j : Nat) : (⟨s.toArray⟩ : ByteArray).extract i j = ⟨((s.take j).drop i).toArray⟩ := by
  apply ByteArray.ext
  simp [ByteArray.data_extract, List.drop_take]

theorem bothS_no {p x : Ru} {word : Wd} (h : ¬ ((applyS p word).isSome = true ∧ (applyS x word).isSome = true ∧ p.pre = true ∧ x.pre = false ∧ p.cross = true ∧ x.cross = true ∧ p.strip.length + x.strip.length ≤ word.length)) : bothS p x word = none := by
  unfold bothS
  rw [if_neg]
  rintro ⟨h1, h2, h3, h4, h5, h6, h7, _⟩
  exact h ⟨h1, h2, h3, h4, h5, h6, h7⟩

set_option maxRecDepth 100000 in
set_option maxHeartbeats 1000000 in
theorem both_walk (p x : Ru) (word : Wd) (w : World) (hw : word.length ≤ 100000) (hp : RuAt w p) (hx : RuAt w x) (hT : Lib.Utf8Tabs 0 1 w) :
    Calls Tryd.prog 39 #[p.val, x.val, .string ⟨word.toArray⟩] w (OptRes (bothS p x word) w) := by
  have hap := apply_walk p word
  have hax := apply_walk x word
  obtain ⟨ans, hans⟩ : ∃ ans, bothS p x word = ans := ⟨_, rfl⟩
  obtain ⟨pa, hpa⟩ : ∃ pa, (applyS p word).isSome = pa := ⟨_, rfl⟩
  obtain ⟨xa, hxa⟩ : ∃ xa, (applyS x word).isSome = xa := ⟨_, rfl⟩
  have hno := bothS_no (p := p) (x := x) (word := word)
  have hyes : bothS p x word = if pa = true ∧ xa = true ∧ p.pre = true ∧ x.pre = false ∧ p.cross = true ∧ x.cross = true ∧ p.strip.length + x.strip.length ≤ word.length ∧ bothTo p x word ≠ [] then some (bothTo p x word) else none := by
    unfold bothS; rw [hpa, hxa]
  rw [hans] at hno hyes ⊢
  rw [hpa, hxa] at hno
  obtain ⟨pp, pf, pc, ps, pd, PC, pcap, pcond⟩ := p
  obtain ⟨xp, xf, xc, xs, xd, XC, xcap, xcond⟩ := x
  unfold bothTo at hyes
  simp only at hno hyes
  obtain ⟨n, hn⟩ : ∃ n, pcond.length = n := ⟨_, rfl⟩
  obtain ⟨m, hm⟩ : ∃ m, xcond.length = m := ⟨_, rfl⟩
  have hbx1 := World.grownBy_alloc w (.cells #[.bool pp, .int .i64 pf, .bool pc, .string ⟨ps.toArray⟩, .string ⟨pd.toArray⟩, .slice PC n pcap] 51) none
  have hob1 := heap_alloc_new w (.cells #[.bool pp, .int .i64 pf, .bool pc, .string ⟨ps.toArray⟩, .string ⟨pd.toArray⟩, .slice PC n pcap] 51 (0, 0))
  have hbx2 := World.grownBy_alloc (w.alloc (.cells #[.bool pp, .int .i64 pf, .bool pc, .string ⟨ps.toArray⟩, .string ⟨pd.toArray⟩, .slice PC n pcap] 51)) (.cells #[.bool xp, .int .i64 xf, .bool xc, .string ⟨xs.toArray⟩, .string ⟨xd.toArray⟩, .slice XC m xcap] 51) none
  have hob2 := heap_alloc_new (w.alloc (.cells #[.bool pp, .int .i64 pf, .bool pc, .string ⟨ps.toArray⟩, .string ⟨pd.toArray⟩, .slice PC n pcap] 51)) (.cells #[.bool xp, .int .i64 xf, .bool xc, .string ⟨xs.toArray⟩, .string ⟨xd.toArray⟩, .slice XC m xcap] 51 (0, 0))
  have hob1' := grownBy_heap hbx2 hob1 nofun
  rw [World.size_alloc] at hob2
  have hbx := grownBy_trans hbx1 hbx2 nofun
  have hs1 : ps.length ≤ 100000 := hp.2.strip
  have hs2 : pd.length ≤ 100000 := hp.2.add
  have hs3 : xs.length ≤ 100000 := hx.2.strip
  have hs4 : xd.length ≤ 100000 := hx.2.add
  have hA := hap _ hw (hp.kept hbx) (tabs_kept hT hbx)
  unfold Ru.val at hA hax ⊢
  simp only at hA hax ⊢
  rw [hn] at hA
  rw [hm] at hax
  rw [hn, hm]
  have HA := Lib.hid hA
  have HAX := Lib.hid hax
  have HX := Lib.hid (hx.kept hbx)
  have HT := Lib.hid (tabs_kept hT hbx)
  have HB := Lib.hid hbx
  have HO := Lib.hid (And.intro hob1' hob2)
  have HN := Lib.hid hno
  have HY := Lib.hid hyes
  have HPA := Lib.hid (And.intro hpa hxa)
  clear hA hax hx hp hT hbx hbx1 hbx2 hob1 hob1' hob2 hno hyes hpa hxa hans hn hm hap
  go_enter Tryd.func39, Tryd.ntmps39
  have h1 := HO.out.1
  have h2 := HO.out.2
  have c0 := cell_of_heap h1 0
  have c1 := cell_of_heap h1 1
  have c2 := cell_of_heap h1 2
  have c3 := cell_of_heap h1 3
  have c4 := cell_of_heap h1 4
  have c5 := cell_of_heap h1 5
  have d0 := cell_of_heap h2 0
  have d1 := cell_of_heap h2 1
  have d2 := cell_of_heap h2 2
  have d3 := cell_of_heap h2 3
  have d4 := cell_of_heap h2 4
  have d5 := cell_of_heap h2 5
  clear h1 h2
  go_wp2_with fail
  refine HA.out.mono ?_
  intro e w1 hres
  obtain ⟨s1, rfl, hg1⟩ := hres.is
  rw [HPA.out.1]
  clear hres c0 c1 c2 c3 c4 c5 d0 d1 d2 d3 d4 d5
  have h2 := grownBy_heap hg1 HO.out.2 nofun
  have d0 := cell_of_heap h2 0
  have d1 := cell_of_heap h2 1
  have d2 := cell_of_heap h2 2
  have d3 := cell_of_heap h2 3
  have d4 := cell_of_heap h2 4
  have d5 := cell_of_heap h2 5
  have HG1 := Lib.hid hg1
  clear h2 hg1 HA
  go_wp2_with fail
  refine (HAX.out _ hw (HX.out.kept HG1.out) (tabs_kept HT.out HG1.out)).mono ?_
  intro e w2 hres
  obtain ⟨s2, rfl, hg2⟩ := hres.is
  rw [HPA.out.2]
  clear hres d0 d1 d2 d3 d4 d5
  have hg12 := grownBy_trans HG1.out hg2 nofun
  have h1 := grownBy_heap hg12 HO.out.1 nofun
  have h2 := grownBy_heap hg12 HO.out.2 nofun
  have c0 := cell_of_heap h1 0
  have c2 := cell_of_heap h1 2
  have c3 := cell_of_heap h1 3
  have c4 := cell_of_heap h1 4
  have d0 := cell_of_heap h2 0
  have d2 := cell_of_heap h2 2
  have d3 := cell_of_heap h2 3
  have d4 := cell_of_heap h2 4
  have HG := Lib.hid (grownBy_trans HB.out hg12 nofun)
  clear h1 h2 hg2 hg12 HG1 HX HT HB HO HPA
  obtain ⟨lp, hlp⟩ : ∃ lp, ps.length = lp := ⟨_, rfl⟩
  obtain ⟨lx, hlx⟩ : ∃ lx, xs.length = lx := ⟨_, rfl⟩
  obtain ⟨lw, hlw⟩ : ∃ lw, word.length = lw := ⟨_, rfl⟩
  have z1 := size_wd ps
  have z2 := size_wd xs
  have z3 := size_wd word
  rw [hlp] at z1 HN HY hs1
  rw [hlx] at z2 HN HY hs3
  rw [hlw] at z3 HN HY hw
  have HL := Lib.hid (And.intro hlp (And.intro hlx hlw))
  clear hlp hlx hlw
  cases pa with
  | false =>
    have hr := HN.out (by rintro ⟨h, _⟩; first | (cases h; done) | omega)
    subst hr
    go_wp2_with fail
    go_ret2
    exact ⟨HG.out, .inr ⟨[], rfl, rfl, rfl⟩⟩
  | true =>
    cases xa with
    | false =>
      have hr := HN.out (by rintro ⟨_, h, _⟩; first | (cases h; done) | omega)
      subst hr
      go_wp2_with fail
      go_ret2
      exact ⟨HG.out, .inr ⟨[], rfl, rfl, rfl⟩⟩
    | true =>
      cases pp with
      | false =>
        have hr := HN.out (by rintro ⟨_, _, h, _⟩; first | (cases h; done) | omega)
        subst hr
        go_wp2_with fail
        go_ret2
        exact ⟨HG.out, .inr ⟨[], rfl, rfl, rfl⟩⟩
      | true =>
        cases xp with
        | true =>
          have hr := HN.out (by rintro ⟨_, _, _, h, _⟩; first | (cases h; done) | omega)
          subst hr
          go_wp2_with fail
          go_ret2
          exact ⟨HG.out, .inr ⟨[], rfl, rfl, rfl⟩⟩
        | false =>
          cases pc with
          | false =>
            have hr := HN.out (by rintro ⟨_, _, _, _, h, _⟩; first | (cases h; done) | omega)
            subst hr
            go_wp2_with fail
            go_ret2
            exact ⟨HG.out, .inr ⟨[], rfl, rfl, rfl⟩⟩
          | true =>
            cases xc with
            | false =>
              have hr := HN.out (by rintro ⟨_, _, _, _, _, h, _⟩; first | (cases h; done) | omega)
              subst hr
              go_wp2_with fail
              go_ret2
              exact ⟨HG.out, .inr ⟨[], rfl, rfl, rfl⟩⟩
            | true =>
              rcases Nat.lt_or_ge lw (lp + lx) with hlt | hge
              · have hlti : (lw : Int) < (lp : Int) + (lx : Int) := by omega
                have hr := HN.out (by rintro ⟨_, _, _, _, _, _, h⟩; first | (cases h; done) | omega)
                subst hr
                go_wp2_with fail
                go_ret2
                exact ⟨HG.out, .inr ⟨[], rfl, rfl, rfl⟩⟩
              · have hgei : ¬ (lw : Int) < (lp : Int) + (lx : Int) := by omega
                obtain ⟨j, hj⟩ : ∃ j, lw - lx = j := ⟨_, rfl⟩
                have hji : (lw : Int) - (lx : Int) = (j : Int) := by omega
                have hpj : (lp : Int) ≤ (j : Int) := by omega
                have hjl : (j : Int) ≤ (lw : Int) := by omega
                obtain ⟨mid, hmid⟩ : ∃ mid, (word.take j).drop lp = mid := ⟨_, rfl⟩
                have hex := slice_wd word lp j
                rw [hmid] at hex
                have hml : mid.length ≤ 100000 := by rw [← hmid, List.length_drop, List.length_take, HL.out.2.2]; omega
                obtain ⟨Y, hY⟩ : ∃ Y, pd ++ mid = Y := ⟨_, rfl⟩
                obtain ⟨Z, hZ⟩ : ∃ Z, Y ++ xd = Z := ⟨_, rfl⟩
                have hYl : Y.length ≤ 200000 := by rw [← hY, List.length_append]; omega
                have k1 := cat_wd pd mid
                have k2 := cat_wd Y xd
                rw [hY] at k1
                rw [hZ] at k2
                obtain ⟨ZB, hZB⟩ : ∃ ZB, (⟨Z.toArray⟩ : ByteArray) = ZB := ⟨_, rfl⟩
                rw [hZB] at k2
                have HZB := Lib.hid hZB
                clear hZB
                have l1 : ¬ 9223372036854775807 < pd.length + mid.length := by omega
                have l2 : ¬ 9223372036854775807 < Y.length + xd.length := by omega
                have hy := HY.out
                rw [hj, hmid, hY, hZ] at hy
                have HY2 := Lib.hid hy
                clear hy hY hZ hmid hj HN HY hge
                go_upto_region 5 with (fail)
                go_quiet (fail)
                by_cases hne : Z = []
                · subst hne
                  have hzb : ZB = ⟨#[]⟩ := HZB.out.symm
                  subst hzb
                  have hr := HY2.out
                  rw [if_neg (by simp)] at hr
                  subst hr
                  go_wp2_with fail
                  go_ret2
                  exact ⟨grownBy_drewN HG.out _, .inr ⟨[], rfl, rfl, rfl⟩⟩
                · have hx2 : ¬ ZB = ⟨#[]⟩ := by rw [← HZB.out]; exact wd_ne hne
                  have hxe : ZB.toList.isEmpty = false := by rw [← HZB.out]; exact wd_full hne
                  have hr := HY2.out
                  rw [if_pos (by refine ⟨?_, ?_, ?_, ?_, ?_, ?_, by omega, hne⟩ <;> trivial)] at hr
                  subst hr
                  go_wp2_with fail
                  go_ret2
                  exact ⟨grownBy_drewN HG.out _, .inl ⟨_, rfl, by rw [HZB.out]; rfl⟩⟩
end Go.Proofs.YtlbbjcggjmaehaaDoor
