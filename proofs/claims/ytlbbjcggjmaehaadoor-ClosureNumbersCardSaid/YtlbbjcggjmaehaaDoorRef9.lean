/-
  ref09.Starts, ref09.Ends: the walks. Conditions: at most 100000 items of at most 100000 codes.
-/
import Derived.Test.YtlbbjcggjmaehaaDoorEnds
namespace Go.Proofs.YtlbbjcggjmaehaaDoor
open Go Go.RowKit Go.Maps

def It.val (x : It) : Value := .agg #[.bool x.any, .bool x.neg, .slice x.S x.set.length x.cap]

theorem contains_next {l : List Int} {k : Nat} {c v : Int} (h : l[k]? = some c) : (l.take (k + 1)).contains v = ((l.take k).contains v || (c == v)) := by
  rw [List.take_add_one, h, Bool.eq_iff_iff]
  simp only [Option.toList_some, List.contains_iff_mem, List.mem_append, List.mem_singleton, Bool.or_eq_true, beq_iff_eq]
  exact ⟨fun h => h.imp_right Eq.symm, fun h => h.imp_right Eq.symm⟩

set_option maxRecDepth 100000 in
set_option maxHeartbeats 1000000 in
theorem rhas_walk (x : It) (v : Int) (w : World) (hb : x.set.length ≤ 100000) (hs : Sl w 1 x.S x.set.length (intCells x.set)) :
    Calls Tryd.prog 59 #[x.val, .int .i64 v] w fun e w' => e = .returned (.bool (hasI x v)) ∧ w.grownBy w' none := by
  obtain ⟨a, neg, S, cap, set⟩ := x
  unfold It.val hasI
  simp only at hb hs ⊢
  obtain ⟨n, hn⟩ : ∃ n, set.length = n := ⟨_, rfl⟩
  rw [hn] at hb hs ⊢
  obtain ⟨r, hr⟩ : ∃ r, set.contains v = r := ⟨_, rfl⟩
  rw [hr]
  have HR := Lib.hid hr
  clear hr
  have hbox := World.grownBy_alloc w (.cells #[.bool a, .bool neg, .slice S n cap] 48) none
  have hob := heap_alloc_new w (.cells #[.bool a, .bool neg, .slice S n cap] 48 (0, 0))
  have HB := Lib.hid hbox
  have HOB := Lib.hid hob
  have HS := Lib.hid hs
  have HN := Lib.hid hn
  clear hbox hob hs hn
  go_enter Tryd.func59, Tryd.ntmps59
  go_wp2_with fail
  go_loopw [5, 6] (fun iv kv wr => ∃ k : Nat, k ≤ n ∧ kv = .int .i64 (k : Int) ∧ iv = .bool ((set.take k).contains v) ∧ (w.alloc (.cells #[.bool a, .bool neg, .slice S n cap] 48)).grownBy wr none) (fun _ kv _ => n - (RowKit.intOf kv).toNat)
  case atStart => exact ⟨0, Nat.zero_le _, rfl, rfl, grownBy_refl _ none⟩
  case round =>
    obtain ⟨k, hk, rfl, rfl, hg⟩ := hrel
    have hob := grownBy_heap hg HOB.out nofun
    have c0 := cell_of_heap hob 0
    have c1 := cell_of_heap hob 1
    have c2 := cell_of_heap hob 2
    have HG := Lib.hid hg
    obtain ⟨inn, hin⟩ : ∃ inn, (set.take k).contains v = inn := ⟨_, rfl⟩
    rw [hin]
    have HIN := Lib.hid hin
    rcases Nat.lt_or_ge k n with hlt | hge
    · have hlti : (k : Int) < (n : Int) := by omega
      obtain ⟨c, hc⟩ : ∃ c, set[k]? = some c := ⟨_, List.getElem?_eq_getElem (by rw [HN.out]; exact hlt)⟩
      obtain ⟨q, o, rfl, hcell⟩ := int_at (l := set) (by rw [HN.out]; exact HS.out.kept (grownBy_trans HB.out hg nofun) nofun) hc
      have hnext := contains_next (v := v) hc
      rw [HIN.out] at hnext
      have HNX := Lib.hid hnext
      clear hnext hc hob hin hg c0 c1
      cases inn with
      | true =>
        go_wp2_with fail
        go_roundw
        case rel => exact ⟨k + 1, by omega, by go_num, by rw [HNX.out]; rfl, HG.out⟩
        case measure => simp [RowKit.intOf]; omega
      | false =>
        by_cases hcv : c = v
        · subst hcv
          go_wp2_with fail
          go_roundw
          case rel => exact ⟨k + 1, by omega, by go_num, by rw [HNX.out]; simp, HG.out⟩
          case measure => simp [RowKit.intOf]; omega
        · have hcd : decide (c = v) = false := decide_eq_false hcv
          have hcb : (c == v) = false := by rw [beq_eq_false_iff_ne]; exact hcv
          go_wp2_with fail
          go_roundw
          case rel => exact ⟨k + 1, by omega, by go_num, by rw [HNX.out, hcb]; rfl, HG.out⟩
          case measure => simp [RowKit.intOf]; omega
    · obtain rfl : k = n := by omega
      have hI := HIN.out
      rw [← HN.out, List.take_length, HR.out] at hI
      subst hI
      clear hob hin hg
      cases a with
      | true =>
        go_wp2_with fail
        go_ret
        exact ⟨rfl, grownBy_trans HB.out HG.out nofun⟩
      | false =>
        cases r <;> cases neg
        all_goals
          go_wp2_with fail
          go_ret
          exact ⟨rfl, grownBy_trans HB.out HG.out nofun⟩

set_option maxRecDepth 100000 in
set_option maxHeartbeats 2000000 in
theorem rstarts_walk (l : List It) (C : Option Addr) (n cap : Nat) (cs : List Int) (B : Option Addr) (m mc : Nat) (w : World) (hn : l.length = n) (hb : n ≤ 100000) (hset : ∀ x ∈ l, x.set.length ≤ 100000) (h : CondAt w C l) (hm : cs.length = m) (hmb : m ≤ 1000000) (hcs : Sl w 1 B m (intCells cs)) :
    Calls Tryd.prog 45 #[.slice C n cap, .slice B m mc] w fun e w' => e = .returned (.bool (startsS l cs)) ∧ w.grownBy w' none := by
  obtain ⟨R, hR⟩ : ∃ R, startsS l cs = R := ⟨_, rfl⟩
  rw [hR]
  have HN := Lib.hid hn
  have HM := Lib.hid hm
  have HR := Lib.hid hR
  have H := Lib.hid h
  have HCS := Lib.hid hcs
  have HSET := Lib.hid hset
  clear hn hm hR h hcs hset
  go_enter Tryd.func45, Tryd.ntmps45
  rcases Nat.lt_or_ge m n with hlt | hge
  · have hlti : (m : Int) < (n : Int) := by omega
    have hr := startsS_short (l := l) (cs := cs) (by rw [HN.out, HM.out]; exact hlt)
    rw [HR.out] at hr
    subst hr
    go_wp2_with fail
    go_ret
    exact ⟨rfl, grownBy_refl _ none⟩
  · have hgei : ¬ (m : Int) < (n : Int) := by omega
    go_wp2_with fail
    go_loopw [5] (fun kv wr => ∃ k : Nat, k ≤ n ∧ kv = .int .i64 (k : Int) ∧ (∀ (i : Nat) (x : It) (c : Int), i < k → l[i]? = some x → cs[i]? = some c → hasI x c = true) ∧ w.grownBy wr none) (fun kv _ => n - (RowKit.intOf kv).toNat)
    case atStart => exact ⟨0, Nat.zero_le _, rfl, fun i x c hi => by omega, grownBy_refl _ none⟩
    case round =>
      obtain ⟨k, hk, rfl, hall, hg⟩ := hrel
      rcases Nat.lt_or_ge k n with hlt | hge2
      · have hlti : (k : Int) < (n : Int) := by omega
        have hltm : (k : Int) < (m : Int) := by omega
        obtain ⟨x, hx⟩ : ∃ x, l[k]? = some x := ⟨_, List.getElem?_eq_getElem (by rw [HN.out]; exact hlt)⟩
        obtain ⟨v, hv⟩ : ∃ v, cs[k]? = some v := ⟨_, List.getElem?_eq_getElem (by rw [HM.out]; omega)⟩
        obtain ⟨qc, oc, rfl, hcc⟩ := int_at (l := cs) (by rw [HM.out]; exact HCS.out.kept hg nofun) hv
        obtain ⟨q, o, rfl, c0, c1, c2⟩ := it_cell (H.out.kept hg) hx
        have hset := (H.out.kept hg).2 x (List.mem_of_getElem? hx)
        have hxs := HSET.out x (List.mem_of_getElem? hx)
        have hask : ∀ u : World, wr.grownBy u none → Calls Tryd.prog 59 #[x.val, .int .i64 v] u fun e w' => e = .returned (.bool (hasI x v)) ∧ u.grownBy w' none := fun u hu => rhas_walk x v u hxs (hset.kept hu nofun)
        obtain ⟨r, hr⟩ : ∃ r, hasI x v = r := ⟨_, rfl⟩
        rw [hr] at hask
        unfold It.val at hask
        obtain ⟨xa, hxa⟩ : ∃ xa, x.any = xa := ⟨_, rfl⟩
        obtain ⟨xn, hxn⟩ : ∃ xn, x.neg = xn := ⟨_, rfl⟩
        obtain ⟨xs, hxs2⟩ : ∃ xs, x.S = xs := ⟨_, rfl⟩
        obtain ⟨xl, hxl⟩ : ∃ xl, x.set.length = xl := ⟨_, rfl⟩
        obtain ⟨xc, hxc⟩ : ∃ xc, x.cap = xc := ⟨_, rfl⟩
        rw [hxa] at c0 hask; rw [hxn] at c1 hask; rw [hxs2, hxl, hxc] at c2 hask
        have HASK := Lib.hid hask
        have HRR := Lib.hid hr
        have HXV := Lib.hid (And.intro hx hv)
        have HALL := Lib.hid hall
        have HG := Lib.hid hg
        clear hask hr hx hv hall hset hg hxa hxn hxs2 hxl hxc hxs
        go_upto_region 6 with (fail)
        go_still_tail 8, (by kernel_rfl)
        change wpList _ _ _ _ _ wr.drew
        have hgd := grownBy_drew (grownBy_refl wr none)
        have e0 : wr.drew.cell? _ = _ := c0
        have e1 : wr.drew.cell? _ = _ := c1
        have e2 : wr.drew.cell? _ = _ := c2
        have e3 : wr.drew.cell? _ = _ := hcc
        clear c0 c1 c2 hcc
        go_wp2_with fail
        refine (HASK.out _ hgd).mono ?_
        rintro e w2 ⟨rfl, hg2⟩
        have HG2 := Lib.hid (grownBy_trans (grownBy_drew HG.out) hg2 nofun)
        clear hg2 e0 e1 e2 e3
        cases r with
        | false =>
          have hF := startsS_false HXV.out.1 HXV.out.2 HRR.out
          rw [HR.out] at hF
          subst hF
          go_wp2_with fail
          go_ret
          exact ⟨rfl, HG2.out⟩
        | true =>
          go_wp2_with fail
          go_roundw
          case rel =>
            refine ⟨k + 1, by omega, by go_num, fun i y d hi hy hd => ?_, HG2.out⟩
            rcases Nat.lt_or_ge i k with h' | h'
            · exact HALL.out i y d h' hy hd
            · obtain rfl : i = k := by omega
              rw [HXV.out.1] at hy
              rw [HXV.out.2] at hd
              cases hy
              cases hd
              exact HRR.out
          case measure => simp [RowKit.intOf]; omega
      · obtain rfl : k = n := by omega
        have hT : startsS l cs = true := (startsS_iff (by rw [HN.out, HM.out]; exact hge)).2 fun i x c hx hc => hall i x c (by have := (List.getElem?_eq_some_iff.1 hx).1; rw [HN.out] at this; exact this) hx hc
        rw [HR.out] at hT
        subst hT
        have HG := Lib.hid hg
        clear hg hall
        go_wp2_with fail
        go_ret
        exact ⟨rfl, HG.out⟩

set_option maxRecDepth 100000 in
set_option maxHeartbeats 400000 in
theorem rends_walk (l : List It) (C : Option Addr) (n cap : Nat) (cs : List Int) (B : Option Addr) (m mc : Nat) (w : World) (hn : l.length = n) (hb : n ≤ 100000) (hset : ∀ x ∈ l, x.set.length ≤ 100000) (h : CondAt w C l) (hm : cs.length = m) (hmb : m ≤ 1000000) (hmc : m ≤ mc) (hcs : Sl w 1 B m (intCells cs)) :
    Calls Tryd.prog 47 #[.slice C n cap, .slice B m mc] w fun e w' => e = .returned (.bool (endsS l cs)) ∧ w.grownBy w' none := by
  have he : endsS l cs = (decide (n ≤ m) && startsS l (cs.drop (m - n))) := by unfold endsS; rw [hn, hm]
  rw [he]
  rcases Nat.lt_or_ge m n with hlt | hge
  · have hd : decide ((n : Int) ≤ (m : Int)) = false := decide_eq_false (by omega)
    rw [decide_eq_false (by omega), Bool.false_and]
    clear hn hm h hcs hset he
    go_enter Tryd.func47, Tryd.ntmps47
    go_wp2_with fail
    go_ret
    exact ⟨rfl, grownBy_refl _ none⟩
  · have hd : decide ((n : Int) ≤ (m : Int)) = true := decide_eq_true (by omega)
    rw [decide_eq_true hge, Bool.true_and]
    obtain ⟨j, hj⟩ : ∃ j, m - n = j := ⟨_, rfl⟩
    have hji : (m : Int) - (n : Int) = (j : Int) := by omega
    have hjw : IntKind.i64.wrap (j : Int) = (j : Int) := by rw [IntKind.wrap_i64]; omega
    have hjm : (j : Int) ≤ (m : Int) := by omega
    have hmmc : (m : Int) ≤ (mc : Int) := by omega
    have hmj : (m : Int) - (j : Int) = (n : Int) := by omega
    rw [hj]
    have hcs2 : ∀ B' : Option Addr, (0 < n → ∃ q o, B = some ⟨q, o, none⟩ ∧ B' = some ⟨q, o + j, none⟩) → Sl w 1 B' n (intCells (cs.drop j)) := fun B' hB' => by
      rcases Nat.eq_zero_or_pos n with rfl | h0
      · have : cs.drop j = [] := List.eq_nil_of_length_eq_zero (by rw [List.length_drop]; omega)
        rw [this]
        exact Sl.nil w 1 B'
      · obtain ⟨q, o, rfl, rfl⟩ := hB' h0
        have := Sl.drop1 hcs j (by omega) (some ⟨q, o + j, none⟩) (fun _ => rfl)
        rw [show m - j = n by omega] at this
        simpa [intCells, List.map_drop] using this
    have hst := fun (B' : Option Addr) (mc' : Nat) (hB' : 0 < n → ∃ q o, B = some ⟨q, o, none⟩ ∧ B' = some ⟨q, o + j, none⟩) => rstarts_walk l C n cap (cs.drop j) B' n mc' w hn hb hset h (by rw [List.length_drop]; omega) (by omega) (hcs2 B' hB')
    have HST := Lib.hid hst
    have hBm : 0 < m → ∃ q o, B = some ⟨q, o, none⟩ := fun h0 => by obtain ⟨q, o, e, _⟩ := hcs.2.2 h0; exact ⟨q, o, e⟩
    clear hn hm h hcs hset hcs2 hst he
    rcases Nat.eq_zero_or_pos m with h0 | h0
    · obtain rfl : n = 0 := by omega
      subst h0
      obtain rfl : j = 0 := by omega
      rcases B with _ | ⟨q, o, ix⟩
      all_goals
        go_enter Tryd.func47, Tryd.ntmps47
        go_wp2_with fail
        refine (HST.out _ _ (fun h => by omega)).mono ?_
        rintro e w1 ⟨rfl, hg⟩
        have HG := Lib.hid hg
        clear hg
        go_wp2_with fail
        go_ret
        exact ⟨rfl, HG.out⟩
    · obtain ⟨q, o, rfl⟩ := hBm h0
      rcases Nat.eq_zero_or_pos n with hn0 | hn0
      · subst hn0
        obtain rfl : j = m := by omega
        rcases Nat.lt_or_ge j mc with hlt | hge2
        · go_enter Tryd.func47, Tryd.ntmps47
          go_wp2_with fail
          refine (HST.out _ _ (fun h => by omega)).mono ?_
          rintro e w1 ⟨rfl, hg⟩
          have HG := Lib.hid hg
          clear hg
          go_wp2_with fail
          go_ret
          exact ⟨rfl, HG.out⟩
        · obtain rfl : mc = j := by omega
          go_enter Tryd.func47, Tryd.ntmps47
          go_wp2_with fail
          refine (HST.out _ _ (fun h => by omega)).mono ?_
          rintro e w1 ⟨rfl, hg⟩
          have HG := Lib.hid hg
          clear hg
          go_wp2_with fail
          go_ret
          exact ⟨rfl, HG.out⟩
      · go_enter Tryd.func47, Tryd.ntmps47
        go_wp2_with fail
        rw [show m - j = n by omega]
        refine (HST.out _ _ (fun h => ⟨q, o, rfl, rfl⟩)).mono ?_
        rintro e w1 ⟨rfl, hg⟩
        have HG := Lib.hid hg
        clear hg
        go_wp2_with fail
        go_ret
        exact ⟨rfl, HG.out⟩
end Go.Proofs.YtlbbjcggjmaehaaDoor
