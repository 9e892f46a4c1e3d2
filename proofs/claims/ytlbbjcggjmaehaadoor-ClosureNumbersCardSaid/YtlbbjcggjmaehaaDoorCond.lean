/-
  cond.Starts, cond.Ends: the walks. Conditions: at most 100000 items of at most 100000 codes.
-/
import Derived.Test.YtlbbjcggjmaehaaDoorAsks
import Derived.Test.YtlbbjcggjmaehaaDoorShelf
import Derived.StillTailTactics
namespace Go.Proofs.YtlbbjcggjmaehaaDoor
open Go Go.RowKit Go.Maps

theorem contains_walk (l : List Int) (x : Int) (A : Option Addr) (n c : Nat) (w : World) (hn : l.length = n) (hb : n ≤ 100000) (h : Sl w 1 A n (intCells l)) :
    Calls Tryd.prog 37 #[.slice A n c, .int .i64 x] w fun e w' => e = .returned (.bool (l.contains x)) ∧ w' = w := by
  rcases Nat.eq_zero_or_pos n with rfl | h0
  · have : l = [] := List.eq_nil_of_length_eq_zero hn
    subst this
    exact Tryd.slices_Contains_int_empty A c x w
  · obtain ⟨q, o, rfl, hc⟩ := h.2.2 h0
    have := Tryd.slices_Contains_int q o n c l x w (by omega) (by omega) (fun j hj => by
      refine hc j _ ?_
      rw [intCells, List.getElem?_map, List.getD_eq_getElem?_getD, List.getElem?_eq_getElem hj]; rfl)
    rw [← hn, List.take_length] at this
    rw [← hn]; exact this

set_option maxRecDepth 100000 in
set_option maxHeartbeats 1000000 in
/-- The question that an item asks. -/
theorem ask_walk (x : It) (b : Nat) (v : Int) (w : World) (hb : x.set.length ≤ 100000) (hx : w.heap[b]? = some (itObj x)) (hs : Sl w 1 x.S x.set.length (intCells x.set)) :
    Calls Tryd.prog 90 #[.int .i64 v, .pointer (some ⟨b, 0, none⟩)] w fun e w' => e = .returned (.bool (hasI x v)) ∧ ∃ n, w' = w.drewN n := by
  obtain ⟨a, neg, S, cap, set⟩ := x
  simp only at hb hs
  obtain ⟨n, hn⟩ : ∃ n, set.length = n := ⟨_, rfl⟩
  have hx' : w.heap[b]? = some (.cells #[.bool a, .bool neg, .slice S n cap] 48 (0, 0)) := by rw [← hn]; exact hx
  have c0 := cell_of_heap hx' 0
  have c1 := cell_of_heap hx' 1
  have c2 := cell_of_heap hx' 2
  rw [hn] at hs hb
  obtain ⟨k, hk⟩ : ∃ k, set.contains v = k := ⟨_, rfl⟩
  have hcon := fun u => contains_walk set v S n cap u hn hb
  rw [hk] at hcon
  have HC := Lib.hid hcon
  have HS := Lib.hid hs
  have he : hasI ⟨a, neg, S, cap, set⟩ v = (a || (k != neg)) := by unfold hasI; rw [← hk]
  rw [he]
  clear hx hx' hcon hs he hk hn
  go_enter Tryd.func90, Tryd.ntmps90
  go_upto_region 1 with (fail)
  cases a with
  | true =>
    go_quiet (fail)
    go_wp2_with fail
    go_ret
    exact ⟨rfl, _, rfl⟩
  | false =>
    cases k <;> cases neg
    all_goals
      go_quiet (first | (go_at_call 37; refine Calls.quiet_of_same (HC.out _ ?_); exact HS.out.kept (grownBy_drewN (grownBy_refl _ none) _) nofun))
      go_wp2_with fail
      go_ret
      exact ⟨rfl, _, rfl⟩

theorem startsS_false {l : List It} {cs : List Int} {i : Nat} {x : It} {c : Int} (hx : l[i]? = some x) (hc : cs[i]? = some c) (h : hasI x c = false) : startsS l cs = false := by
  rcases Nat.lt_or_ge cs.length l.length with hl | hl
  · exact startsS_short hl
  · cases hs : startsS l cs with
    | false => rfl
    | true => rw [(startsS_iff hl).1 hs i x c hx hc] at h; cases h

set_option maxRecDepth 100000 in
set_option maxHeartbeats 2000000 in
theorem starts_walk (l : List It) (C : Option Addr) (n cap : Nat) (cs : List Int) (B : Option Addr) (m mc : Nat) (w : World) (hn : l.length = n) (hb : n ≤ 100000) (hset : ∀ x ∈ l, x.set.length ≤ 100000) (h : CondAt w C l) (hm : cs.length = m) (hmb : m ≤ 1000000) (hcs : Sl w 1 B m (intCells cs)) :
    Calls Tryd.prog 62 #[.slice C n cap, .slice B m mc] w fun e w' => e = .returned (.bool (startsS l cs)) ∧ w.grownBy w' none := by
  obtain ⟨R, hR⟩ : ∃ R, startsS l cs = R := ⟨_, rfl⟩
  rw [hR]
  have HN := Lib.hid hn
  have HM := Lib.hid hm
  have HR := Lib.hid hR
  have H := Lib.hid h
  have HCS := Lib.hid hcs
  have HSET := Lib.hid hset
  clear hn hm hR h hcs hset
  go_enter Tryd.func62, Tryd.ntmps62
  rcases Nat.lt_or_ge m n with hlt | hge
  · have hlti : (m : Int) < (n : Int) := by omega
    have hr := startsS_short (l := l) (cs := cs) (by rw [HN.out, HM.out]; exact hlt)
    rw [HR.out] at hr
    subst hr
    go_wp2_with fail
    go_ret
    exact ⟨rfl, grownBy_refl _ none⟩
  · have hgei : ¬ (m : Int) < (n : Int) := by omega
    go_wp2_with fail
    refine (asks_walk l C n cap w HN.out hb H.out).mono ?_
    rintro e w1 ⟨bs, A, c, rfl, hown, hin, hg1⟩
    rw [HN.out] at hown ⊢
    have HO := Lib.hid hown
    have HIN := Lib.hid hin
    have HG1 := Lib.hid hg1
    clear hown hin hg1
    go_wp2_with fail
    go_loopw [15] (fun kv wr => ∃ k : Nat, k ≤ n ∧ kv = .int .i64 (k : Int) ∧ (∀ (i : Nat) (x : It) (c : Int), i < k → l[i]? = some x → cs[i]? = some c → hasI x c = true) ∧ w1.grownBy wr none) (fun kv _ => n - (RowKit.intOf kv).toNat)
    case atStart => exact ⟨0, Nat.zero_le _, rfl, fun i x c hi => by omega, grownBy_refl _ none⟩
    case round =>
      obtain ⟨k, hk, rfl, hall, hg⟩ := hrel
      rcases Nat.lt_or_ge k n with hlt | hge2
      · have hlti : (k : Int) < (n : Int) := by omega
        have hltm : (k : Int) < (m : Int) := by omega
        obtain ⟨x, hx⟩ : ∃ x, l[k]? = some x := ⟨_, List.getElem?_eq_getElem (by rw [HN.out]; exact hlt)⟩
        obtain ⟨v, hv⟩ : ∃ v, cs[k]? = some v := ⟨_, List.getElem?_eq_getElem (by rw [HM.out]; omega)⟩
        have hbl : bs.length = n := by rw [HIN.out.1, HN.out]
        obtain ⟨b, hb'⟩ : ∃ b, bs[k]? = some b := ⟨_, List.getElem?_eq_getElem (by omega)⟩
        have hob := grownBy_heap hg (HIN.out.2 k b x hb' hx) nofun
        have hou := ownsRow_kept HO.out hg (own_none _)
        obtain ⟨q2, c2, e2, _⟩ := own_form hou (by omega)
        cases e2
        have hcell := hou.cells (g := q2) rfl k (askV b) (by rw [askCells, List.getElem?_map, hb']; rfl)
        rw [Addr.add_lit, Nat.zero_add] at hcell
        have hgall := grownBy_trans HG1.out hg nofun
        obtain ⟨qc, oc, rfl, hcc⟩ := int_at (l := cs) (by rw [HM.out]; exact HCS.out.kept hgall nofun) hv
        have hga := World.grownBy_alloc wr (.cells #[askV b] 119) none
        have hset := (H.out.kept hgall).2 x (List.mem_of_getElem? hx)
        have hask : ∀ q, Calls Tryd.prog 90 #[.int .i64 v, .pointer (some ⟨b, 0, none⟩)] ((wr.alloc (.cells #[askV b] 119)).drewN q) fun e w' => e = .returned (.bool (hasI x v)) ∧ ∃ n, w' = ((wr.alloc (.cells #[askV b] 119)).drewN q).drewN n := fun q =>
          ask_walk x b v _ (HSET.out x (List.mem_of_getElem? hx)) (grownBy_heap (grownBy_drewN hga q) hob nofun) (hset.kept (grownBy_drewN hga q) nofun)
        obtain ⟨r, hr⟩ : ∃ r, hasI x v = r := ⟨_, rfl⟩
        rw [hr] at hask
        have hc2 := hga.cell hcc nofun
        have HASK := Lib.hid hask
        have HRR := Lib.hid hr
        have HXV := Lib.hid (And.intro hx hv)
        have HALL := Lib.hid hall
        have HGA := Lib.hid (grownBy_trans hg hga nofun)
        clear hask hr hx hv hall hga hgall hset hob hou hb' hcc hg hbl
        unfold askV at hcell hc2
        go_upto_region 6 with (fail)
        cases r with
        | false =>
          go_quiet (first | (go_at_call 90; exact Calls.quiet_of (HASK.out _)))
          have hF := startsS_false HXV.out.1 HXV.out.2 HRR.out
          rw [HR.out] at hF
          subst hF
          go_wp2_with fail
          go_ret
          exact ⟨rfl, grownBy_trans HG1.out (grownBy_drewN HGA.out _) nofun⟩
        | true =>
          go_quiet (first | (go_at_call 90; exact Calls.quiet_of (HASK.out _)))
          go_wp2_with fail
          go_roundw
          case rel =>
            refine ⟨k + 1, by omega, by go_num, fun i y d hi hy hd => ?_, grownBy_drewN HGA.out _⟩
            rcases Nat.lt_or_ge i k with h' | h'
            · exact HALL.out i y d h' hy hd
            · obtain rfl : i = k := by omega
              rw [HXV.out.1] at hy
              rw [HXV.out.2] at hd
              cases hy
              cases hd
              exact HRR.out
          case measure => simp [RowKit.intOf]; omega
      · obtain rfl : k = n := by omega
        have hT : startsS l cs = true := (startsS_iff (by rw [HN.out, HM.out]; exact hge)).2 fun i x c hx hc => hall i x c (by have := (List.getElem?_eq_some_iff.1 hx).1; rw [HN.out] at this; exact this) hx hc
        rw [HR.out] at hT
        subst hT
        have HG := Lib.hid hg
        clear hg hall
        go_wp2_with fail
        go_ret
        exact ⟨rfl, grownBy_trans HG1.out HG.out nofun⟩
end Go.Proofs.YtlbbjcggjmaehaaDoor
