/-
  cond.Ends: the walk. Conditions: at most 100000 items of at most 100000 codes.
-/
import Derived.Test.YtlbbjcggjmaehaaDoorCond
namespace Go.Proofs.YtlbbjcggjmaehaaDoor
open Go Go.RowKit Go.Maps

theorem Sl.drop1 {w : World} {q o m : Nat} {cs : List Value} (h : Sl w 1 (some ⟨q, o, none⟩) m cs) (j : Nat) (hj : j ≤ m) (B : Option Addr) (hB : 0 < m - j → B = some ⟨q, o + j, none⟩) : Sl w 1 B (m - j) (cs.drop j) := by
  refine ⟨?_, fun x hx => h.2.1 x (List.mem_of_mem_drop hx), fun h0 => ?_⟩
  · have := h.1
    rw [List.length_drop]; omega
  · obtain ⟨q', o', e, hc⟩ := h.2.2 (by omega)
    cases e
    refine ⟨q, o + j, hB h0, fun i u hu => ?_⟩
    rw [List.getElem?_drop] at hu
    have := hc _ _ hu
    rw [Nat.add_assoc]; exact this

set_option maxRecDepth 100000 in
set_option maxHeartbeats 400000 in
theorem ends_walk (l : List It) (C : Option Addr) (n cap : Nat) (cs : List Int) (B : Option Addr) (m mc : Nat) (w : World) (hn : l.length = n) (hb : n ≤ 100000) (hset : ∀ x ∈ l, x.set.length ≤ 100000) (h : CondAt w C l) (hm : cs.length = m) (hmb : m ≤ 1000000) (hmc : m ≤ mc) (hcs : Sl w 1 B m (intCells cs)) :
    Calls Tryd.prog 64 #[.slice C n cap, .slice B m mc] w fun e w' => e = .returned (.bool (endsS l cs)) ∧ w.grownBy w' none := by
  have he : endsS l cs = (decide (n ≤ m) && startsS l (cs.drop (m - n))) := by unfold endsS; rw [hn, hm]
  rw [he]
  rcases Nat.lt_or_ge m n with hlt | hge
  · have hd : decide ((n : Int) ≤ (m : Int)) = false := decide_eq_false (by omega)
    rw [decide_eq_false (by omega), Bool.false_and]
    clear hn hm h hcs hset he
    go_enter Tryd.func64, Tryd.ntmps64
    go_wp2_with fail
    go_ret
    exact ⟨rfl, grownBy_refl _ none⟩
  · have hd : decide ((n : Int) ≤ (m : Int)) = true := decide_eq_true (by omega)
    rw [decide_eq_true hge, Bool.true_and]
    obtain ⟨j, hj⟩ : ∃ j, m - n = j := ⟨_, rfl⟩
    have hji : (m : Int) - (n : Int) = (j : Int) := by omega
    have hjw : IntKind.i64.wrap (j : Int) = (j : Int) := by rw [IntKind.wrap_i64]; omega
    have hjm : (j : Int) ≤ (m : Int) := by omega
    have hmmc : (m : Int) ≤ (mc : Int) := by omega
    have hmj : (m : Int) - (j : Int) = (n : Int) := by omega
    rw [hj]
    have hcs2 : ∀ B' : Option Addr, (0 < n → ∃ q o, B = some ⟨q, o, none⟩ ∧ B' = some ⟨q, o + j, none⟩) → Sl w 1 B' n (intCells (cs.drop j)) := fun B' hB' => by
      rcases Nat.eq_zero_or_pos n with rfl | h0
      · have : cs.drop j = [] := List.eq_nil_of_length_eq_zero (by rw [List.length_drop]; omega)
        rw [this]
        exact Sl.nil w 1 B'
      · obtain ⟨q, o, rfl, rfl⟩ := hB' h0
        have := Sl.drop1 hcs j (by omega) (some ⟨q, o + j, none⟩) (fun _ => rfl)
        rw [show m - j = n by omega] at this
        simpa [intCells, List.map_drop] using this
    have hst := fun (B' : Option Addr) (mc' : Nat) (hB' : 0 < n → ∃ q o, B = some ⟨q, o, none⟩ ∧ B' = some ⟨q, o + j, none⟩) => starts_walk l C n cap (cs.drop j) B' n mc' w hn hb hset h (by rw [List.length_drop]; omega) (by omega) (hcs2 B' hB')
    have HST := Lib.hid hst
    have hBm : 0 < m → ∃ q o, B = some ⟨q, o, none⟩ := fun h0 => by obtain ⟨q, o, e, _⟩ := hcs.2.2 h0; exact ⟨q, o, e⟩
    clear hn hm h hcs hset hcs2 hst he
    rcases Nat.eq_zero_or_pos m with h0 | h0
    · obtain rfl : n = 0 := by omega
      subst h0
      obtain rfl : j = 0 := by omega
      rcases B with _ | ⟨q, o, ix⟩
      all_goals
        go_enter Tryd.func64, Tryd.ntmps64
        go_wp2_with fail
        refine (HST.out _ _ (fun h => by omega)).mono ?_
        rintro e w1 ⟨rfl, hg⟩
        have HG := Lib.hid hg
        clear hg
        go_wp2_with fail
        go_ret
        exact ⟨rfl, HG.out⟩
    · obtain ⟨q, o, rfl⟩ := hBm h0
      rcases Nat.eq_zero_or_pos n with hn0 | hn0
      · subst hn0
        obtain rfl : j = m := by omega
        rcases Nat.lt_or_ge j mc with hlt | hge2
        · go_enter Tryd.func64, Tryd.ntmps64
          go_wp2_with fail
          refine (HST.out _ _ (fun h => by omega)).mono ?_
          rintro e w1 ⟨rfl, hg⟩
          have HG := Lib.hid hg
          clear hg
          go_wp2_with fail
          go_ret
          exact ⟨rfl, HG.out⟩
        · obtain rfl : mc = j := by omega
          go_enter Tryd.func64, Tryd.ntmps64
          go_wp2_with fail
          refine (HST.out _ _ (fun h => by omega)).mono ?_
          rintro e w1 ⟨rfl, hg⟩
          have HG := Lib.hid hg
          clear hg
          go_wp2_with fail
          go_ret
          exact ⟨rfl, HG.out⟩
      · go_enter Tryd.func64, Tryd.ntmps64
        go_wp2_with fail
        rw [show m - j = n by omega]
        refine (HST.out _ _ (fun h => ⟨q, o, rfl, rfl⟩)).mono ?_
        rintro e w1 ⟨rfl, hg⟩
        have HG := Lib.hid hg
        clear hg
        go_wp2_with fail
        go_ret
        exact ⟨rfl, HG.out⟩
end Go.Proofs.YtlbbjcggjmaehaaDoor
