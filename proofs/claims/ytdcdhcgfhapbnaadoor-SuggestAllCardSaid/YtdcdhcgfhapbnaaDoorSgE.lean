/-
  slices.DeleteFunc over offers: those without a word. Conditions: a row of at most 2^31 offers.
-/
import Derived.Test.YtdcdhcgfhapbnaaDoorSgD
namespace Go.Proofs.YtdcdhcgfhapbnaaDoor.Sg
open Go Go.RowKit

def keepO (l : List Of) : List Of := l.filter fun o => !emptyO o

/-- A row under way: what is kept, and what is still to be looked at. -/
structure DelRel (l : List Of) (g cap base : Nat) (w : World) (iv jv : Value) (wr : World) : Prop where
  out : ∃ (i j : Nat) (C : List Of), i < j ∧ j ≤ l.length ∧ iv = .int .i64 (i : Int) ∧ jv = .int .i64 (j : Int) ∧ C.length = l.length ∧ C.take i = keepO (l.take j) ∧ C.drop j = l.drop j ∧
    Offs wr base (.slice (some ⟨g, 0, none⟩) l.length cap) C ∧ w.grownBy wr (some g)

theorem keep_take {l : List Of} {j : Nat} (hj : j < l.length) : keepO (l.take (j + 1)) = if emptyO l[j] = true then keepO (l.take j) else keepO (l.take j) ++ [l[j]] := by
  unfold keepO
  rw [List.take_succ_eq_append_getElem hj, List.filter_append]
  by_cases h : emptyO l[j] = true
  · rw [if_pos h, List.filter_cons_of_neg (by simp [h])]
    simp
  · rw [if_neg h, List.filter_cons_of_pos (by simp [h])]
    rfl

theorem idx_some {l : List Of} {i : Nat} (h : l.findIdx? emptyO = some i) : i < l.length ∧ keepO (l.take (i + 1)) = l.take i ∧ idxO l = (i : Int) := by
  obtain ⟨h1, h2, h3⟩ := List.findIdx?_eq_some_iff_getElem.1 h
  refine ⟨h1, ?_, by unfold idxO; rw [h]⟩
  rw [keep_take h1, if_pos h2]
  refine List.filter_eq_self.2 fun x hx => ?_
  obtain ⟨j, hj, rfl⟩ := List.mem_iff_getElem.1 hx
  rw [List.length_take] at hj
  rw [List.getElem_take]
  have := h3 j (by omega)
  rw [Bool.not_eq_true] at this
  rw [this]
  rfl

theorem idx_none {l : List Of} (h : l.findIdx? emptyO = none) : keepO l = l ∧ idxO l = -1 := by
  refine ⟨List.filter_eq_self.2 fun x hx => ?_, by unfold idxO; rw [h]⟩
  have := List.findIdx?_eq_none_iff.1 h x hx
  rw [this]
  rfl

theorem offs_slice {w : World} {base : Nat} {v : Value} {l : List Of} (h : Offs w base v l) : ∃ A c, v = .slice A l.length c ∧ Sl w 2 A l.length (rowO l) := by
  have h' := h
  rcases h.2 with ⟨rfl, h0⟩ | ⟨q, cap, cur, rfl, _⟩
  · refine ⟨none, 0, by rw [h0], ?_⟩
    have hl : l = [] := List.eq_nil_of_length_eq_zero h0
    subst hl
    exact Sl.nil _ _ _
  · exact ⟨some ⟨q, 0, none⟩, cap, rfl, Sl.of_own h' (rowO_one l)⟩

theorem own_row {w : World} {base : Nat} {e : TypeId} {size n : Nat} {A : Option Addr} {c : Nat} {xs : List Value} (h : w.ownsRow base e size (.slice A n c) n xs) (hn : 0 < n) :
    ∃ q, A = some ⟨q, 0, none⟩ ∧ n ≤ c ∧ base ≤ q ∧ q < w.heap.size ∧ ∃ cur, w.heap[q]? = some (.cells cur e (0, 0)) ∧ cur.size = c * size := by
  rcases h.2 with ⟨_, h0⟩ | ⟨q, cap, cur, hv, hb, hh, hc, _, hs, _⟩
  · omega
  · cases hv
    exact ⟨q, rfl, hc, hb, heap_lt hh, cur, hh, hs⟩

theorem zero_offer : ∀ w, (zeroValue 41).run Tryd.prog w = .ok (.agg #[.string ⟨#[]⟩, .int .i64 0]) w := Tryd.zeroValue41

theorem zero_cells (n : Nat) : (Builtin.zeroCells (Value.agg #[.string ⟨#[]⟩, .int .i64 0]).cells n).toList.length = n * 2 ∧ ∀ x ∈ (Builtin.zeroCells (Value.agg #[.string ⟨#[]⟩, .int .i64 0]).cells n).toList, x.oneCell' = true := by
  have e : (Value.agg #[.string ⟨#[]⟩, .int .i64 0]).cells = #[.string ⟨#[]⟩, .int .i64 0] := rfl
  rw [e]
  constructor
  · simp [Builtin.zeroCells]
  · intro x hx
    simp only [Builtin.zeroCells, Array.toList_map, List.mem_map] at hx
    obtain ⟨i, _, rfl⟩ := hx
    have h2 : i % (#[Value.string ⟨#[]⟩, .int .i64 0] : Array Value).size = 0 ∨ i % (#[Value.string ⟨#[]⟩, .int .i64 0] : Array Value).size = 1 := by
      show i % 2 = 0 ∨ i % 2 = 1
      omega
    rcases h2 with h2 | h2 <;> rw [h2] <;> rfl

/-- 'clear' of a row's tail. -/
theorem clear_tail {w : World} {base g cap n m : Nat} {l : List Of} (h : w.ownsRow base 41 2 (.slice (some ⟨g, 0, none⟩) n cap) n (rowO l)) (hm : m < n) (c : Nat) : ∃ w', (∀ ty, (Builtin.clear_ #[29] ty #[.slice (some ⟨g, m * 2, none⟩) (n - m) c]).run Tryd.prog w = .ok (.tuple #[]) w') ∧
    w'.ownsRow base 41 2 (.slice (some ⟨g, 0, none⟩) m cap) m (rowO (l.take m)) ∧ w.grownBy w' (some g) := by
  obtain ⟨q, e, hnc, hb, hlt, cur, hh, hs⟩ := own_row h (by omega)
  cases e
  obtain ⟨z1, z2⟩ := zero_cells (n - m)
  refine ⟨_, fun ty => run_clear_any w _ 41 ty _ Tryd.underlying29 zero_offer g (m * 2) (n - m) c (by omega) z2 (fun j hj => ?_) (fun j _ => frozen_of_heap hh _), ?_, grownBy_setCells _ _ _ (grownBy_refl _ _)⟩
  · rw [z1] at hj
    rw [cell_of_heap hh, Array.getElem?_eq_getElem (by rw [hs]; omega)]
    rfl
  · have h2 := own_back h (Nat.le_of_lt hm)
    rw [rowO_take] at h2
    exact own_outs _ _ _ h2 (Nat.le_refl _)

set_option maxRecDepth 100000 in
set_option maxHeartbeats 2000000 in
theorem delete_walk {base : Nat} {v : Value} (l : List Of) (w : World) (hl : l.length ≤ 2147483648) (h : Offs w base v l) (hbw : base ≤ w.heap.size) :
    Calls Tryd.prog 30 #[v, .func (.func 31) #[] #[]] w fun e w' => ∃ A c, e = .returned (.slice A (keepO l).length c) ∧ Offs w' base (.slice A (keepO l).length c) (keepO l) ∧ w.grownBy w' v.ownBlock ∧ ((Value.slice A (keepO l).length c).ownBlock = v.ownBlock) := by
  obtain ⟨A, c, rfl, hsl⟩ := offs_slice h
  have H := Lib.hid h
  have hix := index_walk (c := c) l w hl hsl
  have HIX := Lib.hid hix
  clear h hix hsl
  go_enter Tryd.func30, Tryd.ntmps30
  go_wp2_with fail
  refine HIX.out.mono ?_
  rintro e w2 ⟨rfl, hg2⟩
  have HG2 := Lib.hid hg2
  have H2 := Lib.hid (ownsRow_kept H.out hg2 (own_none _))
  clear hg2 HIX
  have hm1 : IntKind.i64.wrap (-1) = -1 := by decide
  cases hf : l.findIdx? emptyO with
  | none =>
    obtain ⟨k1, k2⟩ := idx_none hf
    rw [k2]
    have HK := Lib.hid k1
    clear k1 k2 hf
    have HG3 := Lib.hid (grownBy_trans (grownBy_refl w (Value.slice A l.length c).ownBlock) HG2.out nofun)
    go_wp2_with fail
    go_ret
    rw [HK.out]
    exact ⟨A, c, rfl, H2.out, HG3.out, rfl⟩
  | some i0 =>
    obtain ⟨k1, k2, k3⟩ := idx_some hf
    rw [k3]
    obtain ⟨g, rfl, hnc, hbg, hgw, cur, hh, hs⟩ := own_row H.out (by omega)
    have hne : ((i0 : Int) == -1) = false := by rw [beq_eq_false_iff_ne]; omega
    have HK1 := Lib.hid k1
    have HK2 := Lib.hid k2
    have hw1 : IntKind.i64.wrap ((i0 : Int) + 1) = (i0 : Int) + 1 := by rw [IntKind.wrap_i64]; omega
    have HGW := Lib.hid hgw
    clear hf k1 k2 k3 hh hs cur hnc hgw
    go_wp2_with fail
    go_loopw [5, 6] (fun iv jv wr => DelRel l g c base w iv jv wr) (fun _ jv _ => l.length - (RowKit.intOf jv).toNat)
    case atStart => exact ⟨i0, i0 + 1, l, by omega, HK1.out, rfl, by simp, rfl, HK2.out.symm, rfl, H2.out, grownBy_trans (grownBy_refl w (some g)) HG2.out nofun⟩
    case round =>
      obtain ⟨i, j, C, hij, hj, rfl, rfl, hC, hCi, hCj, hof, hgr⟩ := hrel.out
      have hown : wr.ownsRow base 41 2 (.slice (some ⟨g, 0, none⟩) l.length c) l.length (rowO C) := by
        have h5 := hof
        unfold Offs at h5
        rw [hC] at h5
        exact h5
      rcases Nat.lt_or_ge j l.length with hlt | hge
      · have hltI : (j : Int) < (l.length : Int) := Int.ofNat_lt.2 hlt
        have hjC : j < C.length := by omega
        have hel : C[j] = l[j] := by
          have h5 : (C.drop j)[0]? = (l.drop j)[0]? := by rw [hCj]
          rw [List.getElem?_drop, List.getElem?_drop, Nat.add_zero, List.getElem?_eq_getElem hjC, List.getElem?_eq_getElem hlt] at h5
          exact Option.some.inj h5
        obtain ⟨r0, r1⟩ := rowO_at C j hjC
        rw [hel] at r0 r1
        have x0 := hown.cells (g := g) rfl _ _ r0
        have x1 := hown.cells (g := g) rfl _ _ r1
        rw [Addr.add_lit, Nat.zero_add] at x0 x1
        obtain ⟨_, e, _, _, hgr2, cur, hh, hs⟩ := own_row hown (by omega)
        cases e
        have hem := fun w => empty_walk l[j] w
        have hkt := keep_take hlt
        have hiI : (i : Int) < (l.length : Int) := by omega
        have hwi : IntKind.i64.wrap ((i : Int) + 1) = (i : Int) + 1 := by rw [IntKind.wrap_i64]; omega
        have hwj : IntKind.i64.wrap ((j : Int) + 1) = (j : Int) + 1 := by rw [IntKind.wrap_i64]; omega
        have HIJ := Lib.hid (And.intro hij (And.intro hC (And.intro hCi hCj)))
        have HOWN := Lib.hid hown
        have HGR := Lib.hid hgr
        have hCj1 : C.drop (j + 1) = l.drop (j + 1) := by
          rw [← List.drop_drop, ← List.drop_drop, hCj]
        have HCJ := Lib.hid hCj1
        have hgn := hgr.size
        by_cases he : emptyO l[j] = true
        · have he' : l[j].1.isEmpty = true := he
          rw [if_pos he] at hkt
          simp only [he'] at hem
          have HKT := Lib.hid hkt
          generalize l[j] = s at *
          clear hel r0 r1 hkt he he' hof hown hgr hij hC hCi hCj hCj1 hh hs
          go_upto_region 8 with (fail)
          have hA7 := heap_new wr (ofO s)
          have hg7 := grownBy_alloc (grownBy_refl wr none) (ofO s)
          generalize hw7 : wr.alloc (ofO s) = w7 at *
          generalize hob : wr.heap.size = ob at hA7 ⊢
          have a0 := cell_of_heap hA7 0
          have a1 := cell_of_heap hA7 1
          have HG7 := Lib.hid hg7
          clear hA7 hg7 hw7 hob x0 x1
          go_wp2_with fail
          refine (hem _).mono ?_
          rintro e w9 ⟨rfl, hg9⟩
          have hgg := grownBy_trans HG7.out hg9 nofun
          have HG9 := Lib.hid (grownBy_trans HGR.out hgg nofun)
          have HO9 := Lib.hid (ownsRow_kept HOWN.out hgg (own_none _))
          clear hg9 hgg
          go_wp2_with fail
          go_roundw
          case rel => exact ⟨i, j + 1, C, by have := HIJ.out.1; omega, hlt, rfl, by simp, HIJ.out.2.1, by rw [HKT.out]; exact HIJ.out.2.2.1, HCJ.out, by have h5 := HO9.out; unfold Offs; rw [HIJ.out.2.1]; exact h5, HG9.out⟩
          case measure => exact meas hlt
        · have he' : l[j].1.isEmpty = false := Bool.eq_false_iff.2 he
          rw [if_neg he] at hkt
          simp only [he'] at hem
          have hiC : i < C.length := by omega
          have hset := rowO_set C i l[j] hiC
          have HKT := Lib.hid hkt
          have HSET := Lib.hid hset
          generalize l[j] = s at *
          clear hel r0 r1 hkt he he' hof hown hgr hij hC hCi hCj hCj1 hh hs hset
          go_upto_region 8 with (fail)
          have hA7 := heap_new wr (ofO s)
          have hg7 := grownBy_alloc (grownBy_refl wr none) (ofO s)
          generalize hw7 : wr.alloc (ofO s) = w7 at *
          generalize hob : wr.heap.size = ob at hA7 ⊢
          have a0 := cell_of_heap hA7 0
          have a1 := cell_of_heap hA7 1
          have HG7 := Lib.hid hg7
          have HA7 := Lib.hid hA7
          clear hA7 hg7 hw7 hob x0 x1
          go_wp2_with fail
          refine (hem _).mono ?_
          rintro e w9 ⟨rfl, hg9⟩
          have hgg := grownBy_trans HG7.out hg9 nofun
          have hg10 := grownBy_trans HGR.out hgg nofun
          have ho9 := ownsRow_kept HOWN.out hgg (own_none _)
          have hA9 := grownBy_heap hg9 HA7.out nofun
          clear a0 a1
          have a0 := cell_of_heap hA9 0
          have a1 := cell_of_heap hA9 1
          obtain ⟨_, e, _, _, _, cur9, hh9, hs9⟩ := own_row ho9 (by omega)
          cases e
          have f0 := frozen_of_heap hh9 (i * 2)
          have f1 := frozen_of_heap hh9 (i * 2 + 1)
          obtain ⟨u0, y0⟩ : ∃ u, w9.cell? ⟨g, i * 2, none⟩ = some u := ⟨_, by rw [cell_of_heap hh9, Array.getElem?_eq_getElem (by rw [hs9]; omega)]⟩
          obtain ⟨u1, y1⟩ : ∃ u, w9.cell? ⟨g, i * 2 + 1, none⟩ = some u := ⟨_, by rw [cell_of_heap hh9, Array.getElem?_eq_getElem (by rw [hs9]; omega)]⟩
          have hst := own_set (own_set ho9 (i * 2) (by omega) (.string ⟨s.1.toArray⟩)) (i * 2 + 1) (by omega) (.int .i64 (s.2 : Int))
          rw [HSET.out] at hst
          have hgs := grownBy_setCell (grownBy_setCell hg10 g (i * 2) (.string ⟨s.1.toArray⟩) (.inl rfl)) g (i * 2 + 1) (.int .i64 (s.2 : Int)) (.inl rfl)
          have HST := Lib.hid hst
          have HGS := Lib.hid hgs
          clear hg9 hgg hg10 ho9 hA9 hh9 hs9 hst hgs
          go_wp2_with fail
          go_roundw
          case rel => exact ⟨i + 1, j + 1, C.set i s, by have := HIJ.out.1; omega, hlt, by simp, by simp, by rw [List.length_set]; exact HIJ.out.2.1, by
            rw [HKT.out, ← HIJ.out.2.2.1, List.take_add_one, List.take_set_of_le (Nat.le_refl _), List.getElem?_set_self (by rw [HIJ.out.2.1]; omega)]
            rfl, by
            rw [List.drop_set_of_lt (by have := HIJ.out.1; omega)]
            exact HCJ.out, by have h5 := HST.out; unfold Offs; rw [List.length_set, HIJ.out.2.1]; exact h5, HGS.out⟩
          case measure => exact meas hlt
      · have hjl : j = l.length := by omega
        subst hjl
        rw [List.take_length] at hCi
        have hil : (keepO l).length = i := by rw [← hCi, List.length_take]; omega
        have hb : ¬ (l.length : Int) < (l.length : Int) := by omega
        have hiI : (i : Int) ≤ (l.length : Int) := by omega
        obtain ⟨_, e, hnc, _⟩ := own_row hown (by omega)
        cases e
        have hci : ¬ (c = i) := by omega
        have hicI : (i : Int) ≤ (c : Int) := by omega
        obtain ⟨w11, hcl, hof2, hg2⟩ := clear_tail hown hij (c - i)
        rw [hCi] at hof2
        have HIL := Lib.hid hil
        have HOF := Lib.hid hof2
        have HGG := Lib.hid (grownBy_trans hgr hg2 (fun _ h => .inl h))
        clear hil hof2 hg2 hown hof hgr hCi hCj hC hj
        go_wp2_with fail
        go_ret
        refine ⟨some ⟨g, 0, none⟩, c, by rw [HIL.out]; rfl, ?_, HGG.out, rfl⟩
        unfold Offs
        rw [HIL.out]
        exact HOF.out
end Go.Proofs.YtdcdhcgfhapbnaaDoor.Sg
