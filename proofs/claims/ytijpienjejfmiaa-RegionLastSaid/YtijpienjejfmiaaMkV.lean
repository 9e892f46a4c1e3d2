/-
  Marks' over: the spans that begin at a place at most, and end at a place at least: the walk. No conditions beyond those that the law names.
-/
import Derived.Test.YtijpienjejfmiaaMkK
import Derived.Test.YtijpienjejfmiaaMkO
import Derived.Test.YtijpienjejfmiaaSl
namespace Go.Proofs.Ytijpienjejfmiaa
open Go Go.RowKit

/-- Spans as cells. -/
def rowS : List Sp → List Value
  | [] => []
  | s :: l => .int .i64 s.a :: .int .i64 s.b :: .int .i64 s.k :: rowS l

theorem rowS_append : ∀ (l m : List Sp), rowS (l ++ m) = rowS l ++ rowS m
  | [], _ => rfl
  | s :: l, m => by show _ :: _ :: _ :: rowS (l ++ m) = _; rw [rowS_append l m]; rfl
theorem rowS_length : ∀ l : List Sp, (rowS l).length = l.length * 3
  | [] => rfl
  | s :: l => by show (rowS l).length + 1 + 1 + 1 = (l.length + 1) * 3; rw [rowS_length l]; omega
theorem rowS_one : ∀ (l : List Sp), ∀ x ∈ rowS l, x.oneCell' = true
  | [], _, h => by cases h
  | s :: l, x, h => by
    rcases List.mem_cons.1 h with rfl | h
    · rfl
    · rcases List.mem_cons.1 h with rfl | h
      · rfl
      · rcases List.mem_cons.1 h with rfl | h
        · rfl
        · exact rowS_one l x h

/-- A row of spans of the call's own. -/
abbrev Spans (w : World) (base : Nat) (v : Value) (l : List Sp) : Prop := w.ownsRow base 25 3 v l.length (rowS l)

theorem own_only {w w' : World} {base : Nat} {e : TypeId} {size : Nat} {v : Value} {n : Nat} {xs : List Value} {B : List Nat} (h : w.ownsRow base e size v n xs) (g : Only B w w') (hb : ∀ k, v.ownBlock = some k → k ∉ B) : w'.ownsRow base e size v n xs := by
  refine ⟨h.1, ?_⟩
  rcases h.2 with ⟨h1, h2⟩ | ⟨q, cap, cur, rfl, h3, h4, h5⟩
  · exact .inl ⟨h1, h2⟩
  · exact .inr ⟨q, cap, cur, rfl, h3, g.heap h4 (hb q rfl), h5⟩

theorem own_slice {w : World} {base : Nat} {v : Value} {l : List Sp} (h : Spans w base v l) : ∃ A c, v = .slice A l.length c ∧ Sl w 3 A l.length (rowS l) := by
  have h' := h
  rcases h.2 with ⟨rfl, h0⟩ | ⟨q, cap, cur, rfl, _⟩
  · refine ⟨none, 0, by rw [h0], ?_⟩
    have hl : l = [] := List.eq_nil_of_length_eq_zero h0
    subst hl
    exact Sl.nil _ _ _
  · exact ⟨some ⟨q, 0, none⟩, cap, rfl, Sl.of_own h' (rowS_one l)⟩

/-- What looking leaves of a tree: the same spans. -/
structure SameRes (t t' : Tr) (tb mb : Nat) (rv p0 p1 : Value) (w w' : World) : Prop where
  lay : Lay w' t'
  good : Good t'
  spans : flat t' = flat t
  same : blks t' = blks t
  addr : addrT t' = addrT t
  high : highT t' = highT t
  tr : ∃ st', TrAt w' tb mb rv p0 p1 st'
  only : Only (mb :: blks t) w w'

theorem Good.same {b : Nat} {l r l' r' : Tr} {s : Sp} {h c m : Int} (hg : Good (.node b l r s h c m 0)) (hl : Good l') (hr : Good r') (fl : flat l' = flat l) (fr : flat r' = flat r) (el : highT l' = highT l) (er : highT r' = highT r) : Good (.node b l' r' s h c m 0) := by
  have hf : flat (.node b l' r' s h c m 0) = flat (.node b l r s h c m 0) := by rw [flat_node0, flat_node0, fl, fr]
  obtain ⟨⟨t1, t2, t3, t4, _, _⟩, ho, hs, hp, hn⟩ := hg
  refine ⟨⟨by rw [el, er]; exact t1, by rw [hf]; exact t2, by rw [hf]; exact t3, by rw [hf]; exact t4, hl.tells, hr.tells⟩, by rw [hf]; exact ho, ⟨hs.1, hl.stl, hr.stl⟩, by rw [hf]; exact hp, by rw [hf]; exact hn⟩

theorem NodeA.to {b : Nat} {l r l' r' : Tr} {s : Sp} {h c m wt : Int} {u : World} (hn : NodeA b l r s h c m wt u) (el : addrT l' = addrT l) (er : addrT r' = addrT r) : u.heap[b]? = some (.cells (nodeC l' r' s h c m wt) 71 (0, 0)) := by
  unfold NodeA at hn
  unfold nodeC
  rw [show ptrV l' = ptrV l from congrArg Value.pointer el, show ptrV r' = ptrV r from congrArg Value.pointer er]
  exact hn

theorem span_info : (Try.prog.info? 25).map (fun i => (i.zero, i.size, i.bytes)) = some (some (.agg #[.int .i64 0, .int .i64 0, .int .i64 0]), 3, 24) := by kernel_rfl

theorem over_node {b : Nat} {l r : Tr} {s : Sp} {h c m : Int} {f t : Int} (hg : Good (.node b l r s h c m 0)) :
    overS f t (flat (.node b l r s h c m 0)) = if s.a ≤ f then overS f t (flat l) ++ (if t ≤ s.b then [s] else []) ++ overS f t (flat r) else overS f t (flat l) := by
  obtain ⟨_, _, _, o1, o2, _⟩ := hg.sides
  rw [flat_node0, overS_append, overS_append]
  by_cases h1 : s.a ≤ f
  · rw [if_pos h1]
    by_cases h2 : t ≤ s.b
    · rw [if_pos h2]; simp [overS, h1, h2]
    · rw [if_neg h2]; simp [overS, h2]
  · rw [if_neg h1, overS_late (l := flat r) (fun x hx => by have := lt_a (o2 x hx); omega)]
    simp [overS, h1]

theorem overS_length (f t : Int) (l : List Sp) : (overS f t l).length ≤ l.length := List.length_filter_le ..

set_option maxRecDepth 100000 in
set_option maxHeartbeats 2000000 in
theorem over_walk {tb mb : Nat} {rv p0 p1 : Value} (f g : Int) (hto : 0 ≤ g) : ∀ (n : Nat) (t : Tr) (st : Int) (w : World), (blks t).length ≤ n → Good t → Lay w t → (blks t).Nodup → TrAt w tb mb rv p0 p1 st → tb ∉ blks t → mb ∉ blks t →
    Calls Try.prog 46 #[.pointer (some ⟨tb, 0, none⟩), ptrV t, .int .i64 f, .int .i64 g] w fun e w' => ∃ v t', e = .returned v ∧ Spans w' w.heap.size v (overS f g (flat t)) ∧ SameRes t t' tb mb rv p0 p1 w w' := by
  obtain ⟨i0, hi, hz0, hz1, hz2⟩ := info_parts span_info
  intro n
  induction n with
  | zero =>
    intro t st w hlen hg h hn ht htb hmb
    cases t with
    | nil =>
      show Calls Try.prog 46 #[.pointer (some ⟨tb, 0, none⟩), .pointer none, .int .i64 f, .int .i64 g] w _
      have hlt : (-1 : Int) < g := by omega
      go_enter Try.func46, Try.ntmps46
      go_wp2_with fail
      refine (far_walk .nil w trivial).mono ?_
      rintro e u1 ⟨rfl, eu⟩
      have eu := eu.symm
      subst eu
      have hf : farT .nil < g := hlt
      go_wp2_with fail
      go_ret
      exact ⟨_, .nil, rfl, World.ownsRow_nil _ _ _ _, trivial, Good.nil, rfl, rfl, rfl, rfl, ⟨_, ht⟩, Only.refl _ _⟩
    | node b l r s0 hh c m wt => exact absurd hlen (by simp [blks])
  | succ n ih =>
    intro t st w hlen hg h hn ht htb hmb
    have hgd := hg.down
    by_cases hfar : farT t < g
    · have hnone : overS f g (flat t) = [] := overS_far (fun x hx => by have := hg.tells.far.1 x hx; omega)
      have HN := Lib.hid hnone
      clear hnone
      go_enter Try.func46, Try.ntmps46
      go_wp2_with fail
      refine (far_walk t w h).mono ?_
      rintro e u1 ⟨rfl, eu⟩
      have eu := eu.symm
      subst eu
      go_wp2_with fail
      go_ret
      rw [HN.out]
      exact ⟨_, t, rfl, World.ownsRow_nil _ _ _ _, h, hg, rfl, rfl, rfl, rfl, ⟨_, ht⟩, Only.refl _ _⟩
    · cases t with
      | nil => exact absurd (show (-1 : Int) < g by omega) hfar
      | node b l r s0 hh c m wt =>
        show Calls Try.prog 46 #[.pointer (some ⟨tb, 0, none⟩), .pointer (some ⟨b, 0, none⟩), .int .i64 f, .int .i64 g] w _
        obtain ⟨gl, gr, hin, o1, o2, o3⟩ := hgd.sides
        have hlts := h.lt
        have htb2 := heap_lt ht.t
        have hmb2 := heap_lt ht.m
        obtain ⟨n1, n2, n3, n4, n5⟩ := node_nodup hn
        have hfew := hg.few
        go_enter Try.func46, Try.ntmps46
        go_wp2_with fail
        refine (far_walk (.node b l r s0 hh c m wt) w h).mono ?_
        rintro e u1 ⟨rfl, eu⟩
        have eu := eu.symm
        subst eu
        go_wp2_with fail
        refine (look_walk w hg h hn ht htb hmb).mono ?_
        rintro e w2 ⟨rfl, h2, ⟨st2, ht2⟩, ho2⟩
        have hb2 : NodeA b (moveT wt l) (moveT wt r) s0 hh c m 0 w2 := lay_cells h2
        have d3 := cell_of_heap hb2 3
        have HB2 := Lib.hid hb2
        have HL2 := Lib.hid h2
        have HT2 := Lib.hid ht2
        have HO2 := Lib.hid ho2
        clear hb2 h2 ht2 ho2
        go_wp2_with fail
        refine (ih (moveT wt l) st2 w2 (by rw [blks_move]; simp [blks] at hlen; omega) gl HL2.out.2.1 (by rw [blks_move]; exact n3) HT2.out (by rw [blks_move]; exact fun hm => htb (by simp [blks, hm])) (by rw [blks_move]; exact fun hm => hmb (by simp [blks, hm]))).mono ?_
        rintro e w3 ⟨v1, l', rfl, hs3, q1, q2, q3, q4, q5, q6, ⟨st3, q7⟩, q8⟩
        rw [blks_move] at q4 q8
        have hsz2 := HO2.out.size
        generalize hs2n : w2.heap.size = sz2 at *
        have hq8 := q8
        have hb3 : NodeA b (moveT wt l) (moveT wt r) s0 hh c m 0 w3 := q8.heap HB2.out (fun hm => by
          rcases List.mem_cons.1 hm with e | hm
          · exact hmb (by simp [blks, e])
          · exact n1 b hm rfl)
        have hr3 : Lay w3 (moveT wt r) := HL2.out.2.2.only q8 (fun x hx hm => by
          rw [blks_move] at hx
          rcases List.mem_cons.1 hm with e | hm
          · exact hmb (by rw [← e]; simp [blks, hx])
          · exact n5 x hm hx)
        have ho3 : Only (mb :: blks (Tr.node b l r s0 hh c m wt)) w w3 := HO2.out.trans q8 (fun x hx => .inl (by
          rcases List.mem_cons.1 hx with rfl | hx
          · simp
          · simp [blks, hx]))
        have hz3 : sz2 ≤ w3.heap.size := by have := q8.size; omega
        have HQ4 := Lib.hid q4
        have HQ5 := Lib.hid q5
        have HQ1 := Lib.hid q1
        have HQ7 := Lib.hid q7
        have HS3 := Lib.hid hs3
        have HB3 := Lib.hid hb3
        have HR3 := Lib.hid hr3
        have HO3 := Lib.hid ho3
        have HZ2 := Lib.hid hsz2
        have c0 := cell_of_heap hb3 0
        have c1 := cell_of_heap hb3 1
        have c2 := cell_of_heap hb3 2
        clear hb3 hr3 ho3 q1 q4 q5 q7 q8 hq8 hs3 d3
        by_cases haf : s0.a ≤ f
        · have HAF := Lib.hid haf
          by_cases hgb : g ≤ s0.b
          · have hsl := Sl.of_own (World.ownsRow_lit (base := 0) (size := 3) (e := 25) w3 #[.int .i64 s0.a, .int .i64 s0.b, .int .i64 s0.k] 1 (Nat.zero_le _) (by decide) rfl) (rowS_one [s0])
            have hX := grownBy_alloc (grownBy_refl w3 none) (Obj.cells #[.int .i64 s0.a, .int .i64 s0.b, .int .i64 s0.k] 25)
            have HX := Lib.hid hX
            have HSL := Lib.hid hsl
            have hown2 := ownsRow_kept HS3.out hX (own_none _)
            have HO2' := Lib.hid hown2
            have hlen1 : (overS f g (flat (moveT wt l))).length + 1 ≤ 1099511627776 := by
              have e1 := overS_length f g (flat (moveT wt l))
              rw [flat_move, adds_length] at e1
              change (adds wt (flat l) ++ [s0] ++ adds wt (flat r)).length ≤ _ at hfew
              simp [adds_length] at hfew
              rw [flat_move]
              omega
            clear hX hsl hown2
            generalize hL0 : overS f g (flat (moveT wt l)) = L0 at *
            go_wp2_with (at_builtin; refine wpList_append_sl _ rfl (.tmp 40) (.tmp 45) 32 rfl sz2 25 i0 _ 3 24 Try.underlying32 hi hz0 hz1 hz2 rfl (by decide) v1 L0.length _ rfl HO2'.out (some ⟨w3.heap.size, 0, none⟩) 1 1 _ rfl HSL.out (by unfold maxLen; omega) (by omega) (by simp; omega) ?_)
            rintro v2 w4 ⟨hs4, hg4, hat4⟩
            have hown4 : w4.ownsRow sz2 25 3 v2 (L0 ++ [s0]).length (rowS (L0 ++ [s0])) := by
              rw [List.length_append, rowS_append]; exact hs4
            have hB4 : Only (match v1.ownBlock with | some k => [k] | none => []) w3 w4 := ((Only.refl _ w3).alloc _).trans (Only.grown hg4 (fun k hk => by rw [hk]; simp)) (fun x hx => .inl hx)
            have hin4 : ∀ x ∈ (match v1.ownBlock with | some k => [k] | none => []), sz2 ≤ x := fun x hx => by
              cases hv : v1.ownBlock with
              | none => rw [hv] at hx; simp at hx
              | some k => rw [hv] at hx; simp at hx; have := HS3.out.lt k hv; omega
            have hnot4 : ∀ x, x < sz2 → x ∉ (match v1.ownBlock with | some k => [k] | none => []) := fun x hx hm => by have := hin4 x hm; omega
            have hszw4 : w.heap.size ≤ sz2 := HZ2.out
            have hltb4 : ∀ x ∈ mb :: blks (Tr.node b l r s0 hh c m wt), x < sz2 := fun x hx => by
              rcases List.mem_cons.1 hx with rfl | hx
              · omega
              · have := hlts x hx; omega
            have hIF : (if g ≤ s0.b then [s0] else []) = [s0] := if_pos hgb
            have HIF := Lib.hid hIF
            have hs5' := hown4
            have hb4 : NodeA b (moveT wt l) (moveT wt r) s0 hh c m 0 w4 := hB4.heap HB3.out (hnot4 b (hltb4 b (by simp [blks])))
            have hl4 := HQ1.out.only hB4 (fun x hx => hnot4 x (hltb4 x (by rw [HQ4.out] at hx; simp [blks, hx])))
            have hr4 := HR3.out.only hB4 (fun x hx => hnot4 x (hltb4 x (by rw [blks_move] at hx; simp [blks, hx])))
            have ht4 := HQ7.out.only hB4 (hnot4 tb (by omega)) (hnot4 mb (by omega))
            have ho4 := HO3.out.trans hB4 (fun x hx => .inr (Nat.le_trans hszw4 (hin4 x hx)))
            have hz : sz2 ≤ w4.heap.size := by have := hB4.size; omega
            clear hs4 hg4 hat4 hown4 hB4 hin4 hnot4 hszw4 hltb4 hIF c0 c1 c2
            have hs4 := hs5'
            clear hs5'
            subst hL0
            have HSP := Lib.hid hs4
            have HB4 := Lib.hid hb4
            have HLl := Lib.hid hl4
            have HLr := Lib.hid hr4
            have HT4 := Lib.hid ht4
            have HO4 := Lib.hid ho4
            have HZ := Lib.hid hz
            clear hs4 hb4 hl4 hr4 ht4 ho4 hz
            have d4 := cell_of_heap HB4.out 4
            go_wp2_with fail
            refine (ih (moveT wt r) st3 w4 (by rw [blks_move]; simp [blks] at hlen; omega) gr HLr.out (by rw [blks_move]; exact n4) HT4.out (by rw [blks_move]; exact fun hm => htb (by simp [blks, hm])) (by rw [blks_move]; exact fun hm => hmb (by simp [blks, hm]))).mono ?_
            rintro e w5 ⟨v3, r', rfl, hs5, p1', p2', p3', p4', p5', p6', ⟨st5, p7'⟩, p8'⟩
            rw [blks_move] at p4' p8'
            have hz4 := HO4.out.size
            have hz5 := p8'.size
            have hrow : ∀ k, v2.ownBlock = some k → sz2 ≤ k ∧ k < w4.heap.size := fun k hk => HSP.out.lt k hk
            have hs2 := own_only HSP.out p8' (fun k hk hm => by
              have := (hrow k hk).1
              rcases List.mem_cons.1 hm with e | hm
              · omega
              · have := hlts k (by simp [blks, hm]); omega)
            have hbr : b ∉ mb :: blks r := fun hm => by
              rcases List.mem_cons.1 hm with e | hm
              · exact hmb (by simp [blks, e])
              · exact n2 b hm rfl
            have hb5 := p8'.heap HB4.out hbr
            have hl5 := HLl.out.only p8' (fun x hx hm => by
              rw [HQ4.out] at hx
              rcases List.mem_cons.1 hm with e | hm
              · exact hmb (by rw [← e]; simp [blks, hx])
              · exact n5 x hx hm)
            have HO5 := Lib.hid (HO4.out.trans p8' (fun x hx => .inl (by
              rcases List.mem_cons.1 hx with rfl | hx
              · simp
              · simp [blks, hx])))
            obtain ⟨A3, c3, rfl, hsl⟩ := own_slice hs5
            have HS2 := Lib.hid hs2
            have HSL := Lib.hid hsl
            have HB5 := Lib.hid hb5
            have HL5 := Lib.hid hl5
            have HLR := Lib.hid p1'
            have HT5 := Lib.hid p7'
            have HG5 := Lib.hid (hgd.same q2 p2' q3 p3' q6 p6')
            have HR5 := Lib.hid hrow
            clear hs2 hsl hb5 hl5 p1' p7' p8' hs5 hrow d4
            have hlen2 : (overS f g (flat (moveT wt l)) ++ [s0]).length + (overS f g (flat (moveT wt r))).length ≤ 1099511627776 := by
              have e1 := overS_length f g (flat (moveT wt l))
              have e2 := overS_length f g (flat (moveT wt r))
              rw [flat_move, adds_length] at e1 e2
              change (adds wt (flat l) ++ [s0] ++ adds wt (flat r)).length ≤ _ at hfew
              simp [adds_length] at hfew ⊢
              rw [flat_move, flat_move]
              omega
            generalize hL1 : overS f g (flat (moveT wt l)) ++ [s0] = L1 at *
            generalize hL3 : overS f g (flat (moveT wt r)) = L3 at *
            go_wp2_with (at_builtin; refine wpList_append_sl _ rfl (.tmp 47) (.tmp 56) 32 rfl sz2 25 i0 _ 3 24 Try.underlying32 hi hz0 hz1 hz2 rfl (by decide) v2 L1.length _ rfl HS2.out A3 L3.length c3 _ rfl HSL.out (by unfold maxLen; omega) (by omega) (by have := HZ.out; omega) ?_)
            rintro v4 w6 ⟨hs6, hg6, hat6⟩
            have hB6 : Only (match v2.ownBlock with | some k => [k] | none => []) w5 w6 := Only.grown hg6 (fun k hk => by rw [hk]; simp)
            have hin6 : ∀ x ∈ (match v2.ownBlock with | some k => [k] | none => []), sz2 ≤ x := fun x hx => by
              cases hv : v2.ownBlock with
              | none => rw [hv] at hx; simp at hx
              | some k => rw [hv] at hx; simp at hx; have := HR5.out k hv; omega
            have hnot6 : ∀ x, x < sz2 → x ∉ (match v2.ownBlock with | some k => [k] | none => []) := fun x hx hm => by have := hin6 x hm; omega
            have hszw : w.heap.size ≤ sz2 := HZ2.out
            have HS6 := Lib.hid hs6
            have HB6 := Lib.hid hB6
            have HN6 := Lib.hid hnot6
            have HI6 := Lib.hid hin6
            clear hs6 hg6 hB6 hnot6 hin6
            go_wp2_with fail
            go_ret
            have hover := over_node (f := f) (t := g) hgd
            rw [if_pos HAF.out, HIF.out, hL1, hL3] at hover
            have hover2 : overS f g (flat (.node b l r s0 hh c m wt)) = L1 ++ L3 := (congrArg (overS f g) (flat_down (.node b l r s0 hh c m wt))).symm.trans hover
            have hltb : ∀ x ∈ mb :: blks (Tr.node b l r s0 hh c m wt), x < sz2 := fun x hx => by
              rcases List.mem_cons.1 hx with rfl | hx
              · omega
              · have := hlts x hx; omega
            refine ⟨v4, .node b l' r' s0 hh c m 0, rfl, ?_, ⟨HB6.out.heap (NodeA.to HB5.out HQ5.out p5') (HN6.out b (hltb b (by simp [blks]))), HL5.out.only HB6.out (fun x hx => HN6.out x (hltb x (by rw [HQ4.out] at hx; simp [blks, hx]))), HLR.out.only HB6.out (fun x hx => HN6.out x (hltb x (by rw [p4'] at hx; simp [blks, hx])))⟩, HG5.out, ?_, ?_, rfl, rfl, ⟨st5, HT5.out.only HB6.out (HN6.out tb (by omega)) (HN6.out mb (by omega))⟩, HO5.out.trans HB6.out (fun x hx => .inr (Nat.le_trans hszw (HI6.out x hx)))⟩
            · rw [hover2]
              unfold Spans
              rw [List.length_append, rowS_append]
              exact ownsRow_base HS6.out hszw
            · rw [flat_node0, q3, p3']
              exact (flat_node0 b (moveT wt l) (moveT wt r) s0 hh c m).symm.trans (flat_down (.node b l r s0 hh c m wt))
            · show b :: (blks l' ++ blks r') = b :: (blks l ++ blks r)
              rw [HQ4.out, p4']
          · have hIF : (if g ≤ s0.b then [s0] else []) = [] := if_neg hgb
            have hs4 : w3.ownsRow sz2 25 3 v1 (overS f g (flat (moveT wt l)) ++ []).length (rowS (overS f g (flat (moveT wt l)) ++ [])) := by rw [List.append_nil]; exact HS3.out
            have hb4 := HB3.out
            have hl4 := HQ1.out
            have hr4 := HR3.out
            have ht4 := HQ7.out
            have ho4 := HO3.out
            have hz := hz3
            have HIF := Lib.hid hIF
            clear hIF
            have HSP := Lib.hid hs4
            have HB4 := Lib.hid hb4
            have HLl := Lib.hid hl4
            have HLr := Lib.hid hr4
            have HT4 := Lib.hid ht4
            have HO4 := Lib.hid ho4
            have HZ := Lib.hid hz
            clear hs4 hb4 hl4 hr4 ht4 ho4 hz
            have d4 := cell_of_heap HB4.out 4
            go_wp2_with fail
            refine (ih (moveT wt r) st3 w3 (by rw [blks_move]; simp [blks] at hlen; omega) gr HLr.out (by rw [blks_move]; exact n4) HT4.out (by rw [blks_move]; exact fun hm => htb (by simp [blks, hm])) (by rw [blks_move]; exact fun hm => hmb (by simp [blks, hm]))).mono ?_
            rintro e w5 ⟨v3, r', rfl, hs5, p1', p2', p3', p4', p5', p6', ⟨st5, p7'⟩, p8'⟩
            rw [blks_move] at p4' p8'
            have hz4 := HO4.out.size
            have hz5 := p8'.size
            have hrow : ∀ k, v1.ownBlock = some k → sz2 ≤ k ∧ k < w3.heap.size := fun k hk => HSP.out.lt k hk
            have hs2 := own_only HSP.out p8' (fun k hk hm => by
              have := (hrow k hk).1
              rcases List.mem_cons.1 hm with e | hm
              · omega
              · have := hlts k (by simp [blks, hm]); omega)
            have hbr : b ∉ mb :: blks r := fun hm => by
              rcases List.mem_cons.1 hm with e | hm
              · exact hmb (by simp [blks, e])
              · exact n2 b hm rfl
            have hb5 := p8'.heap HB4.out hbr
            have hl5 := HLl.out.only p8' (fun x hx hm => by
              rw [HQ4.out] at hx
              rcases List.mem_cons.1 hm with e | hm
              · exact hmb (by rw [← e]; simp [blks, hx])
              · exact n5 x hx hm)
            have HO5 := Lib.hid (HO4.out.trans p8' (fun x hx => .inl (by
              rcases List.mem_cons.1 hx with rfl | hx
              · simp
              · simp [blks, hx])))
            obtain ⟨A3, c3, rfl, hsl⟩ := own_slice hs5
            have HS2 := Lib.hid hs2
            have HSL := Lib.hid hsl
            have HB5 := Lib.hid hb5
            have HL5 := Lib.hid hl5
            have HLR := Lib.hid p1'
            have HT5 := Lib.hid p7'
            have HG5 := Lib.hid (hgd.same q2 p2' q3 p3' q6 p6')
            have HR5 := Lib.hid hrow
            clear hs2 hsl hb5 hl5 p1' p7' p8' hs5 hrow d4
            have hlen2 : (overS f g (flat (moveT wt l)) ++ []).length + (overS f g (flat (moveT wt r))).length ≤ 1099511627776 := by
              have e1 := overS_length f g (flat (moveT wt l))
              have e2 := overS_length f g (flat (moveT wt r))
              rw [flat_move, adds_length] at e1 e2
              change (adds wt (flat l) ++ [s0] ++ adds wt (flat r)).length ≤ _ at hfew
              simp [adds_length] at hfew ⊢
              rw [flat_move, flat_move]
              omega
            generalize hL1 : overS f g (flat (moveT wt l)) ++ [] = L1 at *
            generalize hL3 : overS f g (flat (moveT wt r)) = L3 at *
            go_wp2_with (at_builtin; refine wpList_append_sl _ rfl (.tmp 47) (.tmp 56) 32 rfl sz2 25 i0 _ 3 24 Try.underlying32 hi hz0 hz1 hz2 rfl (by decide) v1 L1.length _ rfl HS2.out A3 L3.length c3 _ rfl HSL.out (by unfold maxLen; omega) (by omega) (by have := HZ.out; omega) ?_)
            rintro v4 w6 ⟨hs6, hg6, hat6⟩
            have hB6 : Only (match v1.ownBlock with | some k => [k] | none => []) w5 w6 := Only.grown hg6 (fun k hk => by rw [hk]; simp)
            have hin6 : ∀ x ∈ (match v1.ownBlock with | some k => [k] | none => []), sz2 ≤ x := fun x hx => by
              cases hv : v1.ownBlock with
              | none => rw [hv] at hx; simp at hx
              | some k => rw [hv] at hx; simp at hx; have := HR5.out k hv; omega
            have hnot6 : ∀ x, x < sz2 → x ∉ (match v1.ownBlock with | some k => [k] | none => []) := fun x hx hm => by have := hin6 x hm; omega
            have hszw : w.heap.size ≤ sz2 := HZ2.out
            have HS6 := Lib.hid hs6
            have HB6 := Lib.hid hB6
            have HN6 := Lib.hid hnot6
            have HI6 := Lib.hid hin6
            clear hs6 hg6 hB6 hnot6 hin6
            go_wp2_with fail
            go_ret
            have hover := over_node (f := f) (t := g) hgd
            rw [if_pos HAF.out, HIF.out, hL1, hL3] at hover
            have hover2 : overS f g (flat (.node b l r s0 hh c m wt)) = L1 ++ L3 := (congrArg (overS f g) (flat_down (.node b l r s0 hh c m wt))).symm.trans hover
            have hltb : ∀ x ∈ mb :: blks (Tr.node b l r s0 hh c m wt), x < sz2 := fun x hx => by
              rcases List.mem_cons.1 hx with rfl | hx
              · omega
              · have := hlts x hx; omega
            refine ⟨v4, .node b l' r' s0 hh c m 0, rfl, ?_, ⟨HB6.out.heap (NodeA.to HB5.out HQ5.out p5') (HN6.out b (hltb b (by simp [blks]))), HL5.out.only HB6.out (fun x hx => HN6.out x (hltb x (by rw [HQ4.out] at hx; simp [blks, hx]))), HLR.out.only HB6.out (fun x hx => HN6.out x (hltb x (by rw [p4'] at hx; simp [blks, hx])))⟩, HG5.out, ?_, ?_, rfl, rfl, ⟨st5, HT5.out.only HB6.out (HN6.out tb (by omega)) (HN6.out mb (by omega))⟩, HO5.out.trans HB6.out (fun x hx => .inr (Nat.le_trans hszw (HI6.out x hx)))⟩
            · rw [hover2]
              unfold Spans
              rw [List.length_append, rowS_append]
              exact ownsRow_base HS6.out hszw
            · rw [flat_node0, q3, p3']
              exact (flat_node0 b (moveT wt l) (moveT wt r) s0 hh c m).symm.trans (flat_down (.node b l r s0 hh c m wt))
            · show b :: (blks l' ++ blks r') = b :: (blks l ++ blks r)
              rw [HQ4.out, p4']
        · have hover := over_node (f := f) (t := g) hgd
          rw [if_neg haf] at hover
          have HOV := Lib.hid hover
          clear hover
          go_wp2_with fail
          go_ret
          have hHov : overS f g (flat (.node b l r s0 hh c m wt)) = overS f g (flat (moveT wt l)) := (congrArg (overS f g) (flat_down (.node b l r s0 hh c m wt))).symm.trans HOV.out
          refine ⟨v1, .node b l' (moveT wt r) s0 hh c m 0, rfl, ?_, ⟨NodeA.to HB3.out HQ5.out rfl, HQ1.out, HR3.out⟩, hgd.same q2 gr q3 rfl q6 rfl, ?_, ?_, rfl, rfl, ⟨_, HQ7.out⟩, HO3.out⟩
          · rw [hHov]; exact ownsRow_base HS3.out HZ2.out
          · rw [flat_node0, q3]
            exact (flat_node0 b (moveT wt l) (moveT wt r) s0 hh c m).symm.trans (flat_down (.node b l r s0 hh c m wt))
          · show b :: (blks l' ++ blks (moveT wt r)) = b :: (blks l ++ blks r)
            rw [HQ4.out, blks_move]
end Go.Proofs.Ytijpienjejfmiaa
