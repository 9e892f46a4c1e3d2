/-
  Marks' cut: a span less, if it is there: the walk. No conditions beyond those that the law names.
-/
import Derived.Test.YtijpienjejfmiaaMkF
namespace Go.Proofs.Ytijpienjejfmiaa
open Go Go.RowKit

/-- What cut makes of a tree. -/
structure CutRes (t t' : Tr) (s : Sp) (tb mb : Nat) (rv p0 p1 : Value) (w w' : World) : Prop where
  lay : Lay w' t'
  nodup : (blks t').Nodup
  good : Good t'
  flat : flat t' = remS s (flat t)
  old : ∀ x ∈ blks t', x ∈ blks t
  tr : ∃ st', TrAt w' tb mb rv p0 p1 st'
  only : Only (mb :: blks t) w w'

theorem remS_length (s : Sp) (l : List Sp) : (remS s l).length ≤ l.length := List.length_filter_le ..

theorem cut_left {b : Nat} {l r t1 : Tr} {s s0 : Sp} {hh c m : Int} (hg : Good (.node b l r s0 hh c m 0)) (hlt : s.lt s0) (h1 : Good t1) (hp : flat t1 = remS s (flat l)) :
    Good (evenT (.node b t1 r s0 hh c m 0)) ∧ flat (evenT (.node b t1 r s0 hh c m 0)) = remS s (flat (.node b l r s0 hh c m 0)) ∧ (s ∈ flat l ↔ s ∈ flat (.node b l r s0 hh c m 0)) := by
  obtain ⟨gl, gr, hin, o1, o2, o3⟩ := hg.sides
  have ho := hg.ord
  have he : flat t1 ++ [s0] ++ flat r = remS s (flat (.node b l r s0 hh c m 0)) := by rw [flat_node0] at ho ⊢; rw [hp, remS_left hlt ho]
  refine ⟨h1.even gr (by rw [he]; exact ord_remS hg.ord) hin (by rw [he]; have := remS_length s (flat (.node b l r s0 hh c m 0)); have := hg.few; omega), by rw [flat_even]; exact he, ?_⟩
  rw [flat_node0]
  refine ⟨fun h => by simp [h], fun h2 => ?_⟩
  rcases List.mem_append.1 h2 with h2 | h2
  · rcases List.mem_append.1 h2 with h2 | h2
    · exact h2
    · rw [List.mem_singleton.1 h2] at hlt; exact absurd hlt (Sp.lt_irrefl _)
  · exact absurd (Sp.lt_trans hlt (o2 s h2)) (Sp.lt_irrefl _)

theorem cut_right {b : Nat} {l r t1 : Tr} {s s0 : Sp} {hh c m : Int} (hg : Good (.node b l r s0 hh c m 0)) (hlt : s0.lt s) (h1 : Good t1) (hp : flat t1 = remS s (flat r)) :
    Good (evenT (.node b l t1 s0 hh c m 0)) ∧ flat (evenT (.node b l t1 s0 hh c m 0)) = remS s (flat (.node b l r s0 hh c m 0)) ∧ (s ∈ flat r ↔ s ∈ flat (.node b l r s0 hh c m 0)) := by
  obtain ⟨gl, gr, hin, o1, o2, o3⟩ := hg.sides
  have ho := hg.ord
  have he : flat l ++ [s0] ++ flat t1 = remS s (flat (.node b l r s0 hh c m 0)) := by rw [flat_node0] at ho ⊢; rw [hp, remS_right hlt ho]
  refine ⟨gl.even h1 (by rw [he]; exact ord_remS hg.ord) hin (by rw [he]; have := remS_length s (flat (.node b l r s0 hh c m 0)); have := hg.few; omega), by rw [flat_even]; exact he, ?_⟩
  rw [flat_node0]
  refine ⟨fun h => by simp [h], fun h2 => ?_⟩
  rcases List.mem_append.1 h2 with h2 | h2
  · rcases List.mem_append.1 h2 with h2 | h2
    · exact absurd (Sp.lt_trans hlt (o1 s h2)) (Sp.lt_irrefl _)
    · rw [List.mem_singleton.1 h2] at hlt; exact absurd hlt (Sp.lt_irrefl _)
  · exact h2

/-- The node itself goes: the first one behind it takes its place. -/
theorem cut_mid {b : Nat} {l r t1 : Tr} {s x : Sp} {hh c m : Int} (hg : Good (.node b l r s hh c m 0)) (h1 : Good t1) (hp : flat r = x :: flat t1) :
    Good (evenT (.node b l t1 x hh c m 0)) ∧ flat (evenT (.node b l t1 x hh c m 0)) = remS s (flat (.node b l r s hh c m 0)) := by
  obtain ⟨gl, gr, hin, o1, o2, o3⟩ := hg.sides
  have ho := hg.ord
  have he : flat l ++ [x] ++ flat t1 = remS s (flat (.node b l r s hh c m 0)) := by
    rw [flat_node0] at ho ⊢
    rw [remS_mid ho, hp]
    simp
  exact ⟨gl.even h1 (by rw [he]; exact ord_remS hg.ord) (gr.places x (by rw [hp]; simp)) (by rw [he]; have := remS_length s (flat (.node b l r s hh c m 0)); have := hg.few; omega), by rw [flat_even]; exact he⟩

theorem cut_none {b : Nat} {l r : Tr} {s : Sp} {hh c m : Int} (hg : Good (.node b l r s hh c m 0)) : remS s (flat (.node b l r s hh c m 0)) = flat l ++ flat r := by
  have ho := hg.ord
  rw [flat_node0] at ho ⊢
  exact remS_mid ho

set_option maxRecDepth 100000 in
set_option maxHeartbeats 1000000 in
theorem cut_nil {tb mb : Nat} {rv p0 p1 : Value} (s : Sp) (st : Int) (w : World) (ht : TrAt w tb mb rv p0 p1 st) :
    Calls Try.prog 44 #[.pointer (some ⟨tb, 0, none⟩), ptrV .nil, spanV s] w fun e w' => ∃ t', e = .returned (.tuple #[ptrV t', .bool (decide (s ∈ flat .nil))]) ∧ CutRes .nil t' s tb mb rv p0 p1 w w' := by
  show Calls Try.prog 44 #[.pointer (some ⟨tb, 0, none⟩), .pointer none, spanV s] w _
  go_enter Try.func44, Try.ntmps44
  go_wp2_with fail
  have ho := (Only.refl [] w).alloc (Obj.cells #[Value.int IntKind.i64 s.a, Value.int IntKind.i64 s.b, Value.int IntKind.i64 s.k] 25)
  go_ret2
  exact ⟨.nil, by simp [flat, addrT], trivial, List.nodup_nil, Good.nil, rfl, fun _ h => h, ⟨st, ht.only ho (by simp) (by simp)⟩, ho.mono (by simp)⟩

set_option maxRecDepth 100000 in
set_option maxHeartbeats 1000000 in
theorem cut_walk {tb mb : Nat} {rv p0 p1 : Value} (s : Sp) : ∀ (n : Nat) (t : Tr) (st : Int) (w : World), (blks t).length ≤ n → Good t → Lay w t → (blks t).Nodup → TrAt w tb mb rv p0 p1 st → tb ∉ blks t → mb ∉ blks t →
    Calls Try.prog 44 #[.pointer (some ⟨tb, 0, none⟩), ptrV t, spanV s] w fun e w' => ∃ t', e = .returned (.tuple #[ptrV t', .bool (decide (s ∈ flat t))]) ∧ CutRes t t' s tb mb rv p0 p1 w w' := by
  intro n
  induction n with
  | zero =>
    intro t st w hlen hg h hn ht htb hmb
    cases t with
    | nil => exact cut_nil s st w ht
    | node b l r s0 hh c m wt => exact absurd hlen (by simp [blks])
  | succ n ih =>
    intro t st w hlen hg h hn ht htb hmb
    cases t with
    | nil => exact cut_nil s st w ht
    | node b l r s0 hh c m wt =>
      show Calls Try.prog 44 #[.pointer (some ⟨tb, 0, none⟩), .pointer (some ⟨b, 0, none⟩), spanV s] w _
      have hw0 : IntKind.i64.wrap 0 = 0 := by decide
      have hw1 : IntKind.i64.wrap 1 = 1 := by decide
      have hgd := hg.down
      obtain ⟨gl, gr, hin, o1, o2, o3⟩ := hgd.sides
      have hlts := h.lt
      have htb2 := heap_lt ht.t
      have hmb2 := heap_lt ht.m
      obtain ⟨n1, n2, n3, n4, n5⟩ := node_nodup hn
      go_enter Try.func44, Try.ntmps44
      go_upto_region 3 with (fail)
      have HA := Lib.hid (heap_new w (Obj.cells #[Value.int IntKind.i64 s.a, Value.int IntKind.i64 s.b, Value.int IntKind.i64 s.k] 25))
      have ho := (Only.refl [] w).alloc (Obj.cells #[Value.int IntKind.i64 s.a, Value.int IntKind.i64 s.b, Value.int IntKind.i64 s.k] 25)
      generalize hw1 : w.alloc (Obj.cells #[Value.int IntKind.i64 s.a, Value.int IntKind.i64 s.b, Value.int IntKind.i64 s.k] 25) = w1 at *
      have HT1 := Lib.hid (ht.only ho (by simp) (by simp))
      have HL1 := Lib.hid (h.only ho (by simp))
      have HO1 := Lib.hid (ho.mono (B' := mb :: blks (.node b l r s0 hh c m wt)) (by simp))
      generalize hsz : w.heap.size = sz at *
      have hszn : sz ∉ mb :: blks (.node b l r s0 hh c m wt) := fun hm => by
        rcases List.mem_cons.1 hm with e | hm
        · omega
        · have := hlts sz hm; omega
      have HN := Lib.hid hszn
      clear ho h ht hw1 hszn
      go_wp2_with fail
      refine (look_walk w1 hg HL1.out hn HT1.out htb hmb).mono ?_
      rintro e w2 ⟨rfl, h2, ⟨st2, ht2⟩, ho2⟩
      have HA2 := Lib.hid (ho2.heap HA.out HN.out)
      have HO2 := Lib.hid (HO1.out.trans ho2 (fun x hx => .inl hx))
      have HL2 := Lib.hid h2
      have HT2 := Lib.hid ht2
      clear ho2 h2 ht2
      have a0 := cell_of_heap HA2.out 0
      have a1 := cell_of_heap HA2.out 1
      have a2 := cell_of_heap HA2.out 2
      have hb2 := lay_cells HL2.out
      have c0 := cell_of_heap hb2 0
      have c1 := cell_of_heap hb2 1
      have c2 := cell_of_heap hb2 2
      clear hb2
      go_upto_region 4 with (fail)
      refine region_pre 5 (fun u => u = w2.drew) (by kernel_rfl) rfl (fun hHeld => ?_)
      refine pre_load 0 (v := ?_) rfl (by kernel_rfl) (by kernel_rfl) (by kernel_rfl) (by kernel_rfl) (fun _ _ _ h => h) (by rfl) (fun u hu => ?_) (by assumption) ?_
      rotate_left
      focus ((try dsimp only at hu); go_simp; (try with_reducible rfl); done)
      try simp only [Act.put, List.setIfInBounds_toArray, List.set_cons_zero, List.set_cons_succ]
      refine pre_free 1 (v := ?_) rfl (by kernel_rfl) (by kernel_rfl) (by kernel_rfl) (by kernel_rfl) (fun _ _ _ h => h) (by rfl) (fun u => ?_) (by assumption) ?_
      rotate_left
      focus (go_simp; (try with_reducible rfl); done)
      try simp only [Act.put, List.setIfInBounds_toArray, List.set_cons_zero, List.set_cons_succ]
      refine pre_free 2 (v := ?_) rfl (by kernel_rfl) (by kernel_rfl) (by kernel_rfl) (by kernel_rfl) (fun _ _ _ h => h) (by rfl) (fun u => ?_) (by assumption) ?_
      rotate_left
      focus (go_simp; (try with_reducible rfl); done)
      try simp only [Act.put, List.setIfInBounds_toArray, List.set_cons_zero, List.set_cons_succ]
      refine pre_free 3 (v := ?_) rfl (by kernel_rfl) (by kernel_rfl) (by kernel_rfl) (by kernel_rfl) (fun _ _ _ h => h) (by rfl) (fun u => ?_) (by assumption) ?_
      rotate_left
      focus (go_simp; (try with_reducible rfl); done)
      try simp only [Act.put, List.setIfInBounds_toArray, List.set_cons_zero, List.set_cons_succ]
      refine pre_load 4 (v := ?_) rfl (by kernel_rfl) (by kernel_rfl) (by kernel_rfl) (by kernel_rfl) (fun _ _ _ h => h) (by rfl) (fun u hu => ?_) (by assumption) ?_
      rotate_left
      focus ((try dsimp only at hu); go_simp; (try with_reducible rfl); done)
      try simp only [Act.put, List.setIfInBounds_toArray, List.set_cons_zero, List.set_cons_succ]
      refine pre_last (by kernel_rfl) rfl (fun K hK => ?_)
      go_simp
      go_at_call 51
      refine (order_walk s s0 w2.drew).mono ?_
      rintro e w3 ⟨rfl, hg3⟩
      have ho3 : Only (mb :: blks (.node b l r s0 hh c m wt)) w2 w3 := (Only.refl _ w2).drew.trans (Only.ofGrown (B := []) hg3) (by simp)
      have hg3' : w2.grownBy w3 none := grownBy_trans (grownBy_drew (grownBy_refl w2 none)) hg3 nofun
      have HA3 := Lib.hid (grownBy_heap hg3' HA2.out nofun)
      have HL3 := Lib.hid (HL2.out.kept hg3')
      have HT3 := Lib.hid (HT2.out.only (Only.ofGrown (B := []) hg3') (by simp) (by simp))
      have HO3 := Lib.hid (HO2.out.trans ho3 (fun x hx => .inl hx))
      clear hg3 ho3 hg3' a0 a1 a2 c0 c1 c2
      try go_simp
      refine hK.out _ _ ?_
      clear hK K
      try simp only [Act.put, List.setIfInBounds_toArray, List.set_cons_zero, List.set_cons_succ]
      refine aw_one 6 (by kernel_rfl) rfl (fun K hK => ?_)
      go_simp
      refine hK.out _ _ ?_
      clear hK K
      try simp only [Act.put, List.setIfInBounds_toArray, List.set_cons_zero, List.set_cons_succ]
      refine aw_done (by kernel_rfl) ?_
      rcases cmpS_cases s s0 with ⟨hcs, hlt⟩ | ⟨hcs, hlt⟩ | ⟨hcs, hlt⟩
      · have HX := Lib.hid hlt
        have hb3 := lay_cells HL3.out
        have d3 := cell_of_heap hb3 3
        have a0 := cell_of_heap HA3.out 0
        have a1 := cell_of_heap HA3.out 1
        have a2 := cell_of_heap HA3.out 2
        clear hlt hb3
        go_upto_region 7 with (fail)
        refine region_pre 8 (fun u => u = w3.drew) (by kernel_rfl) rfl (fun hHeld => ?_)
        refine pre_free 0 (v := ?_) rfl (by kernel_rfl) (by kernel_rfl) (by kernel_rfl) (by kernel_rfl) (fun _ _ _ h => h) (by rfl) (fun u => ?_) (by assumption) ?_
        rotate_left
        focus (go_simp; (try with_reducible rfl); done)
        try simp only [Act.put, List.setIfInBounds_toArray, List.set_cons_zero, List.set_cons_succ]
        refine pre_free 1 (v := ?_) rfl (by kernel_rfl) (by kernel_rfl) (by kernel_rfl) (by kernel_rfl) (fun _ _ _ h => h) (by rfl) (fun u => ?_) (by assumption) ?_
        rotate_left
        focus (go_simp; (try with_reducible rfl); done)
        try simp only [Act.put, List.setIfInBounds_toArray, List.set_cons_zero, List.set_cons_succ]
        refine pre_free 2 (v := ?_) rfl (by kernel_rfl) (by kernel_rfl) (by kernel_rfl) (by kernel_rfl) (fun _ _ _ h => h) (by rfl) (fun u => ?_) (by assumption) ?_
        rotate_left
        focus (go_simp; (try with_reducible rfl); done)
        try simp only [Act.put, List.setIfInBounds_toArray, List.set_cons_zero, List.set_cons_succ]
        refine pre_free 3 (v := ?_) rfl (by kernel_rfl) (by kernel_rfl) (by kernel_rfl) (by kernel_rfl) (fun _ _ _ h => h) (by rfl) (fun u => ?_) (by assumption) ?_
        rotate_left
        focus (go_simp; (try with_reducible rfl); done)
        try simp only [Act.put, List.setIfInBounds_toArray, List.set_cons_zero, List.set_cons_succ]
        refine pre_free 4 (v := ?_) rfl (by kernel_rfl) (by kernel_rfl) (by kernel_rfl) (by kernel_rfl) (fun _ _ _ h => h) (by rfl) (fun u => ?_) (by assumption) ?_
        rotate_left
        focus (go_simp; (try with_reducible rfl); done)
        try simp only [Act.put, List.setIfInBounds_toArray, List.set_cons_zero, List.set_cons_succ]
        refine pre_free 5 (v := ?_) rfl (by kernel_rfl) (by kernel_rfl) (by kernel_rfl) (by kernel_rfl) (fun _ _ _ h => h) (by rfl) (fun u => ?_) (by assumption) ?_
        rotate_left
        focus (go_simp; (try with_reducible rfl); done)
        try simp only [Act.put, List.setIfInBounds_toArray, List.set_cons_zero, List.set_cons_succ]
        refine pre_load 6 (v := ?_) rfl (by kernel_rfl) (by kernel_rfl) (by kernel_rfl) (by kernel_rfl) (fun _ _ _ h => h) (by rfl) (fun u hu => ?_) (by assumption) ?_
        rotate_left
        focus ((try dsimp only at hu); go_simp; (try with_reducible rfl); done)
        try simp only [Act.put, List.setIfInBounds_toArray, List.set_cons_zero, List.set_cons_succ]
        refine pre_load 7 (v := ?_) rfl (by kernel_rfl) (by kernel_rfl) (by kernel_rfl) (by kernel_rfl) (fun _ _ _ h => h) (by rfl) (fun u hu => ?_) (by assumption) ?_
        rotate_left
        focus ((try dsimp only at hu); go_simp; (try with_reducible rfl); done)
        try simp only [Act.put, List.setIfInBounds_toArray, List.set_cons_zero, List.set_cons_succ]
        refine pre_last (by kernel_rfl) rfl (fun K hK => ?_)
        go_simp
        go_at_call 44
        refine (ih (moveT wt l) _ w3.drew (by rw [blks_move]; simp [blks] at hlen; omega) gl (HL3.out.2.1.same rfl) (by rw [blks_move]; exact n3) (HT3.out.only (Only.refl [] w3).drew (by simp) (by simp)) (by rw [blks_move]; exact fun hm => htb (by simp [blks, hm])) (by rw [blks_move]; exact fun hm => hmb (by simp [blks, hm]))).mono ?_
        rintro e w4 ⟨t1, rfl, q1, q2, q3, q4, q5, ⟨st4, q6⟩, q7⟩
        rw [blks_move] at q5 q7
        have hO4 : Only (mb :: blks (.node b l r s0 hh c m wt)) w3 w4 := (Only.refl _ w3).drew.trans q7 (fun x hx => .inl (by rcases List.mem_cons.1 hx with rfl | hx; simp; simp [blks, hx]))
        have q7' : Only (mb :: blks l) w3 w4 := (Only.refl _ w3).drew.trans q7 (fun x hx => .inl hx)
        have hbn : b ∉ mb :: blks l := fun hm => by
          rcases List.mem_cons.1 hm with e | hm
          · exact hmb (by simp [blks, e])
          · exact n1 b hm rfl
        have hb4 := q7'.heap (lay_cells HL3.out) hbn
        have hr4 := (HL3.out.2.2).only q7' (fun x hx hm => by
          rw [blks_move] at hx
          rcases List.mem_cons.1 hm with e | hm
          · exact hmb (by rw [← e]; simp [blks, hx])
          · exact n5 x hm hx)
        have hsz3 : sz ≤ w3.heap.size := Nat.le_of_lt (heap_lt HA3.out)
        have hlt3 : ∀ x ∈ b :: (blks l ++ blks r), x < w3.drew.heap.size := fun x hx => by
          have := hlts x hx
          show x < w3.heap.size
          omega
        have hbt1 : ∀ x ∈ blks t1, x ≠ b := fun x hx e => by
          exact n1 x (q5 x hx) e
        have hnd := side_nodup (S := w3.drew.heap.size) hn (fun x hx => .inl (q5 x hx)) q2 hlt3
        have e3 := cell_of_heap hb4 3
        have f3 := frozen_of_heap hb4 3
        have ho5 := (Only.refl [b] w4).setCell (p := ⟨b, 3, none⟩) (.inl (by simp)) (ptrV t1)
        have hb5 := heap_setCell hb4 3 (ptrV t1)
        have ht5 := q1.only ho5 (fun x hx hm => hbt1 x hx (List.mem_singleton.1 hm))
        have hr5 := hr4.only ho5 (fun x hx hm => n2 x (by rw [blks_move] at hx; exact hx) (List.mem_singleton.1 hm))
        have hL5 : Lay _ (Tr.node b t1 (moveT wt r) s0 hh c m 0) := ⟨hb5, ht5, hr5⟩
        have hT5 := q6.only ho5 (fun hm => htb (by rw [List.mem_singleton.1 hm]; simp [blks])) (fun hm => hmb (by rw [List.mem_singleton.1 hm]; simp [blks]))
        have HL5 := Lib.hid hL5
        have HT5 := Lib.hid hT5
        have HND := Lib.hid (show (b :: (blks t1 ++ blks (moveT wt r))).Nodup by rw [blks_move]; exact hnd)
        have HO5 := Lib.hid ((HO3.out.trans hO4 (fun x hx => .inl hx)).trans ho5 (fun x hx => .inl (by rw [List.mem_singleton.1 hx]; simp [blks])))
        have HP := Lib.hid (cut_left hgd HX.out q3 q4)
        have HQ := Lib.hid q5
        have HG1 := Lib.hid q3
        have HS := Lib.hid hsz3
        clear q1 q2 q4 q5 q6 q7 q7' hO4 hb4 hr4 ho5 hb5 ht5 hr5 hL5 hT5 hnd hbn hsz3 hlt3 hbt1 q3 a0 a1 a2 d3
        generalize hdd : (decide (s ∈ flat (moveT wt l))) = dd at *
        try go_simp
        refine hK.out _ _ ?_
        clear hK K
        try simp only [Act.put, List.setIfInBounds_toArray, List.set_cons_zero, List.set_cons_succ]
        refine aw_free 9 (v := ?_) rfl (by kernel_rfl) (by kernel_rfl) (by kernel_rfl) (fun _ _ _ h => h) (by rfl) (fun u => ?_) ?_
        rotate_left
        focus (go_simp; (try with_reducible rfl); done)
        try simp only [Act.put, List.setIfInBounds_toArray, List.set_cons_zero, List.set_cons_succ]
        refine aw_free 10 (v := ?_) rfl (by kernel_rfl) (by kernel_rfl) (by kernel_rfl) (fun _ _ _ h => h) (by rfl) (fun u => ?_) ?_
        rotate_left
        focus (go_simp; (try with_reducible rfl); done)
        try simp only [Act.put, List.setIfInBounds_toArray, List.set_cons_zero, List.set_cons_succ]
        refine aw_free 12 (v := ?_) rfl (by kernel_rfl) (by kernel_rfl) (by kernel_rfl) (fun _ _ _ h => h) (by rfl) (fun u => ?_) ?_
        rotate_left
        focus (go_simp; (try with_reducible rfl); done)
        try simp only [Act.put, List.setIfInBounds_toArray, List.set_cons_zero, List.set_cons_succ]
        refine aw_free 11 (v := ?_) rfl (by kernel_rfl) (by kernel_rfl) (by kernel_rfl) (fun _ _ _ h => h) (by rfl) (fun u => ?_) ?_
        rotate_left
        focus (go_simp; (try with_reducible rfl); done)
        try simp only [Act.put, List.setIfInBounds_toArray, List.set_cons_zero, List.set_cons_succ]
        refine aw_free 13 (v := ?_) rfl (by kernel_rfl) (by kernel_rfl) (by kernel_rfl) (fun _ _ _ h => h) (by rfl) (fun u => ?_) ?_
        rotate_left
        focus (go_simp; (try with_reducible rfl); done)
        try simp only [Act.put, List.setIfInBounds_toArray, List.set_cons_zero, List.set_cons_succ]
        refine aw_done (by kernel_rfl) ?_
        generalize hw5 : w4.setCell ⟨b, 3, none⟩ (ptrV t1) = w5 at *
        go_wp2_with fail
        refine (even_walk (b := b) (l := t1) (r := moveT wt r) (s := s0) w5 HL5.out HND.out HG1.out gr).mono ?_
        rintro e w6 ⟨rfl, h6, ho6⟩
        have HX6 := Lib.hid h6
        have HO6 := Lib.hid ho6
        clear h6 ho6
        go_wp2_with fail
        go_ret2
        obtain ⟨p1', p2', p3'⟩ := HP.out
        have hpe : (blks (evenT (.node b t1 (moveT wt r) s0 hh c m 0))).Perm (b :: (blks t1 ++ blks (moveT wt r))) := perm_even
        have hnew : ∀ x ∈ b :: (blks t1 ++ blks (moveT wt r)), x ∈ blks (Tr.node b l r s0 hh c m wt) := fun x hx => by
          rcases List.mem_cons.1 hx with rfl | hx
          · simp [blks]
          · rcases List.mem_append.1 hx with hx | hx
            · have := HQ.out x hx; simp [blks, this]
            · rw [blks_move] at hx; simp [blks, hx]
        refine ⟨evenT (.node b t1 (moveT wt r) s0 hh c m 0), ?_, HX6.out, hpe.nodup_iff.2 HND.out, p1', by rw [p2']; exact congrArg _ (flat_down (.node b l r s0 hh c m wt)), fun x hx => hnew x (hpe.mem_iff.1 hx), ⟨_, HT5.out.only HO6.out (fun hm => ?_) (fun hm => ?_)⟩, HO5.out.trans HO6.out (fun x hx => .inl (List.mem_cons_of_mem _ (hnew x hx)))⟩
        · have hde : (decide (s ∈ flat (Tr.node b l r s0 hh c m wt))) = dd := by
            rw [← hdd]
            exact (decide_eq_decide.2 (by rw [p3', ← flat_down (.node b l r s0 hh c m wt)]; rfl))
          rw [hde]
          rfl
        · exact htb (hnew tb hm)
        · exact hmb (hnew mb hm)
      · have hlt' := hlt
        subst hlt'
        clear hlt
        have hm : s ∈ flat (.node b l r s hh c m wt) := mem_node
        have HM := Lib.hid (show decide (s ∈ flat (.node b l r s hh c m wt)) = true by simp [hm])
        clear hm
        have hb3 := lay_cells HL3.out
        cases l with
        | nil =>
          have d3 : w3.cell? ⟨b, 3, none⟩ = some (.pointer none) := cell_of_heap hb3 3
          have d4 := cell_of_heap hb3 4
          clear hb3
          go_wp2_with fail
          go_ret2
          refine ⟨moveT wt r, ?_, HL3.out.2.2, by rw [blks_move]; exact n4, gr, ?_, fun x hx => by rw [blks_move] at hx; simp [blks, hx], ⟨_, HT3.out⟩, HO3.out⟩
          · rw [HM.out]; rfl
          · exact ((cut_none hgd).trans (by rfl)).symm.trans (congrArg (remS s) (flat_down (.node b .nil r s hh c m wt)))
        | node bl ll lr ls lh lc lm lw =>
          have d3 : w3.cell? ⟨b, 3, none⟩ = some (.pointer (some ⟨bl, 0, none⟩)) := cell_of_heap hb3 3
          cases r with
          | nil =>
            have d4 : w3.cell? ⟨b, 4, none⟩ = some (.pointer none) := cell_of_heap hb3 4
            clear hb3
            go_wp2_with fail
            go_ret2
            refine ⟨moveT wt (.node bl ll lr ls lh lc lm lw), ?_, HL3.out.2.1, by rw [blks_move]; exact n3, gl, ?_, fun x hx => by rw [blks_move] at hx; exact List.mem_cons_of_mem _ (List.mem_append.2 (.inl hx)), ⟨_, HT3.out⟩, HO3.out⟩
            · rw [HM.out]; rfl
            · exact ((cut_none hgd).trans (List.append_nil _)).symm.trans (congrArg (remS s) (flat_down (.node b (.node bl ll lr ls lh lc lm lw) .nil s hh c m wt)))
          | node br rl rr rs rh rc rm rw' =>
            have d4 : w3.cell? ⟨b, 4, none⟩ = some (.pointer (some ⟨br, 0, none⟩)) := cell_of_heap hb3 4
            clear hb3
            go_upto_region 14 with (fail)
            refine region_pre 8 (fun u => u = w3.drew) (by kernel_rfl) rfl (fun hHeld => ?_)
            refine pre_free 0 (v := ?_) rfl (by kernel_rfl) (by kernel_rfl) (by kernel_rfl) (by kernel_rfl) (fun _ _ _ h => h) (by rfl) (fun u => ?_) (by assumption) ?_
            rotate_left
            focus (go_simp; (try with_reducible rfl); done)
            try simp only [Act.put, List.setIfInBounds_toArray, List.set_cons_zero, List.set_cons_succ]
            refine pre_free 1 (v := ?_) rfl (by kernel_rfl) (by kernel_rfl) (by kernel_rfl) (by kernel_rfl) (fun _ _ _ h => h) (by rfl) (fun u => ?_) (by assumption) ?_
            rotate_left
            focus (go_simp; (try with_reducible rfl); done)
            try simp only [Act.put, List.setIfInBounds_toArray, List.set_cons_zero, List.set_cons_succ]
            refine pre_free 2 (v := ?_) rfl (by kernel_rfl) (by kernel_rfl) (by kernel_rfl) (by kernel_rfl) (fun _ _ _ h => h) (by rfl) (fun u => ?_) (by assumption) ?_
            rotate_left
            focus (go_simp; (try with_reducible rfl); done)
            try simp only [Act.put, List.setIfInBounds_toArray, List.set_cons_zero, List.set_cons_succ]
            refine pre_free 3 (v := ?_) rfl (by kernel_rfl) (by kernel_rfl) (by kernel_rfl) (by kernel_rfl) (fun _ _ _ h => h) (by rfl) (fun u => ?_) (by assumption) ?_
            rotate_left
            focus (go_simp; (try with_reducible rfl); done)
            try simp only [Act.put, List.setIfInBounds_toArray, List.set_cons_zero, List.set_cons_succ]
            refine pre_free 4 (v := ?_) rfl (by kernel_rfl) (by kernel_rfl) (by kernel_rfl) (by kernel_rfl) (fun _ _ _ h => h) (by rfl) (fun u => ?_) (by assumption) ?_
            rotate_left
            focus (go_simp; (try with_reducible rfl); done)
            try simp only [Act.put, List.setIfInBounds_toArray, List.set_cons_zero, List.set_cons_succ]
            refine pre_free 5 (v := ?_) rfl (by kernel_rfl) (by kernel_rfl) (by kernel_rfl) (by kernel_rfl) (fun _ _ _ h => h) (by rfl) (fun u => ?_) (by assumption) ?_
            rotate_left
            focus (go_simp; (try with_reducible rfl); done)
            try simp only [Act.put, List.setIfInBounds_toArray, List.set_cons_zero, List.set_cons_succ]
            refine pre_free 6 (v := ?_) rfl (by kernel_rfl) (by kernel_rfl) (by kernel_rfl) (by kernel_rfl) (fun _ _ _ h => h) (by rfl) (fun u => ?_) (by assumption) ?_
            rotate_left
            focus (go_simp; (try with_reducible rfl); done)
            try simp only [Act.put, List.setIfInBounds_toArray, List.set_cons_zero, List.set_cons_succ]
            refine pre_free 15 (v := ?_) rfl (by kernel_rfl) (by kernel_rfl) (by kernel_rfl) (by kernel_rfl) (fun _ _ _ h => h) (by rfl) (fun u => ?_) (by assumption) ?_
            rotate_left
            focus (go_simp; (try with_reducible rfl); done)
            try simp only [Act.put, List.setIfInBounds_toArray, List.set_cons_zero, List.set_cons_succ]
            refine pre_free 16 (v := ?_) rfl (by kernel_rfl) (by kernel_rfl) (by kernel_rfl) (by kernel_rfl) (fun _ _ _ h => h) (by rfl) (fun u => ?_) (by assumption) ?_
            rotate_left
            focus (go_simp; (try with_reducible rfl); done)
            try simp only [Act.put, List.setIfInBounds_toArray, List.set_cons_zero, List.set_cons_succ]
            refine pre_load 7 (v := ?_) rfl (by kernel_rfl) (by kernel_rfl) (by kernel_rfl) (by kernel_rfl) (fun _ _ _ h => h) (by rfl) (fun u hu => ?_) (by assumption) ?_
            rotate_left
            focus ((try dsimp only at hu); go_simp; (try with_reducible rfl); done)
            try simp only [Act.put, List.setIfInBounds_toArray, List.set_cons_zero, List.set_cons_succ]
            refine pre_last (by kernel_rfl) rfl (fun K hK => ?_)
            go_simp
            go_at_call 58
            refine (first_walk _ (moveT wt (.node br rl rr rs rh rc rm rw')) _ w3.drew (Nat.le_refl _) (by show Tr.node _ _ _ _ _ _ _ _ ≠ _; simp) gr (HL3.out.2.2.same rfl) (by rw [blks_move]; exact n4) (HT3.out.only (Only.refl [] w3).drew (by simp) (by simp)) (by rw [blks_move]; exact fun hm => htb (List.mem_cons_of_mem _ (List.mem_append.2 (.inr hm)))) (by rw [blks_move]; exact fun hm => hmb (List.mem_cons_of_mem _ (List.mem_append.2 (.inr hm))))).mono ?_
            rintro e w4 ⟨x, t1, rfl, q1, q2, q3, q4, q5, ⟨st4, q6⟩, q7⟩
            rw [blks_move] at q5 q7
            have q7' : Only (mb :: blks (.node br rl rr rs rh rc rm rw')) w3 w4 := (Only.refl _ w3).drew.trans q7 (fun x hx => .inl hx)
            have hO4 : Only (mb :: blks (.node b (.node bl ll lr ls lh lc lm lw) (.node br rl rr rs rh rc rm rw') s hh c m wt)) w w4 := HO3.out.trans q7' (fun x hx => .inl (by
              rcases List.mem_cons.1 hx with rfl | hx
              · simp
              · exact List.mem_cons_of_mem _ (List.mem_cons_of_mem _ (List.mem_append.2 (.inr hx)))))
            have hbn : b ∉ mb :: blks (.node br rl rr rs rh rc rm rw') := fun hm => by
              rcases List.mem_cons.1 hm with e | hm
              · exact hmb (by simp [blks, e])
              · exact n2 b hm rfl
            have hb4 := q7'.heap (lay_cells HL3.out) hbn
            have hl4 := HL3.out.2.1.only q7' (fun x hx hm => by
              rw [blks_move] at hx
              rcases List.mem_cons.1 hm with e | hm
              · exact hmb (by rw [← e]; exact List.mem_cons_of_mem _ (List.mem_append.2 (.inl hx)))
              · exact n5 x hx hm)
            have hbt1 : ∀ x ∈ blks t1, x ≠ b := fun x hx e => n2 x (q5 x hx) e
            have hnd : (b :: (blks (moveT wt (.node bl ll lr ls lh lc lm lw)) ++ blks t1)).Nodup := by
              rw [blks_move]
              exact side_nodup2 (S := sz) hn (fun x hx => .inl (q5 x hx)) q2 hlts
            have e0 := cell_of_heap hb4 0
            have e1 := cell_of_heap hb4 1
            have e2 := cell_of_heap hb4 2
            have f0 := frozen_of_heap hb4 0
            have f1 := frozen_of_heap hb4 1
            have f2 := frozen_of_heap hb4 2
            have hb5 := heap_setCell (heap_setCell (heap_setCell hb4 0 (.int .i64 x.a)) 1 (.int .i64 x.b)) 2 (.int .i64 x.k)
            have ho5 := (((Only.refl [b] w4).setCell (p := ⟨b, 0, none⟩) (.inl (by simp)) (.int .i64 x.a)).setCell (p := ⟨b, 1, none⟩) (.inl (by simp)) (.int .i64 x.b)).setCell (p := ⟨b, 2, none⟩) (.inl (by simp)) (.int .i64 x.k)
            have ht5 := q1.only ho5 (fun y hy hm => hbt1 y hy (List.mem_singleton.1 hm))
            have hl5 := hl4.only ho5 (fun y hy hm => n1 y (by rw [blks_move] at hy; exact hy) (List.mem_singleton.1 hm))
            have hT5 := q6.only ho5 (fun hm => htb (by rw [List.mem_singleton.1 hm]; simp [blks])) (fun hm => hmb (by rw [List.mem_singleton.1 hm]; simp [blks]))
            have hN5 : NodeAt b (moveT wt (.node bl ll lr ls lh lc lm lw)) (moveT wt (.node br rl rr rs rh rc rm rw')) x hh c m 0 _ := hb5
            have HB5 := Lib.hid hN5
            have HT5 := Lib.hid ht5
            have HL5 := Lib.hid hl5
            have HTR5 := Lib.hid hT5
            have HO5 := Lib.hid (hO4.trans ho5 (fun x hx => .inl (by rw [List.mem_singleton.1 hx]; simp [blks])))
            have HND := Lib.hid hnd
            have HP := Lib.hid (cut_mid hgd q3 q4)
            have HG1 := Lib.hid q3
            have HQ5 := Lib.hid q5
            clear q1 q2 q3 q4 q5 q6 q7 q7' hO4 hbn hb4 hl4 hnd hb5 ho5 ht5 hl5 hT5 hN5 d3 d4
            try go_simp
            refine hK.out _ _ ?_
            clear hK K
            try simp only [Act.put, List.setIfInBounds_toArray, List.set_cons_zero, List.set_cons_succ]
            refine aw_free 9 (v := ?_) rfl (by kernel_rfl) (by kernel_rfl) (by kernel_rfl) (fun _ _ _ h => h) (by rfl) (fun u => ?_) ?_
            rotate_left
            focus (go_simp; (try with_reducible rfl); done)
            try simp only [Act.put, List.setIfInBounds_toArray, List.set_cons_zero, List.set_cons_succ]
            refine aw_free 10 (v := ?_) rfl (by kernel_rfl) (by kernel_rfl) (by kernel_rfl) (fun _ _ _ h => h) (by rfl) (fun u => ?_) ?_
            rotate_left
            focus (go_simp; (try with_reducible rfl); done)
            try simp only [Act.put, List.setIfInBounds_toArray, List.set_cons_zero, List.set_cons_succ]
            refine aw_free 11 (v := ?_) rfl (by kernel_rfl) (by kernel_rfl) (by kernel_rfl) (fun _ _ _ h => h) (by rfl) (fun u => ?_) ?_
            rotate_left
            focus (go_simp; (try with_reducible rfl); done)
            try simp only [Act.put, List.setIfInBounds_toArray, List.set_cons_zero, List.set_cons_succ]
            refine aw_free 12 (v := ?_) rfl (by kernel_rfl) (by kernel_rfl) (by kernel_rfl) (fun _ _ _ h => h) (by rfl) (fun u => ?_) ?_
            rotate_left
            focus (go_simp; (try with_reducible rfl); done)
            try simp only [Act.put, List.setIfInBounds_toArray, List.set_cons_zero, List.set_cons_succ]
            refine aw_free 13 (v := ?_) rfl (by kernel_rfl) (by kernel_rfl) (by kernel_rfl) (fun _ _ _ h => h) (by rfl) (fun u => ?_) ?_
            rotate_left
            focus (go_simp; (try with_reducible rfl); done)
            try simp only [Act.put, List.setIfInBounds_toArray, List.set_cons_zero, List.set_cons_succ]
            refine aw_one 14 (by kernel_rfl) rfl (fun K hK => ?_)
            go_simp
            generalize hwx : (((w4.setCell ⟨b, 0, none⟩ (.int .i64 x.a)).setCell ⟨b, 1, none⟩ (.int .i64 x.b)).setCell ⟨b, 2, none⟩ (.int .i64 x.k)) = wx at *
            refine hK.out _ _ ?_
            clear hK K e0 e1 e2 f0 f1 f2 hwx
            try simp only [Act.put, List.setIfInBounds_toArray, List.set_cons_zero, List.set_cons_succ]
            have e4 := cell_of_heap HB5.out 4
            have f4 := frozen_of_heap HB5.out 4
            refine aw_free 17 (v := ?_) rfl (by kernel_rfl) (by kernel_rfl) (by kernel_rfl) (fun _ _ _ h => h) (by rfl) (fun u => ?_) ?_
            rotate_left
            focus (go_simp; (try with_reducible rfl); done)
            try simp only [Act.put, List.setIfInBounds_toArray, List.set_cons_zero, List.set_cons_succ]
            refine aw_one 18 (by kernel_rfl) rfl (fun K hK => ?_)
            go_simp
            refine hK.out _ _ ?_
            clear hK K
            try simp only [Act.put, List.setIfInBounds_toArray, List.set_cons_zero, List.set_cons_succ]
            refine aw_done (by kernel_rfl) ?_
            have ho6 := (Only.refl [b] wx).setCell (p := ⟨b, 4, none⟩) (.inl (by simp)) (ptrV t1)
            have hb6 := heap_setCell HB5.out 4 (ptrV t1)
            have ht6 := HT5.out.only ho6 (fun y hy hm => (List.nodup_cons.1 HND.out).1 (by rw [← List.mem_singleton.1 hm]; exact List.mem_append.2 (.inr hy)))
            have hl6 := HL5.out.only ho6 (fun y hy hm => (List.nodup_cons.1 HND.out).1 (by rw [← List.mem_singleton.1 hm]; exact List.mem_append.2 (.inl hy)))
            have hT6 := HTR5.out.only ho6 (fun hm => htb (by rw [List.mem_singleton.1 hm]; simp [blks])) (fun hm => hmb (by rw [List.mem_singleton.1 hm]; simp [blks]))
            have hL6 : Lay _ (Tr.node b (moveT wt (.node bl ll lr ls lh lc lm lw)) t1 x hh c m 0) := ⟨hb6, hl6, ht6⟩
            have HL6 := Lib.hid hL6
            have HT6 := Lib.hid hT6
            have HO6 := Lib.hid (HO5.out.trans ho6 (fun x hx => .inl (by rw [List.mem_singleton.1 hx]; simp [blks])))
            clear ho6 hb6 ht6 hl6 hT6 hL6 e4 f4
            generalize hwy : wx.setCell ⟨b, 4, none⟩ (ptrV t1) = wy at *
            clear hwy
            go_wp2_with fail
            refine (even_walk (b := b) (l := (moveT wt (.node bl ll lr ls lh lc lm lw))) (r := t1) (s := x) wy HL6.out HND.out gl HG1.out).mono ?_
            rintro e w7 ⟨rfl, h7, ho7⟩
            have hsub : ∀ y ∈ b :: (blks (moveT wt (.node bl ll lr ls lh lc lm lw)) ++ blks t1), y ∈ blks (Tr.node b (.node bl ll lr ls lh lc lm lw) (.node br rl rr rs rh rc rm rw') s hh c m wt) := fun y hy => by
              rcases List.mem_cons.1 hy with rfl | hy
              · simp [blks]
              · rcases List.mem_append.1 hy with hy | hy
                · rw [blks_move] at hy
                  exact List.mem_cons_of_mem _ (List.mem_append.2 (.inl hy))
                · exact List.mem_cons_of_mem _ (List.mem_append.2 (.inr (HQ5.out y hy)))
            have HL7 := Lib.hid h7
            have HT7 := Lib.hid (HT6.out.only ho7 (fun hm => htb (hsub tb hm)) (fun hm => hmb (hsub mb hm)))
            have HO7 := Lib.hid (HO6.out.trans ho7 (fun y hy => .inl (List.mem_cons_of_mem _ (hsub y hy))))
            have HS := Lib.hid hsub
            clear h7 ho7 hsub
            go_wp2_with fail
            go_ret2
            obtain ⟨p1', p2'⟩ := HP.out
            refine ⟨evenT (.node b (moveT wt (.node bl ll lr ls lh lc lm lw)) t1 x hh c m 0), ?_, HL7.out, perm_even.nodup_iff.2 HND.out, p1', ?_, fun y hy => HS.out y (perm_even.mem_iff.1 hy), ⟨_, HT7.out⟩, HO7.out⟩
            · rw [HM.out]; rfl
            · rw [p2']; exact congrArg (remS s) (flat_down (.node b (.node bl ll lr ls lh lc lm lw) (.node br rl rr rs rh rc rm rw') s hh c m wt))
      · have HX := Lib.hid hlt
        have hb3 := lay_cells HL3.out
        have d3 := cell_of_heap hb3 4
        have a0 := cell_of_heap HA3.out 0
        have a1 := cell_of_heap HA3.out 1
        have a2 := cell_of_heap HA3.out 2
        clear hlt hb3
        go_upto_region 7 with (fail)
        refine region_pre 8 (fun u => u = w3.drew) (by kernel_rfl) rfl (fun hHeld => ?_)
        refine pre_free 0 (v := ?_) rfl (by kernel_rfl) (by kernel_rfl) (by kernel_rfl) (by kernel_rfl) (fun _ _ _ h => h) (by rfl) (fun u => ?_) (by assumption) ?_
        rotate_left
        focus (go_simp; (try with_reducible rfl); done)
        try simp only [Act.put, List.setIfInBounds_toArray, List.set_cons_zero, List.set_cons_succ]
        refine pre_free 1 (v := ?_) rfl (by kernel_rfl) (by kernel_rfl) (by kernel_rfl) (by kernel_rfl) (fun _ _ _ h => h) (by rfl) (fun u => ?_) (by assumption) ?_
        rotate_left
        focus (go_simp; (try with_reducible rfl); done)
        try simp only [Act.put, List.setIfInBounds_toArray, List.set_cons_zero, List.set_cons_succ]
        refine pre_free 2 (v := ?_) rfl (by kernel_rfl) (by kernel_rfl) (by kernel_rfl) (by kernel_rfl) (fun _ _ _ h => h) (by rfl) (fun u => ?_) (by assumption) ?_
        rotate_left
        focus (go_simp; (try with_reducible rfl); done)
        try simp only [Act.put, List.setIfInBounds_toArray, List.set_cons_zero, List.set_cons_succ]
        refine pre_free 3 (v := ?_) rfl (by kernel_rfl) (by kernel_rfl) (by kernel_rfl) (by kernel_rfl) (fun _ _ _ h => h) (by rfl) (fun u => ?_) (by assumption) ?_
        rotate_left
        focus (go_simp; (try with_reducible rfl); done)
        try simp only [Act.put, List.setIfInBounds_toArray, List.set_cons_zero, List.set_cons_succ]
        refine pre_free 4 (v := ?_) rfl (by kernel_rfl) (by kernel_rfl) (by kernel_rfl) (by kernel_rfl) (fun _ _ _ h => h) (by rfl) (fun u => ?_) (by assumption) ?_
        rotate_left
        focus (go_simp; (try with_reducible rfl); done)
        try simp only [Act.put, List.setIfInBounds_toArray, List.set_cons_zero, List.set_cons_succ]
        refine pre_free 5 (v := ?_) rfl (by kernel_rfl) (by kernel_rfl) (by kernel_rfl) (by kernel_rfl) (fun _ _ _ h => h) (by rfl) (fun u => ?_) (by assumption) ?_
        rotate_left
        focus (go_simp; (try with_reducible rfl); done)
        try simp only [Act.put, List.setIfInBounds_toArray, List.set_cons_zero, List.set_cons_succ]
        refine pre_load 6 (v := ?_) rfl (by kernel_rfl) (by kernel_rfl) (by kernel_rfl) (by kernel_rfl) (fun _ _ _ h => h) (by rfl) (fun u hu => ?_) (by assumption) ?_
        rotate_left
        focus ((try dsimp only at hu); go_simp; (try with_reducible rfl); done)
        try simp only [Act.put, List.setIfInBounds_toArray, List.set_cons_zero, List.set_cons_succ]
        refine pre_load 7 (v := ?_) rfl (by kernel_rfl) (by kernel_rfl) (by kernel_rfl) (by kernel_rfl) (fun _ _ _ h => h) (by rfl) (fun u hu => ?_) (by assumption) ?_
        rotate_left
        focus ((try dsimp only at hu); go_simp; (try with_reducible rfl); done)
        try simp only [Act.put, List.setIfInBounds_toArray, List.set_cons_zero, List.set_cons_succ]
        refine pre_last (by kernel_rfl) rfl (fun K hK => ?_)
        go_simp
        go_at_call 44
        refine (ih (moveT wt r) _ w3.drew (by rw [blks_move]; simp [blks] at hlen; omega) gr (HL3.out.2.2.same rfl) (by rw [blks_move]; exact n4) (HT3.out.only (Only.refl [] w3).drew (by simp) (by simp)) (by rw [blks_move]; exact fun hm => htb (by simp [blks, hm])) (by rw [blks_move]; exact fun hm => hmb (by simp [blks, hm]))).mono ?_
        rintro e w4 ⟨t1, rfl, q1, q2, q3, q4, q5, ⟨st4, q6⟩, q7⟩
        rw [blks_move] at q5 q7
        have hO4 : Only (mb :: blks (.node b l r s0 hh c m wt)) w3 w4 := (Only.refl _ w3).drew.trans q7 (fun x hx => .inl (by rcases List.mem_cons.1 hx with rfl | hx; simp; simp [blks, hx]))
        have q7' : Only (mb :: blks r) w3 w4 := (Only.refl _ w3).drew.trans q7 (fun x hx => .inl hx)
        have hbn : b ∉ mb :: blks r := fun hm => by
          rcases List.mem_cons.1 hm with e | hm
          · exact hmb (by simp [blks, e])
          · exact n2 b hm rfl
        have hb4 := q7'.heap (lay_cells HL3.out) hbn
        have hr4 := (HL3.out.2.1).only q7' (fun x hx hm => by
          rw [blks_move] at hx
          rcases List.mem_cons.1 hm with e | hm
          · exact hmb (by rw [← e]; simp [blks, hx])
          · exact n5 x hx hm)
        have hsz3 : sz ≤ w3.heap.size := Nat.le_of_lt (heap_lt HA3.out)
        have hlt3 : ∀ x ∈ b :: (blks l ++ blks r), x < w3.drew.heap.size := fun x hx => by
          have := hlts x hx
          show x < w3.heap.size
          omega
        have hbt1 : ∀ x ∈ blks t1, x ≠ b := fun x hx e => by
          exact n2 x (q5 x hx) e
        have hnd := side_nodup2 (S := w3.drew.heap.size) hn (fun x hx => .inl (q5 x hx)) q2 hlt3
        have e3 := cell_of_heap hb4 4
        have f3 := frozen_of_heap hb4 4
        have ho5 := (Only.refl [b] w4).setCell (p := ⟨b, 4, none⟩) (.inl (by simp)) (ptrV t1)
        have hb5 := heap_setCell hb4 4 (ptrV t1)
        have ht5 := q1.only ho5 (fun x hx hm => hbt1 x hx (List.mem_singleton.1 hm))
        have hr5 := hr4.only ho5 (fun x hx hm => n1 x (by rw [blks_move] at hx; exact hx) (List.mem_singleton.1 hm))
        have hL5 : Lay _ (Tr.node b (moveT wt l) t1 s0 hh c m 0) := ⟨hb5, hr5, ht5⟩
        have hT5 := q6.only ho5 (fun hm => htb (by rw [List.mem_singleton.1 hm]; simp [blks])) (fun hm => hmb (by rw [List.mem_singleton.1 hm]; simp [blks]))
        have HL5 := Lib.hid hL5
        have HT5 := Lib.hid hT5
        have HND := Lib.hid (show (b :: (blks (moveT wt l) ++ blks t1)).Nodup by rw [blks_move]; exact hnd)
        have HO5 := Lib.hid ((HO3.out.trans hO4 (fun x hx => .inl hx)).trans ho5 (fun x hx => .inl (by rw [List.mem_singleton.1 hx]; simp [blks])))
        have HP := Lib.hid (cut_right hgd HX.out q3 q4)
        have HQ := Lib.hid q5
        have HG1 := Lib.hid q3
        have HS := Lib.hid hsz3
        clear q1 q2 q4 q5 q6 q7 q7' hO4 hb4 hr4 ho5 hb5 ht5 hr5 hL5 hT5 hnd hbn hsz3 hlt3 hbt1 q3 a0 a1 a2 d3
        generalize hdd : (decide (s ∈ flat (moveT wt r))) = dd at *
        try go_simp
        refine hK.out _ _ ?_
        clear hK K
        try simp only [Act.put, List.setIfInBounds_toArray, List.set_cons_zero, List.set_cons_succ]
        refine aw_free 9 (v := ?_) rfl (by kernel_rfl) (by kernel_rfl) (by kernel_rfl) (fun _ _ _ h => h) (by rfl) (fun u => ?_) ?_
        rotate_left
        focus (go_simp; (try with_reducible rfl); done)
        try simp only [Act.put, List.setIfInBounds_toArray, List.set_cons_zero, List.set_cons_succ]
        refine aw_free 10 (v := ?_) rfl (by kernel_rfl) (by kernel_rfl) (by kernel_rfl) (fun _ _ _ h => h) (by rfl) (fun u => ?_) ?_
        rotate_left
        focus (go_simp; (try with_reducible rfl); done)
        try simp only [Act.put, List.setIfInBounds_toArray, List.set_cons_zero, List.set_cons_succ]
        refine aw_free 12 (v := ?_) rfl (by kernel_rfl) (by kernel_rfl) (by kernel_rfl) (fun _ _ _ h => h) (by rfl) (fun u => ?_) ?_
        rotate_left
        focus (go_simp; (try with_reducible rfl); done)
        try simp only [Act.put, List.setIfInBounds_toArray, List.set_cons_zero, List.set_cons_succ]
        refine aw_free 11 (v := ?_) rfl (by kernel_rfl) (by kernel_rfl) (by kernel_rfl) (fun _ _ _ h => h) (by rfl) (fun u => ?_) ?_
        rotate_left
        focus (go_simp; (try with_reducible rfl); done)
        try simp only [Act.put, List.setIfInBounds_toArray, List.set_cons_zero, List.set_cons_succ]
        refine aw_free 13 (v := ?_) rfl (by kernel_rfl) (by kernel_rfl) (by kernel_rfl) (fun _ _ _ h => h) (by rfl) (fun u => ?_) ?_
        rotate_left
        focus (go_simp; (try with_reducible rfl); done)
        try simp only [Act.put, List.setIfInBounds_toArray, List.set_cons_zero, List.set_cons_succ]
        refine aw_done (by kernel_rfl) ?_
        generalize hw5 : w4.setCell ⟨b, 4, none⟩ (ptrV t1) = w5 at *
        go_wp2_with fail
        refine (even_walk (b := b) (l := moveT wt l) (r := t1) (s := s0) w5 HL5.out HND.out gl HG1.out).mono ?_
        rintro e w6 ⟨rfl, h6, ho6⟩
        have HX6 := Lib.hid h6
        have HO6 := Lib.hid ho6
        clear h6 ho6
        go_wp2_with fail
        go_ret2
        obtain ⟨p1', p2', p3'⟩ := HP.out
        have hpe : (blks (evenT (.node b (moveT wt l) t1 s0 hh c m 0))).Perm (b :: (blks (moveT wt l) ++ blks t1)) := perm_even
        have hnew : ∀ x ∈ b :: (blks (moveT wt l) ++ blks t1), x ∈ blks (Tr.node b l r s0 hh c m wt) := fun x hx => by
          rcases List.mem_cons.1 hx with rfl | hx
          · simp [blks]
          · rcases List.mem_append.1 hx with hx | hx
            · rw [blks_move] at hx; simp [blks, hx]
            · have := HQ.out x hx; simp [blks, this]
        refine ⟨evenT (.node b (moveT wt l) t1 s0 hh c m 0), ?_, HX6.out, hpe.nodup_iff.2 HND.out, p1', by rw [p2']; exact congrArg _ (flat_down (.node b l r s0 hh c m wt)), fun x hx => hnew x (hpe.mem_iff.1 hx), ⟨_, HT5.out.only HO6.out (fun hm => ?_) (fun hm => ?_)⟩, HO5.out.trans HO6.out (fun x hx => .inl (List.mem_cons_of_mem _ (hnew x hx)))⟩
        · have hde : (decide (s ∈ flat (Tr.node b l r s0 hh c m wt))) = dd := by
            rw [← hdd]
            exact (decide_eq_decide.2 (by rw [p3', ← flat_down (.node b l r s0 hh c m wt)]; rfl))
          rw [hde]
          rfl
        · exact htb (hnew tb hm)
        · exact hmb (hnew mb hm)
end Go.Proofs.Ytijpienjejfmiaa
