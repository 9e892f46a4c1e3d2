/-
  Marks' put: a span more, unless it is there: the walk. No conditions beyond those that the law names.
-/
import Derived.Test.YtijpienjejfmiaaMkK
import Derived.Test.YtijpienjejfmiaaMkE
import Derived.Test.YtijpienjejfmiaaMkO
namespace Go.Proofs.Ytijpienjejfmiaa
open Go Go.RowKit

theorem cmpI_cases (x y : Int) : (cmpI x y = -1 ∧ x < y) ∨ (cmpI x y = 0 ∧ x = y) ∨ (cmpI x y = 1 ∧ y < x) := by
  unfold cmpI
  by_cases h : x < y
  · exact .inl ⟨if_pos h, h⟩
  · by_cases g : y < x
    · exact .inr (.inr ⟨by rw [if_neg h, if_pos g], g⟩)
    · exact .inr (.inl ⟨by rw [if_neg h, if_neg g], by omega⟩)

theorem cmpS_cases (x y : Sp) : (cmpS x y = -1 ∧ x.lt y) ∨ (cmpS x y = 0 ∧ x = y) ∨ (cmpS x y = 1 ∧ y.lt x) := by
  unfold cmpS Sp.lt
  rcases cmpI_cases x.a y.a with ⟨h1, h2⟩ | ⟨h1, h2⟩ | ⟨h1, h2⟩
  · rw [h1, if_pos (by omega)]; exact .inl ⟨rfl, .inl h2⟩
  · rw [h1, if_neg (by omega)]
    rcases cmpI_cases x.b y.b with ⟨g1, g2⟩ | ⟨g1, g2⟩ | ⟨g1, g2⟩
    · rw [g1, if_pos (by omega)]; exact .inl ⟨rfl, .inr ⟨h2, .inl g2⟩⟩
    · rw [g1, if_neg (by omega)]
      rcases cmpI_cases x.k y.k with ⟨k1, k2⟩ | ⟨k1, k2⟩ | ⟨k1, k2⟩
      · rw [k1]; exact .inl ⟨rfl, .inr ⟨h2, .inr ⟨g2, k2⟩⟩⟩
      · rw [k1]; refine .inr (.inl ⟨rfl, ?_⟩); cases x; cases y; simp_all
      · rw [k1]; exact .inr (.inr ⟨rfl, .inr ⟨h2.symm, .inr ⟨g2.symm, k2⟩⟩⟩)
    · rw [g1, if_pos (by omega)]; exact .inr (.inr ⟨rfl, .inr ⟨h2.symm, .inl g2⟩⟩)
  · rw [h1, if_pos (by omega)]; exact .inr (.inr ⟨rfl, .inl h2⟩)

/-- What put makes of a tree. -/
structure PutRes (t t' : Tr) (s : Sp) (tb mb : Nat) (rv p0 p1 : Value) (w w' : World) : Prop where
  lay : Lay w' t'
  nodup : (blks t').Nodup
  good : Good t'
  flat : flat t' = insS s (flat t)
  old : ∀ x ∈ blks t', x ∈ blks t ∨ w.heap.size ≤ x
  tr : ∃ st', TrAt w' tb mb rv p0 p1 st'
  only : Only (mb :: blks t) w w'

theorem insS_length (s : Sp) (l : List Sp) : (insS s l).length ≤ l.length + 1 := by
  induction l with
  | nil => simp [insS]
  | cons y l ih =>
    unfold insS
    split
    · simp
    · split
      · simp
      · simp only [List.length_cons]; omega

theorem in_insS {s : Sp} (hs : In s) {l : List Sp} (hl : ∀ x ∈ l, In x) : ∀ x ∈ insS s l, In x := fun x hx => by
  rcases mem_insS.1 hx with rfl | hx
  · exact hs
  · exact hl x hx

theorem put_left {b : Nat} {l r t1 : Tr} {s s0 : Sp} {hh c m : Int} (hg : Good (.node b l r s0 hh c m 0)) (hlt : s.lt s0) (hf : (flat (.node b l r s0 hh c m 0)).length < 1099511627776) (h1 : Good t1) (hp : flat t1 = insS s (flat l)) :
    Good (evenT (.node b t1 r s0 hh c m 0)) ∧ flat (evenT (.node b t1 r s0 hh c m 0)) = insS s (flat (.node b l r s0 hh c m 0)) ∧ (s ∈ flat l ↔ s ∈ flat (.node b l r s0 hh c m 0)) := by
  obtain ⟨gl, gr, hin, o1, o2, o3⟩ := hg.sides
  have he : flat t1 ++ [s0] ++ flat r = insS s (flat (.node b l r s0 hh c m 0)) := by rw [hp, flat_node0, insS_left hlt]
  refine ⟨h1.even gr (by rw [he]; exact ord_insS hg.ord) hin (by rw [he]; have := insS_length s (flat (.node b l r s0 hh c m 0)); omega), by rw [flat_even]; exact he, ?_⟩
  rw [flat_node0]
  refine ⟨fun h => by simp [h], fun h2 => ?_⟩
  rcases List.mem_append.1 h2 with h2 | h2
  · rcases List.mem_append.1 h2 with h2 | h2
    · exact h2
    · rw [List.mem_singleton.1 h2] at hlt; exact absurd hlt (Sp.lt_irrefl _)
  · exact absurd (Sp.lt_trans hlt (o2 s h2)) (Sp.lt_irrefl _)

theorem put_right {b : Nat} {l r t1 : Tr} {s s0 : Sp} {hh c m : Int} (hg : Good (.node b l r s0 hh c m 0)) (hlt : s0.lt s) (hf : (flat (.node b l r s0 hh c m 0)).length < 1099511627776) (h1 : Good t1) (hp : flat t1 = insS s (flat r)) :
    Good (evenT (.node b l t1 s0 hh c m 0)) ∧ flat (evenT (.node b l t1 s0 hh c m 0)) = insS s (flat (.node b l r s0 hh c m 0)) ∧ (s ∈ flat r ↔ s ∈ flat (.node b l r s0 hh c m 0)) := by
  obtain ⟨gl, gr, hin, o1, o2, o3⟩ := hg.sides
  have he : flat l ++ [s0] ++ flat t1 = insS s (flat (.node b l r s0 hh c m 0)) := by rw [hp, flat_node0, insS_right hlt o1]
  refine ⟨gl.even h1 (by rw [he]; exact ord_insS hg.ord) hin (by rw [he]; have := insS_length s (flat (.node b l r s0 hh c m 0)); omega), by rw [flat_even]; exact he, ?_⟩
  rw [flat_node0]
  refine ⟨fun h => by simp [h], fun h2 => ?_⟩
  rcases List.mem_append.1 h2 with h2 | h2
  · rcases List.mem_append.1 h2 with h2 | h2
    · exact absurd (Sp.lt_trans hlt (o1 s h2)) (Sp.lt_irrefl _)
    · rw [List.mem_singleton.1 h2] at hlt; exact absurd hlt (Sp.lt_irrefl _)
  · exact h2

/-- A node, one side of which has become another tree. -/
theorem side_nodup {b : Nat} {l r t1 : Tr} {S : Nat} (hn : (b :: (blks l ++ blks r)).Nodup) (hold : ∀ x ∈ blks t1, x ∈ blks l ∨ S ≤ x) (h1 : (blks t1).Nodup) (hlt : ∀ x ∈ b :: (blks l ++ blks r), x < S) : (b :: (blks t1 ++ blks r)).Nodup := by
  obtain ⟨n1, n2⟩ := List.nodup_cons.1 hn
  obtain ⟨n3, n4, n5⟩ := List.nodup_append.1 n2
  refine List.nodup_cons.2 ⟨fun hm => ?_, List.nodup_append.2 ⟨h1, n4, fun x hx y hy e => ?_⟩⟩
  · rcases List.mem_append.1 hm with hm | hm
    · rcases hold b hm with h | h
      · exact n1 (List.mem_append.2 (.inl h))
      · have := hlt b (by simp); omega
    · exact n1 (List.mem_append.2 (.inr hm))
  · subst e
    rcases hold x hx with h | h
    · exact n5 x h x hy rfl
    · have := hlt x (by simp [hy]); omega

theorem side_nodup2 {b : Nat} {l r t1 : Tr} {S : Nat} (hn : (b :: (blks l ++ blks r)).Nodup) (hold : ∀ x ∈ blks t1, x ∈ blks r ∨ S ≤ x) (h1 : (blks t1).Nodup) (hlt : ∀ x ∈ b :: (blks l ++ blks r), x < S) : (b :: (blks l ++ blks t1)).Nodup := by
  have hp : (b :: (blks l ++ blks t1)).Perm (b :: (blks t1 ++ blks l)) := List.Perm.cons _ List.perm_append_comm
  refine hp.nodup_iff.2 (side_nodup (r := l) (l := r) (S := S) ((List.Perm.cons _ List.perm_append_comm).nodup_iff.1 hn) hold h1 (fun x hx => hlt x ((List.Perm.cons _ List.perm_append_comm).mem_iff.1 hx)))

set_option maxRecDepth 100000 in
set_option maxHeartbeats 1000000 in
theorem put_nil {tb mb : Nat} {rv p0 p1 : Value} (s : Sp) (hs : In s) (st : Int) (w : World) (ht : TrAt w tb mb rv p0 p1 st) :
    Calls Try.prog 43 #[.pointer (some ⟨tb, 0, none⟩), ptrV .nil, spanV s] w fun e w' => ∃ t', e = .returned (.tuple #[ptrV t', .bool (!decide (s ∈ flat .nil))]) ∧ PutRes .nil t' s tb mb rv p0 p1 w w' := by
  show Calls Try.prog 43 #[.pointer (some ⟨tb, 0, none⟩), .pointer none, spanV s] w _
  go_enter Try.func43, Try.ntmps43
  go_upto_region 2 with (fail)
  have HA := Lib.hid (heap_new w (Obj.cells #[Value.int IntKind.i64 s.a, Value.int IntKind.i64 s.b, Value.int IntKind.i64 s.k] 25))
  have HO := Lib.hid ((Only.refl [] w).alloc (Obj.cells #[Value.int IntKind.i64 s.a, Value.int IntKind.i64 s.b, Value.int IntKind.i64 s.k] 25))
  generalize hw1 : w.alloc (Obj.cells #[Value.int IntKind.i64 s.a, Value.int IntKind.i64 s.b, Value.int IntKind.i64 s.k] 25) = w1 at *
  have a0 := cell_of_heap HA.out 0
  have a1 := cell_of_heap HA.out 1
  have a2 := cell_of_heap HA.out 2
  have HSZ := Lib.hid (heap_lt HA.out)
  generalize hsz : w.heap.size = sz at *
  go_wp2_with fail
  have hle : w.heap.size ≤ w1.heap.size := by have := HSZ.out; omega
  have ho2 := HO.out.alloc (Obj.cells (nodeC .nil .nil s 0 0 0 0) 71)
  have hL : Lay (w1.alloc (Obj.cells (nodeC .nil .nil s 0 0 0 0) 71)) (.node w1.heap.size .nil .nil s 0 0 0 0) := ⟨heap_new w1 _, trivial, trivial⟩
  refine (told_walk (b := w1.heap.size) (l := .nil) (r := .nil) (s := s) (hh := 0) (c := 0) (m := 0) (wt := 0) (w1.alloc (Obj.cells (nodeC .nil .nil s 0 0 0 0) 71)) hL (by simp [blks]) ⟨by decide, by decide, by decide⟩).mono ?_
  rintro e w2 ⟨rfl, h2, ho3⟩
  have ht2 := (ht.only ho2 (by simp) (by simp)).only ho3 (fun hm => by have := heap_lt ht.t; rw [List.mem_singleton.1 hm] at this; omega) (fun hm => by have := heap_lt ht.m; rw [List.mem_singleton.1 hm] at this; omega)
  have HO3 := Lib.hid ((ho2.mono (B' := [mb]) (by simp)).trans ho3 (fun x hx => .inr (by rw [List.mem_singleton.1 hx]; exact hle)))
  have H2 := Lib.hid h2
  have HT := Lib.hid ht2
  clear ho2 ho3 h2 ht hL ht2
  go_wp2_with fail
  go_ret2
  refine ⟨toldT (.node w1.heap.size .nil .nil s 0 0 0 0), ?_, H2.out, (by simp [toldT, blks]), Good.nil.told Good.nil (by simp [flat, Ord]) hs (by simp [flat]), by rw [flat_told]; rfl, fun x hx => .inr (by rw [blks_told] at hx; rw [List.mem_singleton.1 hx]; exact hle), ⟨st, ?_⟩, HO3.out⟩
  · simp [flat, toldT, addrT]
  · exact HT.out

set_option maxRecDepth 100000 in
set_option maxHeartbeats 1000000 in
theorem put_walk {tb mb : Nat} {rv p0 p1 : Value} (s : Sp) (hs : In s) : ∀ (n : Nat) (t : Tr) (st : Int) (w : World), (blks t).length ≤ n → Good t → (flat t).length < 1099511627776 → Lay w t → (blks t).Nodup → TrAt w tb mb rv p0 p1 st → tb ∉ blks t → mb ∉ blks t →
    Calls Try.prog 43 #[.pointer (some ⟨tb, 0, none⟩), ptrV t, spanV s] w fun e w' => ∃ t', e = .returned (.tuple #[ptrV t', .bool (!decide (s ∈ flat t))]) ∧ PutRes t t' s tb mb rv p0 p1 w w' := by
  intro n
  induction n with
  | zero =>
    intro t st w hlen hg hf h hn ht htb hmb
    cases t with
    | nil => exact put_nil s hs st w ht
    | node b l r s0 hh c m wt => exact absurd hlen (by simp [blks])
  | succ n ih =>
    intro t st w hlen hg hf h hn ht htb hmb
    cases t with
    | nil => exact put_nil s hs st w ht
    | node b l r s0 hh c m wt =>
      show Calls Try.prog 43 #[.pointer (some ⟨tb, 0, none⟩), .pointer (some ⟨b, 0, none⟩), spanV s] w _
      have hw0 : IntKind.i64.wrap 0 = 0 := by decide
      have hw1 : IntKind.i64.wrap 1 = 1 := by decide
      have hgd := hg.down
      obtain ⟨gl, gr, hin, o1, o2, o3⟩ := hgd.sides
      have hlts := h.lt
      have htb2 := heap_lt ht.t
      have hmb2 := heap_lt ht.m
      obtain ⟨n1, n2, n3, n4, n5⟩ := node_nodup hn
      have hfd : (flat (.node b (moveT wt l) (moveT wt r) s0 hh c m 0)).length < 1099511627776 := by
        rw [show flat (.node b (moveT wt l) (moveT wt r) s0 hh c m 0) = flat (.node b l r s0 hh c m wt) from flat_down (.node b l r s0 hh c m wt)]
        exact hf
      go_enter Try.func43, Try.ntmps43
      go_upto_region 3 with (fail)
      have HA := Lib.hid (heap_new w (Obj.cells #[Value.int IntKind.i64 s.a, Value.int IntKind.i64 s.b, Value.int IntKind.i64 s.k] 25))
      have ho := (Only.refl [] w).alloc (Obj.cells #[Value.int IntKind.i64 s.a, Value.int IntKind.i64 s.b, Value.int IntKind.i64 s.k] 25)
      generalize hw1 : w.alloc (Obj.cells #[Value.int IntKind.i64 s.a, Value.int IntKind.i64 s.b, Value.int IntKind.i64 s.k] 25) = w1 at *
      have HT1 := Lib.hid (ht.only ho (by simp) (by simp))
      have HL1 := Lib.hid (h.only ho (by simp))
      have HO1 := Lib.hid (ho.mono (B' := mb :: blks (.node b l r s0 hh c m wt)) (by simp))
      generalize hsz : w.heap.size = sz at *
      have hszn : sz ∉ mb :: blks (.node b l r s0 hh c m wt) := fun hm => by
        rcases List.mem_cons.1 hm with e | hm
        · omega
        · have := hlts sz hm; omega
      have HN := Lib.hid hszn
      clear ho h ht hw1 hszn
      go_wp2_with fail
      refine (look_walk w1 hg HL1.out hn HT1.out htb hmb).mono ?_
      rintro e w2 ⟨rfl, h2, ⟨st2, ht2⟩, ho2⟩
      have HA2 := Lib.hid (ho2.heap HA.out HN.out)
      have HO2 := Lib.hid (HO1.out.trans ho2 (fun x hx => .inl hx))
      have HL2 := Lib.hid h2
      have HT2 := Lib.hid ht2
      clear ho2 h2 ht2
      have a0 := cell_of_heap HA2.out 0
      have a1 := cell_of_heap HA2.out 1
      have a2 := cell_of_heap HA2.out 2
      have hb2 := lay_cells HL2.out
      have c0 := cell_of_heap hb2 0
      have c1 := cell_of_heap hb2 1
      have c2 := cell_of_heap hb2 2
      clear hb2
      go_upto_region 4 with (fail)
      refine region_pre 5 (fun u => u = w2.drew) (by kernel_rfl) rfl (fun hHeld => ?_)
      refine pre_load 0 (v := ?_) rfl (by kernel_rfl) (by kernel_rfl) (by kernel_rfl) (by kernel_rfl) (fun _ _ _ h => h) (by rfl) (fun u hu => ?_) (by assumption) ?_
      rotate_left
      focus ((try dsimp only at hu); go_simp; (try with_reducible rfl); done)
      try simp only [Act.put, List.setIfInBounds_toArray, List.set_cons_zero, List.set_cons_succ]
      refine pre_free 1 (v := ?_) rfl (by kernel_rfl) (by kernel_rfl) (by kernel_rfl) (by kernel_rfl) (fun _ _ _ h => h) (by rfl) (fun u => ?_) (by assumption) ?_
      rotate_left
      focus (go_simp; (try with_reducible rfl); done)
      try simp only [Act.put, List.setIfInBounds_toArray, List.set_cons_zero, List.set_cons_succ]
      refine pre_free 2 (v := ?_) rfl (by kernel_rfl) (by kernel_rfl) (by kernel_rfl) (by kernel_rfl) (fun _ _ _ h => h) (by rfl) (fun u => ?_) (by assumption) ?_
      rotate_left
      focus (go_simp; (try with_reducible rfl); done)
      try simp only [Act.put, List.setIfInBounds_toArray, List.set_cons_zero, List.set_cons_succ]
      refine pre_free 3 (v := ?_) rfl (by kernel_rfl) (by kernel_rfl) (by kernel_rfl) (by kernel_rfl) (fun _ _ _ h => h) (by rfl) (fun u => ?_) (by assumption) ?_
      rotate_left
      focus (go_simp; (try with_reducible rfl); done)
      try simp only [Act.put, List.setIfInBounds_toArray, List.set_cons_zero, List.set_cons_succ]
      refine pre_load 4 (v := ?_) rfl (by kernel_rfl) (by kernel_rfl) (by kernel_rfl) (by kernel_rfl) (fun _ _ _ h => h) (by rfl) (fun u hu => ?_) (by assumption) ?_
      rotate_left
      focus ((try dsimp only at hu); go_simp; (try with_reducible rfl); done)
      try simp only [Act.put, List.setIfInBounds_toArray, List.set_cons_zero, List.set_cons_succ]
      refine pre_last (by kernel_rfl) rfl (fun K hK => ?_)
      go_simp
      go_at_call 51
      refine (order_walk s s0 w2.drew).mono ?_
      rintro e w3 ⟨rfl, hg3⟩
      have ho3 : Only (mb :: blks (.node b l r s0 hh c m wt)) w2 w3 := (Only.refl _ w2).drew.trans (Only.ofGrown (B := []) hg3) (by simp)
      have hg3' : w2.grownBy w3 none := grownBy_trans (grownBy_drew (grownBy_refl w2 none)) hg3 nofun
      have HA3 := Lib.hid (grownBy_heap hg3' HA2.out nofun)
      have HL3 := Lib.hid (HL2.out.kept hg3')
      have HT3 := Lib.hid (HT2.out.only (Only.ofGrown (B := []) hg3') (by simp) (by simp))
      have HO3 := Lib.hid (HO2.out.trans ho3 (fun x hx => .inl hx))
      clear hg3 ho3 hg3' a0 a1 a2 c0 c1 c2
      try go_simp
      refine hK.out _ _ ?_
      clear hK K
      try simp only [Act.put, List.setIfInBounds_toArray, List.set_cons_zero, List.set_cons_succ]
      refine aw_one 6 (by kernel_rfl) rfl (fun K hK => ?_)
      go_simp
      refine hK.out _ _ ?_
      clear hK K
      try simp only [Act.put, List.setIfInBounds_toArray, List.set_cons_zero, List.set_cons_succ]
      refine aw_done (by kernel_rfl) ?_
      rcases cmpS_cases s s0 with ⟨hcs, hlt⟩ | ⟨hcs, hlt⟩ | ⟨hcs, hlt⟩
      · have HX := Lib.hid hlt
        have hb3 := lay_cells HL3.out
        have d3 := cell_of_heap hb3 3
        have a0 := cell_of_heap HA3.out 0
        have a1 := cell_of_heap HA3.out 1
        have a2 := cell_of_heap HA3.out 2
        clear hlt hb3
        go_upto_region 8 with (fail)
        refine region_pre 8 (fun u => u = w3.drew) (by kernel_rfl) rfl (fun hHeld => ?_)
        refine pre_free 0 (v := ?_) rfl (by kernel_rfl) (by kernel_rfl) (by kernel_rfl) (by kernel_rfl) (fun _ _ _ h => h) (by rfl) (fun u => ?_) (by assumption) ?_
        rotate_left
        focus (go_simp; (try with_reducible rfl); done)
        try simp only [Act.put, List.setIfInBounds_toArray, List.set_cons_zero, List.set_cons_succ]
        refine pre_free 1 (v := ?_) rfl (by kernel_rfl) (by kernel_rfl) (by kernel_rfl) (by kernel_rfl) (fun _ _ _ h => h) (by rfl) (fun u => ?_) (by assumption) ?_
        rotate_left
        focus (go_simp; (try with_reducible rfl); done)
        try simp only [Act.put, List.setIfInBounds_toArray, List.set_cons_zero, List.set_cons_succ]
        refine pre_free 2 (v := ?_) rfl (by kernel_rfl) (by kernel_rfl) (by kernel_rfl) (by kernel_rfl) (fun _ _ _ h => h) (by rfl) (fun u => ?_) (by assumption) ?_
        rotate_left
        focus (go_simp; (try with_reducible rfl); done)
        try simp only [Act.put, List.setIfInBounds_toArray, List.set_cons_zero, List.set_cons_succ]
        refine pre_free 3 (v := ?_) rfl (by kernel_rfl) (by kernel_rfl) (by kernel_rfl) (by kernel_rfl) (fun _ _ _ h => h) (by rfl) (fun u => ?_) (by assumption) ?_
        rotate_left
        focus (go_simp; (try with_reducible rfl); done)
        try simp only [Act.put, List.setIfInBounds_toArray, List.set_cons_zero, List.set_cons_succ]
        refine pre_free 4 (v := ?_) rfl (by kernel_rfl) (by kernel_rfl) (by kernel_rfl) (by kernel_rfl) (fun _ _ _ h => h) (by rfl) (fun u => ?_) (by assumption) ?_
        rotate_left
        focus (go_simp; (try with_reducible rfl); done)
        try simp only [Act.put, List.setIfInBounds_toArray, List.set_cons_zero, List.set_cons_succ]
        refine pre_free 5 (v := ?_) rfl (by kernel_rfl) (by kernel_rfl) (by kernel_rfl) (by kernel_rfl) (fun _ _ _ h => h) (by rfl) (fun u => ?_) (by assumption) ?_
        rotate_left
        focus (go_simp; (try with_reducible rfl); done)
        try simp only [Act.put, List.setIfInBounds_toArray, List.set_cons_zero, List.set_cons_succ]
        refine pre_load 6 (v := ?_) rfl (by kernel_rfl) (by kernel_rfl) (by kernel_rfl) (by kernel_rfl) (fun _ _ _ h => h) (by rfl) (fun u hu => ?_) (by assumption) ?_
        rotate_left
        focus ((try dsimp only at hu); go_simp; (try with_reducible rfl); done)
        try simp only [Act.put, List.setIfInBounds_toArray, List.set_cons_zero, List.set_cons_succ]
        refine pre_load 7 (v := ?_) rfl (by kernel_rfl) (by kernel_rfl) (by kernel_rfl) (by kernel_rfl) (fun _ _ _ h => h) (by rfl) (fun u hu => ?_) (by assumption) ?_
        rotate_left
        focus ((try dsimp only at hu); go_simp; (try with_reducible rfl); done)
        try simp only [Act.put, List.setIfInBounds_toArray, List.set_cons_zero, List.set_cons_succ]
        refine pre_last (by kernel_rfl) rfl (fun K hK => ?_)
        go_simp
        go_at_call 43
        refine (ih (moveT wt l) _ w3.drew (by rw [blks_move]; simp [blks] at hlen; omega) gl (by rw [flat_move, adds_length]; change (adds wt (flat l) ++ [s0] ++ adds wt (flat r)).length < _ at hf; simp [adds_length] at hf; omega) (HL3.out.2.1.same rfl) (by rw [blks_move]; exact n3) (HT3.out.only (Only.refl [] w3).drew (by simp) (by simp)) (by rw [blks_move]; exact fun hm => htb (by simp [blks, hm])) (by rw [blks_move]; exact fun hm => hmb (by simp [blks, hm]))).mono ?_
        rintro e w4 ⟨t1, rfl, q1, q2, q3, q4, q5, ⟨st4, q6⟩, q7⟩
        rw [blks_move] at q5 q7
        have hO4 : Only (mb :: blks (.node b l r s0 hh c m wt)) w3 w4 := (Only.refl _ w3).drew.trans q7 (fun x hx => .inl (by rcases List.mem_cons.1 hx with rfl | hx; simp; simp [blks, hx]))
        have q7' : Only (mb :: blks l) w3 w4 := (Only.refl _ w3).drew.trans q7 (fun x hx => .inl hx)
        have hbn : b ∉ mb :: blks l := fun hm => by
          rcases List.mem_cons.1 hm with e | hm
          · exact hmb (by simp [blks, e])
          · exact n1 b hm rfl
        have hb4 := q7'.heap (lay_cells HL3.out) hbn
        have hr4 := (HL3.out.2.2).only q7' (fun x hx hm => by
          rw [blks_move] at hx
          rcases List.mem_cons.1 hm with e | hm
          · exact hmb (by rw [← e]; simp [blks, hx])
          · exact n5 x hm hx)
        have hsz3 : sz ≤ w3.heap.size := Nat.le_of_lt (heap_lt HA3.out)
        have hlt3 : ∀ x ∈ b :: (blks l ++ blks r), x < w3.drew.heap.size := fun x hx => by
          have := hlts x hx
          show x < w3.heap.size
          omega
        have hbt1 : ∀ x ∈ blks t1, x ≠ b := fun x hx e => by
          rcases q5 x hx with h | h
          · exact n1 x h e
          · have := hlt3 b (by simp); omega
        have hnd := side_nodup (S := w3.drew.heap.size) hn q5 q2 hlt3
        have e3 := cell_of_heap hb4 3
        have f3 := frozen_of_heap hb4 3
        have ho5 := (Only.refl [b] w4).setCell (p := ⟨b, 3, none⟩) (.inl (by simp)) (ptrV t1)
        have hb5 := heap_setCell hb4 3 (ptrV t1)
        have ht5 := q1.only ho5 (fun x hx hm => hbt1 x hx (List.mem_singleton.1 hm))
        have hr5 := hr4.only ho5 (fun x hx hm => n2 x (by rw [blks_move] at hx; exact hx) (List.mem_singleton.1 hm))
        have hL5 : Lay _ (Tr.node b t1 (moveT wt r) s0 hh c m 0) := ⟨hb5, ht5, hr5⟩
        have hT5 := q6.only ho5 (fun hm => htb (by rw [List.mem_singleton.1 hm]; simp [blks])) (fun hm => hmb (by rw [List.mem_singleton.1 hm]; simp [blks]))
        have HL5 := Lib.hid hL5
        have HT5 := Lib.hid hT5
        have HND := Lib.hid (show (b :: (blks t1 ++ blks (moveT wt r))).Nodup by rw [blks_move]; exact hnd)
        have HO5 := Lib.hid ((HO3.out.trans hO4 (fun x hx => .inl hx)).trans ho5 (fun x hx => .inl (by rw [List.mem_singleton.1 hx]; simp [blks])))
        have HP := Lib.hid (put_left hgd HX.out hfd q3 q4)
        have HQ := Lib.hid q5
        have HG1 := Lib.hid q3
        have HS := Lib.hid hsz3
        clear q1 q2 q4 q5 q6 q7 q7' hO4 hb4 hr4 ho5 hb5 ht5 hr5 hL5 hT5 hnd hbn hsz3 hlt3 hbt1 q3 a0 a1 a2 d3
        generalize hdd : (!decide (s ∈ flat (moveT wt l))) = dd at *
        try go_simp
        refine hK.out _ _ ?_
        clear hK K
        try simp only [Act.put, List.setIfInBounds_toArray, List.set_cons_zero, List.set_cons_succ]
        refine aw_free 9 (v := ?_) rfl (by kernel_rfl) (by kernel_rfl) (by kernel_rfl) (fun _ _ _ h => h) (by rfl) (fun u => ?_) ?_
        rotate_left
        focus (go_simp; (try with_reducible rfl); done)
        try simp only [Act.put, List.setIfInBounds_toArray, List.set_cons_zero, List.set_cons_succ]
        refine aw_free 10 (v := ?_) rfl (by kernel_rfl) (by kernel_rfl) (by kernel_rfl) (fun _ _ _ h => h) (by rfl) (fun u => ?_) ?_
        rotate_left
        focus (go_simp; (try with_reducible rfl); done)
        try simp only [Act.put, List.setIfInBounds_toArray, List.set_cons_zero, List.set_cons_succ]
        refine aw_free 12 (v := ?_) rfl (by kernel_rfl) (by kernel_rfl) (by kernel_rfl) (fun _ _ _ h => h) (by rfl) (fun u => ?_) ?_
        rotate_left
        focus (go_simp; (try with_reducible rfl); done)
        try simp only [Act.put, List.setIfInBounds_toArray, List.set_cons_zero, List.set_cons_succ]
        refine aw_free 11 (v := ?_) rfl (by kernel_rfl) (by kernel_rfl) (by kernel_rfl) (fun _ _ _ h => h) (by rfl) (fun u => ?_) ?_
        rotate_left
        focus (go_simp; (try with_reducible rfl); done)
        try simp only [Act.put, List.setIfInBounds_toArray, List.set_cons_zero, List.set_cons_succ]
        refine aw_free 13 (v := ?_) rfl (by kernel_rfl) (by kernel_rfl) (by kernel_rfl) (fun _ _ _ h => h) (by rfl) (fun u => ?_) ?_
        rotate_left
        focus (go_simp; (try with_reducible rfl); done)
        try simp only [Act.put, List.setIfInBounds_toArray, List.set_cons_zero, List.set_cons_succ]
        refine aw_done (by kernel_rfl) ?_
        generalize hw5 : w4.setCell ⟨b, 3, none⟩ (ptrV t1) = w5 at *
        go_wp2_with fail
        refine (even_walk (b := b) (l := t1) (r := moveT wt r) (s := s0) w5 HL5.out HND.out HG1.out gr).mono ?_
        rintro e w6 ⟨rfl, h6, ho6⟩
        have HX6 := Lib.hid h6
        have HO6 := Lib.hid ho6
        clear h6 ho6
        go_wp2_with fail
        go_ret2
        obtain ⟨p1', p2', p3'⟩ := HP.out
        have hpe : (blks (evenT (.node b t1 (moveT wt r) s0 hh c m 0))).Perm (b :: (blks t1 ++ blks (moveT wt r))) := perm_even
        have hnew : ∀ x ∈ b :: (blks t1 ++ blks (moveT wt r)), x ∈ blks (Tr.node b l r s0 hh c m wt) ∨ sz ≤ x := fun x hx => by
          rcases List.mem_cons.1 hx with rfl | hx
          · exact .inl (by simp [blks])
          · rcases List.mem_append.1 hx with hx | hx
            · have := HQ.out x hx; rcases this with h | h; exact .inl (by simp [blks, h]); exact .inr (Nat.le_trans HS.out h)
            · rw [blks_move] at hx; exact .inl (by simp [blks, hx])
        refine ⟨evenT (.node b t1 (moveT wt r) s0 hh c m 0), ?_, HX6.out, hpe.nodup_iff.2 HND.out, p1', by rw [p2']; exact congrArg _ (flat_down (.node b l r s0 hh c m wt)), fun x hx => by rw [hsz]; exact hnew x (hpe.mem_iff.1 hx), ⟨_, HT5.out.only HO6.out (fun hm => ?_) (fun hm => ?_)⟩, HO5.out.trans HO6.out (fun x hx => by
            rcases hnew x hx with h | h
            · exact .inl (List.mem_cons_of_mem _ h)
            · exact .inr (by rw [hsz]; exact h))⟩
        · have hde : (!decide (s ∈ flat (Tr.node b l r s0 hh c m wt))) = dd := by
            rw [← hdd]
            exact congrArg not (decide_eq_decide.2 (by rw [p3', ← flat_down (.node b l r s0 hh c m wt)]; rfl))
          rw [hde]
          rfl
        · rcases hnew tb hm with h | h
          · exact htb h
          · omega
        · rcases hnew mb hm with h | h
          · exact hmb h
          · omega
      · have HX := Lib.hid hlt
        clear hlt
        go_wp2_with fail
        go_ret2
        have hlt := HX.out
        subst hlt
        have hm : s ∈ flat (.node b l r s hh c m wt) := mem_node
        refine ⟨downT (.node b l r s hh c m wt), by rw [show decide (s ∈ flat (.node b l r s hh c m wt)) = true by simp [hm]]; rfl, HL3.out, by rw [blks_down]; exact hn, hgd, ?_, fun x hx => .inl (by rw [blks_down] at hx; exact hx), ⟨_, HT3.out⟩, HO3.out⟩
        rw [flat_down]
        show adds wt (flat l) ++ [s] ++ adds wt (flat r) = insS s (adds wt (flat l) ++ [s] ++ adds wt (flat r))
        rw [insS_mid]
        rw [flat_move] at o1
        exact o1
      · have HX := Lib.hid hlt
        have hb3 := lay_cells HL3.out
        have d3 := cell_of_heap hb3 4
        have a0 := cell_of_heap HA3.out 0
        have a1 := cell_of_heap HA3.out 1
        have a2 := cell_of_heap HA3.out 2
        clear hlt hb3
        go_upto_region 8 with (fail)
        refine region_pre 8 (fun u => u = w3.drew) (by kernel_rfl) rfl (fun hHeld => ?_)
        refine pre_free 0 (v := ?_) rfl (by kernel_rfl) (by kernel_rfl) (by kernel_rfl) (by kernel_rfl) (fun _ _ _ h => h) (by rfl) (fun u => ?_) (by assumption) ?_
        rotate_left
        focus (go_simp; (try with_reducible rfl); done)
        try simp only [Act.put, List.setIfInBounds_toArray, List.set_cons_zero, List.set_cons_succ]
        refine pre_free 1 (v := ?_) rfl (by kernel_rfl) (by kernel_rfl) (by kernel_rfl) (by kernel_rfl) (fun _ _ _ h => h) (by rfl) (fun u => ?_) (by assumption) ?_
        rotate_left
        focus (go_simp; (try with_reducible rfl); done)
        try simp only [Act.put, List.setIfInBounds_toArray, List.set_cons_zero, List.set_cons_succ]
        refine pre_free 2 (v := ?_) rfl (by kernel_rfl) (by kernel_rfl) (by kernel_rfl) (by kernel_rfl) (fun _ _ _ h => h) (by rfl) (fun u => ?_) (by assumption) ?_
        rotate_left
        focus (go_simp; (try with_reducible rfl); done)
        try simp only [Act.put, List.setIfInBounds_toArray, List.set_cons_zero, List.set_cons_succ]
        refine pre_free 3 (v := ?_) rfl (by kernel_rfl) (by kernel_rfl) (by kernel_rfl) (by kernel_rfl) (fun _ _ _ h => h) (by rfl) (fun u => ?_) (by assumption) ?_
        rotate_left
        focus (go_simp; (try with_reducible rfl); done)
        try simp only [Act.put, List.setIfInBounds_toArray, List.set_cons_zero, List.set_cons_succ]
        refine pre_free 4 (v := ?_) rfl (by kernel_rfl) (by kernel_rfl) (by kernel_rfl) (by kernel_rfl) (fun _ _ _ h => h) (by rfl) (fun u => ?_) (by assumption) ?_
        rotate_left
        focus (go_simp; (try with_reducible rfl); done)
        try simp only [Act.put, List.setIfInBounds_toArray, List.set_cons_zero, List.set_cons_succ]
        refine pre_free 5 (v := ?_) rfl (by kernel_rfl) (by kernel_rfl) (by kernel_rfl) (by kernel_rfl) (fun _ _ _ h => h) (by rfl) (fun u => ?_) (by assumption) ?_
        rotate_left
        focus (go_simp; (try with_reducible rfl); done)
        try simp only [Act.put, List.setIfInBounds_toArray, List.set_cons_zero, List.set_cons_succ]
        refine pre_load 6 (v := ?_) rfl (by kernel_rfl) (by kernel_rfl) (by kernel_rfl) (by kernel_rfl) (fun _ _ _ h => h) (by rfl) (fun u hu => ?_) (by assumption) ?_
        rotate_left
        focus ((try dsimp only at hu); go_simp; (try with_reducible rfl); done)
        try simp only [Act.put, List.setIfInBounds_toArray, List.set_cons_zero, List.set_cons_succ]
        refine pre_load 7 (v := ?_) rfl (by kernel_rfl) (by kernel_rfl) (by kernel_rfl) (by kernel_rfl) (fun _ _ _ h => h) (by rfl) (fun u hu => ?_) (by assumption) ?_
        rotate_left
        focus ((try dsimp only at hu); go_simp; (try with_reducible rfl); done)
        try simp only [Act.put, List.setIfInBounds_toArray, List.set_cons_zero, List.set_cons_succ]
        refine pre_last (by kernel_rfl) rfl (fun K hK => ?_)
        go_simp
        go_at_call 43
        refine (ih (moveT wt r) _ w3.drew (by rw [blks_move]; simp [blks] at hlen; omega) gr (by rw [flat_move, adds_length]; change (adds wt (flat l) ++ [s0] ++ adds wt (flat r)).length < _ at hf; simp [adds_length] at hf; omega) (HL3.out.2.2.same rfl) (by rw [blks_move]; exact n4) (HT3.out.only (Only.refl [] w3).drew (by simp) (by simp)) (by rw [blks_move]; exact fun hm => htb (by simp [blks, hm])) (by rw [blks_move]; exact fun hm => hmb (by simp [blks, hm]))).mono ?_
        rintro e w4 ⟨t1, rfl, q1, q2, q3, q4, q5, ⟨st4, q6⟩, q7⟩
        rw [blks_move] at q5 q7
        have hO4 : Only (mb :: blks (.node b l r s0 hh c m wt)) w3 w4 := (Only.refl _ w3).drew.trans q7 (fun x hx => .inl (by rcases List.mem_cons.1 hx with rfl | hx; simp; simp [blks, hx]))
        have q7' : Only (mb :: blks r) w3 w4 := (Only.refl _ w3).drew.trans q7 (fun x hx => .inl hx)
        have hbn : b ∉ mb :: blks r := fun hm => by
          rcases List.mem_cons.1 hm with e | hm
          · exact hmb (by simp [blks, e])
          · exact n2 b hm rfl
        have hb4 := q7'.heap (lay_cells HL3.out) hbn
        have hr4 := (HL3.out.2.1).only q7' (fun x hx hm => by
          rw [blks_move] at hx
          rcases List.mem_cons.1 hm with e | hm
          · exact hmb (by rw [← e]; simp [blks, hx])
          · exact n5 x hx hm)
        have hsz3 : sz ≤ w3.heap.size := Nat.le_of_lt (heap_lt HA3.out)
        have hlt3 : ∀ x ∈ b :: (blks l ++ blks r), x < w3.drew.heap.size := fun x hx => by
          have := hlts x hx
          show x < w3.heap.size
          omega
        have hbt1 : ∀ x ∈ blks t1, x ≠ b := fun x hx e => by
          rcases q5 x hx with h | h
          · exact n2 x h e
          · have := hlt3 b (by simp); omega
        have hnd := side_nodup2 (S := w3.drew.heap.size) hn q5 q2 hlt3
        have e3 := cell_of_heap hb4 4
        have f3 := frozen_of_heap hb4 4
        have ho5 := (Only.refl [b] w4).setCell (p := ⟨b, 4, none⟩) (.inl (by simp)) (ptrV t1)
        have hb5 := heap_setCell hb4 4 (ptrV t1)
        have ht5 := q1.only ho5 (fun x hx hm => hbt1 x hx (List.mem_singleton.1 hm))
        have hr5 := hr4.only ho5 (fun x hx hm => n1 x (by rw [blks_move] at hx; exact hx) (List.mem_singleton.1 hm))
        have hL5 : Lay _ (Tr.node b (moveT wt l) t1 s0 hh c m 0) := ⟨hb5, hr5, ht5⟩
        have hT5 := q6.only ho5 (fun hm => htb (by rw [List.mem_singleton.1 hm]; simp [blks])) (fun hm => hmb (by rw [List.mem_singleton.1 hm]; simp [blks]))
        have HL5 := Lib.hid hL5
        have HT5 := Lib.hid hT5
        have HND := Lib.hid (show (b :: (blks (moveT wt l) ++ blks t1)).Nodup by rw [blks_move]; exact hnd)
        have HO5 := Lib.hid ((HO3.out.trans hO4 (fun x hx => .inl hx)).trans ho5 (fun x hx => .inl (by rw [List.mem_singleton.1 hx]; simp [blks])))
        have HP := Lib.hid (put_right hgd HX.out hfd q3 q4)
        have HQ := Lib.hid q5
        have HG1 := Lib.hid q3
        have HS := Lib.hid hsz3
        clear q1 q2 q4 q5 q6 q7 q7' hO4 hb4 hr4 ho5 hb5 ht5 hr5 hL5 hT5 hnd hbn hsz3 hlt3 hbt1 q3 a0 a1 a2 d3
        generalize hdd : (!decide (s ∈ flat (moveT wt r))) = dd at *
        try go_simp
        refine hK.out _ _ ?_
        clear hK K
        try simp only [Act.put, List.setIfInBounds_toArray, List.set_cons_zero, List.set_cons_succ]
        refine aw_free 9 (v := ?_) rfl (by kernel_rfl) (by kernel_rfl) (by kernel_rfl) (fun _ _ _ h => h) (by rfl) (fun u => ?_) ?_
        rotate_left
        focus (go_simp; (try with_reducible rfl); done)
        try simp only [Act.put, List.setIfInBounds_toArray, List.set_cons_zero, List.set_cons_succ]
        refine aw_free 10 (v := ?_) rfl (by kernel_rfl) (by kernel_rfl) (by kernel_rfl) (fun _ _ _ h => h) (by rfl) (fun u => ?_) ?_
        rotate_left
        focus (go_simp; (try with_reducible rfl); done)
        try simp only [Act.put, List.setIfInBounds_toArray, List.set_cons_zero, List.set_cons_succ]
        refine aw_free 12 (v := ?_) rfl (by kernel_rfl) (by kernel_rfl) (by kernel_rfl) (fun _ _ _ h => h) (by rfl) (fun u => ?_) ?_
        rotate_left
        focus (go_simp; (try with_reducible rfl); done)
        try simp only [Act.put, List.setIfInBounds_toArray, List.set_cons_zero, List.set_cons_succ]
        refine aw_free 11 (v := ?_) rfl (by kernel_rfl) (by kernel_rfl) (by kernel_rfl) (fun _ _ _ h => h) (by rfl) (fun u => ?_) ?_
        rotate_left
        focus (go_simp; (try with_reducible rfl); done)
        try simp only [Act.put, List.setIfInBounds_toArray, List.set_cons_zero, List.set_cons_succ]
        refine aw_free 13 (v := ?_) rfl (by kernel_rfl) (by kernel_rfl) (by kernel_rfl) (fun _ _ _ h => h) (by rfl) (fun u => ?_) ?_
        rotate_left
        focus (go_simp; (try with_reducible rfl); done)
        try simp only [Act.put, List.setIfInBounds_toArray, List.set_cons_zero, List.set_cons_succ]
        refine aw_done (by kernel_rfl) ?_
        generalize hw5 : w4.setCell ⟨b, 4, none⟩ (ptrV t1) = w5 at *
        go_wp2_with fail
        refine (even_walk (b := b) (l := moveT wt l) (r := t1) (s := s0) w5 HL5.out HND.out gl HG1.out).mono ?_
        rintro e w6 ⟨rfl, h6, ho6⟩
        have HX6 := Lib.hid h6
        have HO6 := Lib.hid ho6
        clear h6 ho6
        go_wp2_with fail
        go_ret2
        obtain ⟨p1', p2', p3'⟩ := HP.out
        have hpe : (blks (evenT (.node b (moveT wt l) t1 s0 hh c m 0))).Perm (b :: (blks (moveT wt l) ++ blks t1)) := perm_even
        have hnew : ∀ x ∈ b :: (blks (moveT wt l) ++ blks t1), x ∈ blks (Tr.node b l r s0 hh c m wt) ∨ sz ≤ x := fun x hx => by
          rcases List.mem_cons.1 hx with rfl | hx
          · exact .inl (by simp [blks])
          · rcases List.mem_append.1 hx with hx | hx
            · rw [blks_move] at hx; exact .inl (by simp [blks, hx])
            · have := HQ.out x hx; rcases this with h | h; exact .inl (by simp [blks, h]); exact .inr (Nat.le_trans HS.out h)
        refine ⟨evenT (.node b (moveT wt l) t1 s0 hh c m 0), ?_, HX6.out, hpe.nodup_iff.2 HND.out, p1', by rw [p2']; exact congrArg _ (flat_down (.node b l r s0 hh c m wt)), fun x hx => by rw [hsz]; exact hnew x (hpe.mem_iff.1 hx), ⟨_, HT5.out.only HO6.out (fun hm => ?_) (fun hm => ?_)⟩, HO5.out.trans HO6.out (fun x hx => by
            rcases hnew x hx with h | h
            · exact .inl (List.mem_cons_of_mem _ h)
            · exact .inr (by rw [hsz]; exact h))⟩
        · have hde : (!decide (s ∈ flat (Tr.node b l r s0 hh c m wt))) = dd := by
            rw [← hdd]
            exact congrArg not (decide_eq_decide.2 (by rw [p3', ← flat_down (.node b l r s0 hh c m wt)]; rfl))
          rw [hde]
          rfl
        · rcases hnew tb hm with h | h
          · exact htb h
          · omega
        · rcases hnew mb hm with h | h
          · exact hmb h
          · omega
end Go.Proofs.Ytijpienjejfmiaa
