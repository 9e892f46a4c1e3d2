/-
  Marks' tail: the spans that begin at a place at least, by so much: the walk. No conditions beyond those that the law names.
-/
import Derived.Test.YtijpienjejfmiaaMkV
namespace Go.Proofs.Ytijpienjejfmiaa
open Go Go.RowKit

/-- What tail leaves of a tree. -/
structure TailRes (f d : Int) (t t' : Tr) (tb mb : Nat) (rv p0 p1 : Value) (w w' : World) : Prop where
  lay : Lay w' t'
  good : Good t'
  spans : flat t' = tailS f d (flat t)
  same : blks t' = blks t
  addr : addrT t' = addrT t
  tr : ∃ st', TrAt w' tb mb rv p0 p1 st'
  only : Only (mb :: blks t) w w'

theorem Good.move {t : Tr} {d : Int} (h : Good t) (hp : ∀ x ∈ adds d (flat t), In x) : Good (moveT d t) :=
  ⟨h.tells.move d, by rw [flat_move]; exact (Ord.adds d).2 h.ord, h.stl.move d, by rw [flat_move]; exact hp, by rw [flat_move, adds_length]; exact h.few⟩

theorem tail_late {b : Nat} {l r : Tr} {s : Sp} {h c m f d : Int} (hg : Good (.node b l r s h c m 0)) (hs : f ≤ s.a) :
    tailS f d (flat (.node b l r s h c m 0)) = tailS f d (flat l) ++ [s.add d] ++ adds d (flat r) := by
  obtain ⟨_, _, _, o1, o2, _⟩ := hg.sides
  rw [flat_node0, tailS_append, tailS_append, tailS_all (l := flat r) (fun x hx => by have := lt_a (o2 x hx); omega)]
  simp [tailS, hs]

theorem tail_early {b : Nat} {l r : Tr} {s : Sp} {h c m f d : Int} (hg : Good (.node b l r s h c m 0)) (hs : s.a < f) :
    tailS f d (flat (.node b l r s h c m 0)) = flat l ++ [s] ++ tailS f d (flat r) := by
  obtain ⟨_, _, _, o1, o2, _⟩ := hg.sides
  rw [flat_node0, tailS_append, tailS_append, tailS_none (l := flat l) (fun x hx => by have := lt_a (o1 x hx); omega)]
  have : ¬ f ≤ s.a := by omega
  simp [tailS, this]

theorem tailS_length (f d : Int) (l : List Sp) : (tailS f d l).length = l.length := List.length_map ..

set_option maxRecDepth 100000 in
set_option maxHeartbeats 2000000 in
theorem tail_walk {tb mb : Nat} {rv p0 p1 : Value} (f d : Int) (hd : -2199023255552 ≤ d ∧ d ≤ 2199023255552) : ∀ (n : Nat) (t : Tr) (st : Int) (w : World), (blks t).length ≤ n → Good t → Ord (tailS f d (flat t)) → (∀ x ∈ tailS f d (flat t), In x) → Lay w t → (blks t).Nodup → TrAt w tb mb rv p0 p1 st → tb ∉ blks t → mb ∉ blks t →
    Calls Try.prog 47 #[.pointer (some ⟨tb, 0, none⟩), ptrV t, .int .i64 f, .int .i64 d] w fun e w' => ∃ t', e = .returned (.tuple #[]) ∧ TailRes f d t t' tb mb rv p0 p1 w w' := by
  intro n
  induction n with
  | zero =>
    intro t st w hlen hg hto htp h hn ht htb hmb
    cases t with
    | nil =>
      show Calls Try.prog 47 #[.pointer (some ⟨tb, 0, none⟩), .pointer none, .int .i64 f, .int .i64 d] w _
      go_enter Try.func47, Try.ntmps47
      go_wp2_with fail
      (try simp only [Exit.inBlock, Exit.then])
      refine bodyPost_ret (results_none rfl _ _ _) rfl ?_
      exact ⟨.nil, rfl, trivial, Good.nil, rfl, rfl, rfl, ⟨_, ht⟩, Only.refl _ _⟩
    | node b l r s0 hh c m wt => exact absurd hlen (by simp [blks])
  | succ n ih =>
    intro t st w hlen hg hto htp h hn ht htb hmb
    have hgd := hg.down
    cases t with
    | nil =>
      show Calls Try.prog 47 #[.pointer (some ⟨tb, 0, none⟩), .pointer none, .int .i64 f, .int .i64 d] w _
      go_enter Try.func47, Try.ntmps47
      go_wp2_with fail
      (try simp only [Exit.inBlock, Exit.then])
      refine bodyPost_ret (results_none rfl _ _ _) rfl ?_
      exact ⟨.nil, rfl, trivial, Good.nil, rfl, rfl, rfl, ⟨_, ht⟩, Only.refl _ _⟩
    | node b l r s0 hh c m wt =>
      show Calls Try.prog 47 #[.pointer (some ⟨tb, 0, none⟩), .pointer (some ⟨b, 0, none⟩), .int .i64 f, .int .i64 d] w _
      obtain ⟨gl, gr, hin, o1, o2, o3⟩ := hgd.sides
      have hfd : flat (.node b (moveT wt l) (moveT wt r) s0 hh c m 0) = flat (.node b l r s0 hh c m wt) := flat_down (.node b l r s0 hh c m wt)
      have hfew := hgd.few
      obtain ⟨n1, n2, n3, n4, n5⟩ := node_nodup hn
      have hbl : b ∉ mb :: blks l := fun hm => by
        rcases List.mem_cons.1 hm with e | hm
        · exact hmb (by simp [blks, e])
        · exact n1 b hm rfl
      have hbr : b ∉ mb :: blks r := fun hm => by
        rcases List.mem_cons.1 hm with e | hm
        · exact hmb (by simp [blks, e])
        · exact n2 b hm rfl
      go_enter Try.func47, Try.ntmps47
      go_wp2_with fail
      refine (look_walk w hg h hn ht htb hmb).mono ?_
      rintro e w2 ⟨rfl, h2, ⟨st2, ht2⟩, ho2⟩
      have hb2 : NodeA b (moveT wt l) (moveT wt r) s0 hh c m 0 w2 := lay_cells h2
      have c0 := cell_of_heap hb2 0
      have c1 := cell_of_heap hb2 1
      have f0 := frozen_of_heap hb2 0
      have f1 := frozen_of_heap hb2 1
      have HB2 := Lib.hid hb2
      have HL2 := Lib.hid h2
      have HT2 := Lib.hid ht2
      have HO2 := Lib.hid ho2
      clear hb2 h2 ht2 ho2
      by_cases hlate : f ≤ s0.a
      · have he := tail_late (d := d) hgd hlate
        rw [hfd] at he
        rw [he] at hto htp
        obtain ⟨p1', p2', p3', p4', p5'⟩ := ord_mid.1 hto
        have hins : In (s0.add d) := htp _ (by simp)
        have hinr : ∀ x ∈ adds d (flat (moveT wt r)), In x := fun x hx => htp x (by simp [hx])
        have hinl : ∀ x ∈ tailS f d (flat (moveT wt l)), In x := fun x hx => htp x (by simp [hx])
        have hlen2 : (tailS f d (flat (moveT wt l)) ++ [s0.add d] ++ adds d (flat (moveT wt r))).length ≤ 1099511627776 := by
          rw [← he, tailS_length, ← hfd]; exact hfew
        have hwa : IntKind.i64.wrap (s0.a + d) = s0.a + d := wrap_fit (by unfold In at hin; omega)
        have hwb : IntKind.i64.wrap (s0.b + d) = s0.b + d := wrap_fit (by unfold In at hin; omega)
        have HE := Lib.hid he
        clear he
        go_upto_region 3 with (fail)
        refine region_pre 19 (fun u => u = w2.drew) (by kernel_rfl) rfl (fun hHeld => ?_)
        refine pre_free 0 (v := ?_) rfl (by kernel_rfl) (by kernel_rfl) (by kernel_rfl) (by kernel_rfl) (fun _ _ _ h => h) (by rfl) (fun u => ?_) (by assumption) ?_
        rotate_left
        focus (go_simp; (try with_reducible rfl); done)
        try simp only [Act.put, List.setIfInBounds_toArray, List.set_cons_zero, List.set_cons_succ]
        refine pre_free 1 (v := ?_) rfl (by kernel_rfl) (by kernel_rfl) (by kernel_rfl) (by kernel_rfl) (fun _ _ _ h => h) (by rfl) (fun u => ?_) (by assumption) ?_
        rotate_left
        focus (go_simp; (try with_reducible rfl); done)
        try simp only [Act.put, List.setIfInBounds_toArray, List.set_cons_zero, List.set_cons_succ]
        refine pre_free 2 (v := ?_) rfl (by kernel_rfl) (by kernel_rfl) (by kernel_rfl) (by kernel_rfl) (fun _ _ _ h => h) (by rfl) (fun u => ?_) (by assumption) ?_
        rotate_left
        focus (go_simp; (try with_reducible rfl); done)
        try simp only [Act.put, List.setIfInBounds_toArray, List.set_cons_zero, List.set_cons_succ]
        refine pre_free 3 (v := ?_) rfl (by kernel_rfl) (by kernel_rfl) (by kernel_rfl) (by kernel_rfl) (fun _ _ _ h => h) (by rfl) (fun u => ?_) (by assumption) ?_
        rotate_left
        focus (go_simp; (try with_reducible rfl); done)
        try simp only [Act.put, List.setIfInBounds_toArray, List.set_cons_zero, List.set_cons_succ]
        refine pre_free 4 (v := ?_) rfl (by kernel_rfl) (by kernel_rfl) (by kernel_rfl) (by kernel_rfl) (fun _ _ _ h => h) (by rfl) (fun u => ?_) (by assumption) ?_
        rotate_left
        focus (go_simp; (try with_reducible rfl); done)
        try simp only [Act.put, List.setIfInBounds_toArray, List.set_cons_zero, List.set_cons_succ]
        refine pre_free 5 (v := ?_) rfl (by kernel_rfl) (by kernel_rfl) (by kernel_rfl) (by kernel_rfl) (fun _ _ _ h => h) (by rfl) (fun u => ?_) (by assumption) ?_
        rotate_left
        focus (go_simp; (try with_reducible rfl); done)
        try simp only [Act.put, List.setIfInBounds_toArray, List.set_cons_zero, List.set_cons_succ]
        refine pre_free 7 (v := ?_) rfl (by kernel_rfl) (by kernel_rfl) (by kernel_rfl) (by kernel_rfl) (fun _ _ _ h => h) (by rfl) (fun u => ?_) (by assumption) ?_
        rotate_left
        focus (go_simp; (try with_reducible rfl); done)
        try simp only [Act.put, List.setIfInBounds_toArray, List.set_cons_zero, List.set_cons_succ]
        refine pre_free 9 (v := ?_) rfl (by kernel_rfl) (by kernel_rfl) (by kernel_rfl) (by kernel_rfl) (fun _ _ _ h => h) (by rfl) (fun u => ?_) (by assumption) ?_
        rotate_left
        focus (go_simp; (try with_reducible rfl); done)
        try simp only [Act.put, List.setIfInBounds_toArray, List.set_cons_zero, List.set_cons_succ]
        refine pre_free 10 (v := ?_) rfl (by kernel_rfl) (by kernel_rfl) (by kernel_rfl) (by kernel_rfl) (fun _ _ _ h => h) (by rfl) (fun u => ?_) (by assumption) ?_
        rotate_left
        focus (go_simp; (try with_reducible rfl); done)
        try simp only [Act.put, List.setIfInBounds_toArray, List.set_cons_zero, List.set_cons_succ]
        refine pre_free 11 (v := ?_) rfl (by kernel_rfl) (by kernel_rfl) (by kernel_rfl) (by kernel_rfl) (fun _ _ _ h => h) (by rfl) (fun u => ?_) (by assumption) ?_
        rotate_left
        focus (go_simp; (try with_reducible rfl); done)
        try simp only [Act.put, List.setIfInBounds_toArray, List.set_cons_zero, List.set_cons_succ]
        refine pre_free 12 (v := ?_) rfl (by kernel_rfl) (by kernel_rfl) (by kernel_rfl) (by kernel_rfl) (fun _ _ _ h => h) (by rfl) (fun u => ?_) (by assumption) ?_
        rotate_left
        focus (go_simp; (try with_reducible rfl); done)
        try simp only [Act.put, List.setIfInBounds_toArray, List.set_cons_zero, List.set_cons_succ]
        refine pre_free 14 (v := ?_) rfl (by kernel_rfl) (by kernel_rfl) (by kernel_rfl) (by kernel_rfl) (fun _ _ _ h => h) (by rfl) (fun u => ?_) (by assumption) ?_
        rotate_left
        focus (go_simp; (try with_reducible rfl); done)
        try simp only [Act.put, List.setIfInBounds_toArray, List.set_cons_zero, List.set_cons_succ]
        refine pre_load 6 (v := ?_) rfl (by kernel_rfl) (by kernel_rfl) (by kernel_rfl) (by kernel_rfl) (fun _ _ _ h => h) (by rfl) (fun u hu => ?_) (by assumption) ?_
        rotate_left
        focus ((try dsimp only at hu); go_simp; (try with_reducible rfl); done)
        try simp only [Act.put, List.setIfInBounds_toArray, List.set_cons_zero, List.set_cons_succ]
        refine pre_load 13 (v := ?_) rfl (by kernel_rfl) (by kernel_rfl) (by kernel_rfl) (by kernel_rfl) (fun _ _ _ h => h) (by rfl) (fun u hu => ?_) (by assumption) ?_
        rotate_left
        focus ((try dsimp only at hu); go_simp; (try with_reducible rfl); done)
        try simp only [Act.put, List.setIfInBounds_toArray, List.set_cons_zero, List.set_cons_succ]
        refine pre_free 8 (v := ?_) rfl (by kernel_rfl) (by kernel_rfl) (by kernel_rfl) (by kernel_rfl) (fun _ _ _ h => h) (by rfl) (fun u => ?_) (by assumption) ?_
        rotate_left
        focus (go_simp; (try with_reducible rfl); done)
        try simp only [Act.put, List.setIfInBounds_toArray, List.set_cons_zero, List.set_cons_succ]
        refine pre_free 15 (v := ?_) rfl (by kernel_rfl) (by kernel_rfl) (by kernel_rfl) (by kernel_rfl) (fun _ _ _ h => h) (by rfl) (fun u => ?_) (by assumption) ?_
        rotate_left
        focus (go_simp; (try with_reducible rfl); done)
        try simp only [Act.put, List.setIfInBounds_toArray, List.set_cons_zero, List.set_cons_succ]
        refine pre_free 16 (v := ?_) rfl (by kernel_rfl) (by kernel_rfl) (by kernel_rfl) (by kernel_rfl) (fun _ _ _ h => h) (by rfl) (fun u => ?_) (by assumption) ?_
        rotate_left
        focus (go_simp; (try with_reducible rfl); done)
        try simp only [Act.put, List.setIfInBounds_toArray, List.set_cons_zero, List.set_cons_succ]
        refine pre_free 17 (v := ?_) rfl (by kernel_rfl) (by kernel_rfl) (by kernel_rfl) (by kernel_rfl) (fun _ _ _ h => h) (by rfl) (fun u => ?_) (by assumption) ?_
        rotate_left
        focus (go_simp; (try with_reducible rfl); done)
        try simp only [Act.put, List.setIfInBounds_toArray, List.set_cons_zero, List.set_cons_succ]
        refine pre_free 18 (v := ?_) rfl (by kernel_rfl) (by kernel_rfl) (by kernel_rfl) (by kernel_rfl) (fun _ _ _ h => h) (by rfl) (fun u => ?_) (by assumption) ?_
        rotate_left
        focus (go_simp; (try with_reducible rfl); done)
        try simp only [Act.put, List.setIfInBounds_toArray, List.set_cons_zero, List.set_cons_succ]
        refine pre_last (by kernel_rfl) rfl (fun K hK => ?_)
        go_simp
        refine hK.out _ _ ?_
        clear hK K
        try simp only [Act.put, List.setIfInBounds_toArray, List.set_cons_zero, List.set_cons_succ]
        have c1' : (w2.setCell ⟨b, 0, none⟩ (.int .i64 (s0.a + d))).cell? ⟨b, 1, none⟩ = some (.int .i64 s0.b) := cell_of_heap (heap_setCell HB2.out 0 (.int .i64 (s0.a + d))) 1
        have f1' : (w2.setCell ⟨b, 0, none⟩ (.int .i64 (s0.a + d))).frozen? ⟨b, 1, none⟩ = false := frozen_of_heap (heap_setCell HB2.out 0 (.int .i64 (s0.a + d))) 1
        refine aw_free 20 (v := ?_) rfl (by kernel_rfl) (by kernel_rfl) (by kernel_rfl) (fun _ _ _ h => h) (by rfl) (fun u => ?_) ?_
        rotate_left
        focus (go_simp; (try with_reducible rfl); done)
        try simp only [Act.put, List.setIfInBounds_toArray, List.set_cons_zero, List.set_cons_succ]
        refine aw_free 21 (v := ?_) rfl (by kernel_rfl) (by kernel_rfl) (by kernel_rfl) (fun _ _ _ h => h) (by rfl) (fun u => ?_) ?_
        rotate_left
        focus (go_simp; (try with_reducible rfl); done)
        try simp only [Act.put, List.setIfInBounds_toArray, List.set_cons_zero, List.set_cons_succ]
        refine aw_free 22 (v := ?_) rfl (by kernel_rfl) (by kernel_rfl) (by kernel_rfl) (fun _ _ _ h => h) (by rfl) (fun u => ?_) ?_
        rotate_left
        focus (go_simp; (try with_reducible rfl); done)
        try simp only [Act.put, List.setIfInBounds_toArray, List.set_cons_zero, List.set_cons_succ]
        refine aw_one 23 (by kernel_rfl) rfl (fun K hK => ?_)
        go_simp
        refine hK.out _ _ ?_
        clear hK K
        try simp only [Act.put, List.setIfInBounds_toArray, List.set_cons_zero, List.set_cons_succ]
        refine aw_done (by kernel_rfl) ?_
        have hb3 : NodeA b (moveT wt l) (moveT wt r) (s0.add d) hh c m 0 ((w2.setCell ⟨b, 0, none⟩ (.int .i64 (s0.a + d))).setCell ⟨b, 1, none⟩ (.int .i64 (s0.b + d))).drew := heap_setCell (heap_setCell HB2.out 0 (.int .i64 (s0.a + d))) 1 (.int .i64 (s0.b + d))
        have ho3 : Only [b] w2 ((w2.setCell ⟨b, 0, none⟩ (.int .i64 (s0.a + d))).setCell ⟨b, 1, none⟩ (.int .i64 (s0.b + d))).drew := (((Only.refl [b] w2).setCell (p := ⟨b, 0, none⟩) (.inl (by simp)) _).setCell (p := ⟨b, 1, none⟩) (.inl (by simp)) _).drew
        generalize hw3 : ((w2.setCell ⟨b, 0, none⟩ (.int .i64 (s0.a + d))).setCell ⟨b, 1, none⟩ (.int .i64 (s0.b + d))).drew = w3 at *
        have hl3 := HL2.out.2.1.only ho3 (fun x hx hm => by rw [blks_move] at hx; exact n1 x hx (List.mem_singleton.1 hm))
        have hr3 := HL2.out.2.2.only ho3 (fun x hx hm => by rw [blks_move] at hx; exact n2 x hx (List.mem_singleton.1 hm))
        have ht3 := HT2.out.only ho3 (fun hm => htb (by rw [List.mem_singleton.1 hm]; simp [blks])) (fun hm => hmb (by rw [List.mem_singleton.1 hm]; simp [blks]))
        have hO3 := HO2.out.trans ho3 (fun x hx => .inl (by rw [List.mem_singleton.1 hx]; simp [blks]))
        have d4 := cell_of_heap hb3 4
        have HB3 := Lib.hid hb3
        have HLl := Lib.hid hl3
        have HLr := Lib.hid hr3
        have HT3 := Lib.hid ht3
        have HO3 := Lib.hid hO3
        clear hb3 ho3 hl3 hr3 ht3 hO3 hw3 c0 c1 f0 f1 c1' f1'
        go_wp2_with fail
        refine (move_walk (moveT wt r) d w3 HLr.out (by rw [blks_move]; exact n4) (gr.rg.fit (by omega) (by omega))).mono ?_
        rintro e w4 ⟨rfl, h4, ho4⟩
        have hro : ∀ x ∈ rootB (moveT wt r), x ∈ blks r := fun x hx => by have := root_sub x hx; rw [blks_move] at this; exact this
        have hb4 : NodeA b (moveT wt l) (moveT wt r) (s0.add d) hh c m 0 w4 := ho4.heap HB3.out (fun hm => n2 b (hro b hm) rfl)
        have hl4 := HLl.out.only ho4 (fun x hx hm => by rw [blks_move] at hx; exact n5 x hx (hro x hm))
        have ht4 := HT3.out.only ho4 (fun hm => htb (by have := hro tb hm; simp [blks, this])) (fun hm => hmb (by have := hro mb hm; simp [blks, this]))
        have hO4 := HO3.out.trans ho4 (fun x hx => .inl (by have := hro x hx; simp [blks, this]))
        have d3 := cell_of_heap hb4 3
        have HB4 := Lib.hid hb4
        have HLl4 := Lib.hid hl4
        have HLr4 := Lib.hid h4
        have HT4 := Lib.hid ht4
        have HO4 := Lib.hid hO4
        clear hb4 hl4 h4 ht4 hO4 ho4 d4
        go_wp2_with fail
        refine (ih (moveT wt l) st2 w4 (by rw [blks_move]; simp [blks] at hlen; omega) gl p1' hinl HLl4.out (by rw [blks_move]; exact n3) HT4.out (by rw [blks_move]; exact fun hm => htb (by simp [blks, hm])) (by rw [blks_move]; exact fun hm => hmb (by simp [blks, hm]))).mono ?_
        rintro e w5 ⟨l', rfl, q1, q2, q3, q4, q5, ⟨st5, q6⟩, q7⟩
        rw [blks_move] at q4 q7
        have hb5 := q7.heap HB4.out hbl
        have hr5 := HLr4.out.only q7 (fun x hx hm => by
          rw [blks_move, blks_move] at hx
          rcases List.mem_cons.1 hm with e | hm
          · exact hmb (by rw [← e]; simp [blks, hx])
          · exact n5 x hm hx)
        have hO5 := HO4.out.trans q7 (fun x hx => .inl (by
          rcases List.mem_cons.1 hx with rfl | hx
          · simp
          · simp [blks, hx]))
        have hL5 : Lay w5 (.node b l' (moveT d (moveT wt r)) (s0.add d) hh c m 0) := ⟨NodeA.to hb5 q5 (addr_move d _), q1, hr5⟩
        have gr2 : Good (moveT d (moveT wt r)) := gr.move hinr
        have HL5 := Lib.hid hL5
        have HT5 := Lib.hid q6
        have HO5 := Lib.hid hO5
        have HQ4 := Lib.hid q4
        clear hb5 hr5 hO5 hL5 q1 q4 q5 q6 q7 d3
        go_wp2_with fail
        refine (told_walk (b := b) w5 HL5.out (by show (b :: (blks l' ++ blks (moveT d (moveT wt r)))).Nodup; rw [HQ4.out, blks_move, blks_move]; exact hn) (q2.rg.told gr2.rg (by omega) (by omega))).mono ?_
        rintro e w6 ⟨rfl, h6, ho6⟩
        have HL6 := Lib.hid h6
        have HT6 := Lib.hid (HT5.out.only ho6 (fun hm => htb (by rw [List.mem_singleton.1 hm]; simp [blks])) (fun hm => hmb (by rw [List.mem_singleton.1 hm]; simp [blks])))
        have HO6 := Lib.hid (HO5.out.trans ho6 (fun x hx => .inl (by rw [List.mem_singleton.1 hx]; simp [blks])))
        clear h6 ho6
        go_wp2_with fail
        go_end0
        refine ⟨toldT (.node b l' (moveT d (moveT wt r)) (s0.add d) hh c m 0), rfl, HL6.out, Good.told q2 gr2 (by rw [q3, flat_move d]; exact hto) hins (by rw [q3, flat_move d]; exact hlen2), ?_, ?_, rfl, ⟨_, HT6.out⟩, HO6.out⟩
        · rw [flat_told, flat_node0, q3, HE.out]
          conv => lhs; rw [flat_move d]
        · rw [blks_told]
          show b :: (blks l' ++ blks (moveT d (moveT wt r))) = b :: (blks l ++ blks r)
          rw [HQ4.out, blks_move, blks_move]
      · have he := tail_early (d := d) hgd (show s0.a < f by omega)
        rw [hfd] at he
        rw [he] at hto htp
        obtain ⟨p1', p2', p3', p4', p5'⟩ := ord_mid.1 hto
        have hinr : ∀ x ∈ tailS f d (flat (moveT wt r)), In x := fun x hx => htp x (by simp [hx])
        have hlen2 : (flat (moveT wt l) ++ [s0] ++ tailS f d (flat (moveT wt r))).length ≤ 1099511627776 := by
          rw [← he, tailS_length, ← hfd]; exact hfew
        have HE := Lib.hid he
        clear he f0 f1
        have d4 := cell_of_heap HB2.out 4
        go_wp2_with fail
        refine (ih (moveT wt r) st2 w2 (by rw [blks_move]; simp [blks] at hlen; omega) gr p2' hinr HL2.out.2.2 (by rw [blks_move]; exact n4) HT2.out (by rw [blks_move]; exact fun hm => htb (by simp [blks, hm])) (by rw [blks_move]; exact fun hm => hmb (by simp [blks, hm]))).mono ?_
        rintro e w5 ⟨r', rfl, q1, q2, q3, q4, q5, ⟨st5, q6⟩, q7⟩
        rw [blks_move] at q4 q7
        have hb5 := q7.heap HB2.out hbr
        have hl5 := HL2.out.2.1.only q7 (fun x hx hm => by
          rw [blks_move] at hx
          rcases List.mem_cons.1 hm with e | hm
          · exact hmb (by rw [← e]; simp [blks, hx])
          · exact n5 x hx hm)
        have hO5 := HO2.out.trans q7 (fun x hx => .inl (by
          rcases List.mem_cons.1 hx with rfl | hx
          · simp
          · simp [blks, hx]))
        have hL5 : Lay w5 (.node b (moveT wt l) r' s0 hh c m 0) := ⟨NodeA.to hb5 rfl q5, hl5, q1⟩
        have HL5 := Lib.hid hL5
        have HT5 := Lib.hid q6
        have HO5 := Lib.hid hO5
        have HQ4 := Lib.hid q4
        clear hb5 hl5 hO5 hL5 q1 q4 q5 q6 q7 d4 c0 c1
        go_wp2_with fail
        refine (told_walk (b := b) w5 HL5.out (by show (b :: (blks (moveT wt l) ++ blks r')).Nodup; rw [HQ4.out, blks_move]; exact hn) (gl.rg.told q2.rg (by omega) (by omega))).mono ?_
        rintro e w6 ⟨rfl, h6, ho6⟩
        have HL6 := Lib.hid h6
        have HT6 := Lib.hid (HT5.out.only ho6 (fun hm => htb (by rw [List.mem_singleton.1 hm]; simp [blks])) (fun hm => hmb (by rw [List.mem_singleton.1 hm]; simp [blks])))
        have HO6 := Lib.hid (HO5.out.trans ho6 (fun x hx => .inl (by rw [List.mem_singleton.1 hx]; simp [blks])))
        clear h6 ho6
        go_wp2_with fail
        go_end0
        refine ⟨toldT (.node b (moveT wt l) r' s0 hh c m 0), rfl, HL6.out, Good.told gl q2 (by rw [q3]; exact hto) hin (by rw [q3]; exact hlen2), ?_, ?_, rfl, ⟨_, HT6.out⟩, HO6.out⟩
        · rw [flat_told, flat_node0, q3, HE.out]
        · rw [blks_told]
          show b :: (blks (moveT wt l) ++ blks r') = b :: (blks l ++ blks r)
          rw [HQ4.out, blks_move]
end Go.Proofs.Ytijpienjejfmiaa
