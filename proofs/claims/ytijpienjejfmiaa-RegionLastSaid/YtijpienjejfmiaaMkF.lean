/-
  Marks' first: the first span, and all without it: the walk. No conditions beyond those that the law names.
-/
import Derived.Test.YtijpienjejfmiaaMkW
import Derived.Laws.ResultCell
namespace Go.Proofs.Ytijpienjejfmiaa
open Go Go.RowKit

/-- What first makes of a tree. -/
structure FirstRes (t t' : Tr) (x : Sp) (tb mb : Nat) (rv p0 p1 : Value) (w w' : World) : Prop where
  lay : Lay w' t'
  nodup : (blks t').Nodup
  good : Good t'
  flat : flat t = x :: flat t'
  old : ∀ x ∈ blks t', x ∈ blks t
  tr : ∃ st', TrAt w' tb mb rv p0 p1 st'
  only : Only (mb :: blks t) w w'

theorem first_pure {b : Nat} {l r t1 : Tr} {x s0 : Sp} {hh c m : Int} (hg : Good (.node b l r s0 hh c m 0)) (h1 : Good t1) (hp : flat l = x :: flat t1) :
    Good (evenT (.node b t1 r s0 hh c m 0)) ∧ flat (.node b l r s0 hh c m 0) = x :: flat (evenT (.node b t1 r s0 hh c m 0)) := by
  obtain ⟨gl, gr, hin, o1, o2, o3⟩ := hg.sides
  have he : flat (.node b l r s0 hh c m 0) = x :: (flat t1 ++ [s0] ++ flat r) := by rw [flat_node0, hp]; rfl
  have ho := hg.ord
  have hf := hg.few
  rw [he] at ho hf
  exact ⟨h1.even gr (List.pairwise_cons.1 ho).2 hin (by simp only [List.length_cons] at hf; omega), by rw [flat_even]; exact he⟩

/-- The box of a result. -/
def BoxAt (z : Nat) (x : Sp) (u : World) : Prop :=
  u.heap[z]? = some (Obj.cells #[Value.int IntKind.i64 x.a, Value.int IntKind.i64 x.b, Value.int IntKind.i64 x.k] 25)

/-- A node's own block. -/
def NodeAt (b : Nat) (l r : Tr) (s : Sp) (h c m wt : Int) (u : World) : Prop :=
  u.heap[b]? = some (.cells #[.int .i64 s.a, .int .i64 s.b, .int .i64 s.k, ptrV l, ptrV r, .int .i64 h, .int .i64 c, .int .i64 m, .int .i64 wt] 71 (0, 0))

/-- A box is written anew. -/
theorem box_store {z : Nat} {x y : Sp} {w : World} (h : BoxAt z x w) : BoxAt z y (((w.setCell ⟨z, 0, none⟩ (.int .i64 y.a)).setCell ⟨z, 1, none⟩ (.int .i64 y.b)).setCell ⟨z, 2, none⟩ (.int .i64 y.k)) ∧
    Only [z] w (((w.setCell ⟨z, 0, none⟩ (.int .i64 y.a)).setCell ⟨z, 1, none⟩ (.int .i64 y.b)).setCell ⟨z, 2, none⟩ (.int .i64 y.k)) :=
  ⟨heap_setCell (heap_setCell (heap_setCell h 0 (.int .i64 y.a)) 1 (.int .i64 y.b)) 2 (.int .i64 y.k),
   (((Only.refl [z] w).setCell (p := ⟨z, 0, none⟩) (.inl (by simp)) _).setCell (p := ⟨z, 1, none⟩) (.inl (by simp)) _).setCell (p := ⟨z, 2, none⟩) (.inl (by simp)) _⟩

set_option maxRecDepth 100000 in
set_option maxHeartbeats 1000000 in
theorem first_walk {tb mb : Nat} {rv p0 p1 : Value} : ∀ (n : Nat) (t : Tr) (st : Int) (w : World), (blks t).length ≤ n → t ≠ .nil → Good t → Lay w t → (blks t).Nodup → TrAt w tb mb rv p0 p1 st → tb ∉ blks t → mb ∉ blks t →
    Calls Try.prog 58 #[.pointer (some ⟨tb, 0, none⟩), ptrV t] w fun e w' => ∃ x t', e = .returned (.tuple #[spanV x, ptrV t']) ∧ FirstRes t t' x tb mb rv p0 p1 w w' := by
  intro n
  induction n with
  | zero =>
    intro t st w hlen hne hg h hn ht htb hmb
    cases t with
    | nil => exact absurd rfl hne
    | node b l r s0 hh c m wt => exact absurd hlen (by simp [blks])
  | succ n ih =>
    intro t st w hlen hne hg h hn ht htb hmb
    cases t with
    | nil => exact absurd rfl hne
    | node b l r s0 hh c m wt =>
      show Calls Try.prog 58 #[.pointer (some ⟨tb, 0, none⟩), .pointer (some ⟨b, 0, none⟩)] w _
      have hw0 : IntKind.i64.wrap 0 = 0 := by decide
      have hw1 : IntKind.i64.wrap 1 = 1 := by decide
      have hgd := hg.down
      obtain ⟨gl, gr, hin, o1, o2, o3⟩ := hgd.sides
      have hlts := h.lt
      have htb2 := heap_lt ht.t
      have hmb2 := heap_lt ht.m
      obtain ⟨n1, n2, n3, n4, n5⟩ := node_nodup hn
      go_enter Try.func58, Try.ntmps58
      go_upto_region 1 with (fail)
      have HA := Lib.hid (heap_new w (Obj.cells #[Value.int IntKind.i64 0, Value.int IntKind.i64 0, Value.int IntKind.i64 0] 25))
      have ho := (Only.refl [] w).alloc (Obj.cells #[Value.int IntKind.i64 0, Value.int IntKind.i64 0, Value.int IntKind.i64 0] 25)
      generalize hw1 : w.alloc (Obj.cells #[Value.int IntKind.i64 0, Value.int IntKind.i64 0, Value.int IntKind.i64 0] 25) = w1 at *
      have HT1 := Lib.hid (ht.only ho (by simp) (by simp))
      have HL1 := Lib.hid (h.only ho (by simp))
      have HO1 := Lib.hid (ho.mono (B' := mb :: blks (.node b l r s0 hh c m wt)) (by simp))
      generalize hsz : w.heap.size = sz at *
      have hszn : sz ∉ mb :: blks (.node b l r s0 hh c m wt) := fun hm => by
        rcases List.mem_cons.1 hm with e | hm
        · omega
        · have := hlts sz hm; omega
      have HN := Lib.hid hszn
      clear ho h ht hw1 hszn
      go_wp2_with fail
      refine (look_walk w1 hg HL1.out hn HT1.out htb hmb).mono ?_
      rintro e w2 ⟨rfl, h2, ⟨st2, ht2⟩, ho2⟩
      have HA2 := Lib.hid (ho2.heap HA.out HN.out)
      have HO2 := Lib.hid (HO1.out.trans ho2 (fun x hx => .inl hx))
      have HL2 := Lib.hid h2
      have HT2 := Lib.hid ht2
      clear ho2 h2 ht2
      have hbz : b ≠ sz := fun e => HN.out (by simp [blks, e])
      cases l with
      | nil =>
        have hb2 : NodeAt b .nil (moveT wt r) s0 hh c m 0 w2 := lay_cells HL2.out
        have d3 : w2.cell? ⟨b, 3, none⟩ = some (.pointer none) := cell_of_heap hb2 3
        have HB2 := Lib.hid hb2
        clear hb2
        go_upto_region 3 with (fail)
        have hS : NodeAt b .nil (moveT wt r) s0 hh c m 0 w2.drew ∧ ∃ y, BoxAt sz y w2.drew := ⟨HB2.out, ⟨0, 0, 0⟩, HA2.out⟩
        refine region_hw (fun u => NodeAt b .nil (moveT wt r) s0 hh c m 0 u) (by kernel_rfl) hS.1 (fun hHeld => ?_)
        refine hw_take 0 (v := ?_) rfl (by kernel_rfl) (by kernel_rfl) (by kernel_rfl) (fun _ _ _ h => h) (by rfl) (fun u hu => ?_) (by assumption) ?_
        rotate_left
        focus ((try dsimp only at hu); (have a0 := cell_of_heap hu 0; have a1 := cell_of_heap hu 1; have a2 := cell_of_heap hu 2; have a4 := cell_of_heap hu 4); go_simp; (try with_reducible rfl); done)
        try simp only [Act.put, List.setIfInBounds_toArray, List.set_cons_zero, List.set_cons_succ]
        refine hw_take 1 (v := ?_) rfl (by kernel_rfl) (by kernel_rfl) (by kernel_rfl) (fun _ _ _ h => h) (by rfl) (fun u hu => ?_) (by assumption) ?_
        rotate_left
        focus ((try dsimp only at hu); (have a0 := cell_of_heap hu 0; have a1 := cell_of_heap hu 1; have a2 := cell_of_heap hu 2; have a4 := cell_of_heap hu 4); go_simp; (try with_reducible rfl); done)
        try simp only [Act.put, List.setIfInBounds_toArray, List.set_cons_zero, List.set_cons_succ]
        refine hw_take 2 (v := ?_) rfl (by kernel_rfl) (by kernel_rfl) (by kernel_rfl) (fun _ _ _ h => h) (by rfl) (fun u hu => ?_) (by assumption) ?_
        rotate_left
        focus ((try dsimp only at hu); (have a0 := cell_of_heap hu 0; have a1 := cell_of_heap hu 1; have a2 := cell_of_heap hu 2; have a4 := cell_of_heap hu 4); go_simp; (try with_reducible rfl); done)
        try simp only [Act.put, List.setIfInBounds_toArray, List.set_cons_zero, List.set_cons_succ]
        refine hw_take 3 (v := ?_) rfl (by kernel_rfl) (by kernel_rfl) (by kernel_rfl) (fun _ _ _ h => h) (by rfl) (fun u hu => ?_) (by assumption) ?_
        rotate_left
        focus ((try dsimp only at hu); (have a0 := cell_of_heap hu 0; have a1 := cell_of_heap hu 1; have a2 := cell_of_heap hu 2; have a4 := cell_of_heap hu 4); go_simp; (try with_reducible rfl); done)
        try simp only [Act.put, List.setIfInBounds_toArray, List.set_cons_zero, List.set_cons_succ]
        refine hw_take 4 (v := ?_) rfl (by kernel_rfl) (by kernel_rfl) (by kernel_rfl) (fun _ _ _ h => h) (by rfl) (fun u hu => ?_) (by assumption) ?_
        rotate_left
        focus ((try dsimp only at hu); (have a0 := cell_of_heap hu 0; have a1 := cell_of_heap hu 1; have a2 := cell_of_heap hu 2; have a4 := cell_of_heap hu 4); go_simp; (try with_reducible rfl); done)
        try simp only [Act.put, List.setIfInBounds_toArray, List.set_cons_zero, List.set_cons_succ]
        refine hw_take 5 (v := ?_) rfl (by kernel_rfl) (by kernel_rfl) (by kernel_rfl) (fun _ _ _ h => h) (by rfl) (fun u hu => ?_) (by assumption) ?_
        rotate_left
        focus ((try dsimp only at hu); (have a0 := cell_of_heap hu 0; have a1 := cell_of_heap hu 1; have a2 := cell_of_heap hu 2; have a4 := cell_of_heap hu 4); go_simp; (try with_reducible rfl); done)
        try simp only [Act.put, List.setIfInBounds_toArray, List.set_cons_zero, List.set_cons_succ]
        refine hw_take 6 (v := ?_) rfl (by kernel_rfl) (by kernel_rfl) (by kernel_rfl) (fun _ _ _ h => h) (by rfl) (fun u hu => ?_) (by assumption) ?_
        rotate_left
        focus ((try dsimp only at hu); (have a0 := cell_of_heap hu 0; have a1 := cell_of_heap hu 1; have a2 := cell_of_heap hu 2; have a4 := cell_of_heap hu 4); go_simp; (try with_reducible rfl); done)
        try simp only [Act.put, List.setIfInBounds_toArray, List.set_cons_zero, List.set_cons_succ]
        refine hw_take 7 (v := ?_) rfl (by kernel_rfl) (by kernel_rfl) (by kernel_rfl) (fun _ _ _ h => h) (by rfl) (fun u hu => ?_) (by assumption) ?_
        rotate_left
        focus ((try dsimp only at hu); (have a0 := cell_of_heap hu 0; have a1 := cell_of_heap hu 1; have a2 := cell_of_heap hu 2; have a4 := cell_of_heap hu 4); go_simp; (try with_reducible rfl); done)
        try simp only [Act.put, List.setIfInBounds_toArray, List.set_cons_zero, List.set_cons_succ]
        refine hw_take 8 (v := ?_) rfl (by kernel_rfl) (by kernel_rfl) (by kernel_rfl) (fun _ _ _ h => h) (by rfl) (fun u hu => ?_) (by assumption) ?_
        rotate_left
        focus ((try dsimp only at hu); (have a0 := cell_of_heap hu 0; have a1 := cell_of_heap hu 1; have a2 := cell_of_heap hu 2; have a4 := cell_of_heap hu 4); go_simp; (try with_reducible rfl); done)
        try simp only [Act.put, List.setIfInBounds_toArray, List.set_cons_zero, List.set_cons_succ]
        have z0 := cell_of_heap HA2.out 0
        have z1 := cell_of_heap HA2.out 1
        have z2 := cell_of_heap HA2.out 2
        have f0 := frozen_of_heap HA2.out 0
        have f1 := frozen_of_heap HA2.out 1
        have f2 := frozen_of_heap HA2.out 2
        refine hw_one 9 (by kernel_rfl) rfl (fun K hK => ?_)
        go_simp
        obtain ⟨hbx, hox⟩ := box_store (x := ⟨0, 0, 0⟩) (y := s0) (w := w2) HA2.out
        have HBX := Lib.hid hbx
        have HOX := Lib.hid hox
        generalize hwx : (((w2.setCell ⟨sz, 0, none⟩ (.int .i64 s0.a)).setCell ⟨sz, 1, none⟩ (.int .i64 s0.b)).setCell ⟨sz, 2, none⟩ (.int .i64 s0.k)) = wx at *
        refine hK.out _ _ ?_ (fun hHeld9 => ?_)
        focus (exact HOX.out.heap HB2.out (by simp [hbz]))
        clear hK K z0 z1 z2 f0 f1 f2 hbx hox hwx
        try simp only [Act.put, List.setIfInBounds_toArray, List.set_cons_zero, List.set_cons_succ]
        refine hw_take 10 (v := ?_) rfl (by kernel_rfl) (by kernel_rfl) (by kernel_rfl) (fun _ _ _ h => h) (by rfl) (fun u hu => ?_) (by assumption) ?_
        rotate_left
        focus ((try dsimp only at hu); (have a0 := cell_of_heap hu 0; have a1 := cell_of_heap hu 1; have a2 := cell_of_heap hu 2; have a4 := cell_of_heap hu 4); go_simp; (try with_reducible rfl); done)
        try simp only [Act.put, List.setIfInBounds_toArray, List.set_cons_zero, List.set_cons_succ]
        refine hw_done (by kernel_rfl) ?_
        have z0 := cell_of_heap HBX.out 0
        have z1 := cell_of_heap HBX.out 1
        have z2 := cell_of_heap HBX.out 2
        go_wp2_with fail
        (try simp only [Exit.inBlock, Exit.then])
        refine bodyPost_ret (v := .tuple #[spanV s0, ptrV (moveT wt r)]) ?_ rfl ⟨s0, moveT wt r, rfl, HL2.out.2.2.only HOX.out.drew ?_, by rw [blks_move]; exact n4, gr, ?_, fun x hx => by rw [blks_move] at hx; simp [blks, hx], ⟨_, HT2.out.only HOX.out.drew ?_ ?_⟩, HO2.out.trans HOX.out.drew ?_⟩
        · rw [results_cell_tmp rfl]
          go_simp
        · intro x hx hm
          rw [blks_move] at hx
          exact HN.out (by rw [← List.mem_singleton.1 hm]; simp [blks, hx])
        · rw [← flat_down]; exact flat_node0 _ _ _ _ _ _ _
        · simp; omega
        · simp; omega
        · intro x hx
          rw [List.mem_singleton.1 hx, hsz]; exact .inr (Nat.le_refl _)
      | node bk kl kr ks kh kc km kw =>
        have hb2 : NodeAt b (moveT wt (.node bk kl kr ks kh kc km kw)) (moveT wt r) s0 hh c m 0 w2 := lay_cells HL2.out
        have d3 : w2.cell? ⟨b, 3, none⟩ = some (.pointer (some ⟨bk, 0, none⟩)) := cell_of_heap hb2 3
        have HB2 := Lib.hid hb2
        have g3 := frozen_of_heap hb2 3
        clear hb2
        go_upto_region 4 with (fail)
        refine region_pre 7 (fun u => u = w2.drew) (by kernel_rfl) rfl (fun hHeld => ?_)
        refine pre_free 0 (v := ?_) rfl (by kernel_rfl) (by kernel_rfl) (by kernel_rfl) (by kernel_rfl) (fun _ _ _ h => h) (by rfl) (fun u => ?_) (by assumption) ?_
        rotate_left
        focus (go_simp; (try with_reducible rfl); done)
        try simp only [Act.put, List.setIfInBounds_toArray, List.set_cons_zero, List.set_cons_succ]
        refine pre_free 1 (v := ?_) rfl (by kernel_rfl) (by kernel_rfl) (by kernel_rfl) (by kernel_rfl) (fun _ _ _ h => h) (by rfl) (fun u => ?_) (by assumption) ?_
        rotate_left
        focus (go_simp; (try with_reducible rfl); done)
        try simp only [Act.put, List.setIfInBounds_toArray, List.set_cons_zero, List.set_cons_succ]
        refine pre_free 2 (v := ?_) rfl (by kernel_rfl) (by kernel_rfl) (by kernel_rfl) (by kernel_rfl) (fun _ _ _ h => h) (by rfl) (fun u => ?_) (by assumption) ?_
        rotate_left
        focus (go_simp; (try with_reducible rfl); done)
        try simp only [Act.put, List.setIfInBounds_toArray, List.set_cons_zero, List.set_cons_succ]
        refine pre_free 3 (v := ?_) rfl (by kernel_rfl) (by kernel_rfl) (by kernel_rfl) (by kernel_rfl) (fun _ _ _ h => h) (by rfl) (fun u => ?_) (by assumption) ?_
        rotate_left
        focus (go_simp; (try with_reducible rfl); done)
        try simp only [Act.put, List.setIfInBounds_toArray, List.set_cons_zero, List.set_cons_succ]
        refine pre_free 4 (v := ?_) rfl (by kernel_rfl) (by kernel_rfl) (by kernel_rfl) (by kernel_rfl) (fun _ _ _ h => h) (by rfl) (fun u => ?_) (by assumption) ?_
        rotate_left
        focus (go_simp; (try with_reducible rfl); done)
        try simp only [Act.put, List.setIfInBounds_toArray, List.set_cons_zero, List.set_cons_succ]
        refine pre_free 5 (v := ?_) rfl (by kernel_rfl) (by kernel_rfl) (by kernel_rfl) (by kernel_rfl) (fun _ _ _ h => h) (by rfl) (fun u => ?_) (by assumption) ?_
        rotate_left
        focus (go_simp; (try with_reducible rfl); done)
        try simp only [Act.put, List.setIfInBounds_toArray, List.set_cons_zero, List.set_cons_succ]
        refine pre_free 12 (v := ?_) rfl (by kernel_rfl) (by kernel_rfl) (by kernel_rfl) (by kernel_rfl) (fun _ _ _ h => h) (by rfl) (fun u => ?_) (by assumption) ?_
        rotate_left
        focus (go_simp; (try with_reducible rfl); done)
        try simp only [Act.put, List.setIfInBounds_toArray, List.set_cons_zero, List.set_cons_succ]
        refine pre_free 13 (v := ?_) rfl (by kernel_rfl) (by kernel_rfl) (by kernel_rfl) (by kernel_rfl) (fun _ _ _ h => h) (by rfl) (fun u => ?_) (by assumption) ?_
        rotate_left
        focus (go_simp; (try with_reducible rfl); done)
        try simp only [Act.put, List.setIfInBounds_toArray, List.set_cons_zero, List.set_cons_succ]
        refine pre_load 6 (v := ?_) rfl (by kernel_rfl) (by kernel_rfl) (by kernel_rfl) (by kernel_rfl) (fun _ _ _ h => h) (by rfl) (fun u hu => ?_) (by assumption) ?_
        rotate_left
        focus ((try dsimp only at hu); go_simp; (try with_reducible rfl); done)
        try simp only [Act.put, List.setIfInBounds_toArray, List.set_cons_zero, List.set_cons_succ]
        refine pre_last (by kernel_rfl) rfl (fun K hK => ?_)
        go_simp
        go_at_call 58
        refine (ih (moveT wt (.node bk kl kr ks kh kc km kw)) _ w2.drew (by rw [blks_move]; simp [blks] at hlen ⊢; omega) (by show Tr.node _ _ _ _ _ _ _ _ ≠ _; simp) gl (HL2.out.2.1.same rfl) (by rw [blks_move]; exact n3) (HT2.out.only (Only.refl [] w2).drew (by simp) (by simp)) (by rw [blks_move]; exact fun hm => htb (List.mem_cons_of_mem _ (List.mem_append.2 (.inl hm)))) (by rw [blks_move]; exact fun hm => hmb (List.mem_cons_of_mem _ (List.mem_append.2 (.inl hm))))).mono ?_
        rintro e w4 ⟨x, t1, rfl, q1, q2, q3, q4, q5, ⟨st4, q6⟩, q7⟩
        rw [blks_move] at q5 q7
        have q7' : Only (mb :: blks (.node bk kl kr ks kh kc km kw)) w2 w4 := (Only.refl _ w2).drew.trans q7 (fun x hx => .inl hx)
        have hO4 : Only (mb :: blks (.node b (.node bk kl kr ks kh kc km kw) r s0 hh c m wt)) w w4 := HO2.out.trans q7' (fun x hx => .inl (by
          rcases List.mem_cons.1 hx with rfl | hx
          · simp
          · exact List.mem_cons_of_mem _ (List.mem_cons_of_mem _ (List.mem_append.2 (.inl hx)))))
        have hbn : b ∉ mb :: blks (.node bk kl kr ks kh kc km kw) := fun hm => by
          rcases List.mem_cons.1 hm with e | hm
          · exact hmb (by simp [blks, e])
          · exact n1 b hm rfl
        have hszk : sz ∉ mb :: blks (.node bk kl kr ks kh kc km kw) := fun hm => HN.out (by
          rcases List.mem_cons.1 hm with e | hm
          · simp [e]
          · exact List.mem_cons_of_mem _ (List.mem_cons_of_mem _ (List.mem_append.2 (.inl hm))))
        have HA4 := q7'.heap HA2.out hszk
        have hb4 := q7'.heap HB2.out hbn
        have hr4 := HL2.out.2.2.only q7' (fun x hx hm => by
          rw [blks_move] at hx
          rcases List.mem_cons.1 hm with e | hm
          · exact hmb (by rw [← e]; simp [blks, hx])
          · exact n5 x hm hx)
        have hbt1 : ∀ x ∈ blks t1, x ≠ b := fun x hx e => n1 x (q5 x hx) e
        have hzt1 : ∀ x ∈ blks t1, x ≠ sz := fun x hx e => hszk (by rw [← e]; exact List.mem_cons_of_mem _ (q5 x hx))
        have hnd : (b :: (blks t1 ++ blks (moveT wt r))).Nodup := by
          rw [blks_move]
          exact side_nodup (S := sz) hn (fun x hx => .inl (q5 x hx)) q2 hlts
        -- the result's box
        have z0 := cell_of_heap HA4 0
        have z1 := cell_of_heap HA4 1
        have z2 := cell_of_heap HA4 2
        have f0 := frozen_of_heap HA4 0
        have f1 := frozen_of_heap HA4 1
        have f2 := frozen_of_heap HA4 2
        obtain ⟨hbx, hox⟩ := box_store (x := ⟨0, 0, 0⟩) (y := x) (w := w4) HA4
        have hb5 := hox.heap hb4 (by simp [hbz])
        have ht5 := q1.only hox (fun x hx hm => hzt1 x hx (List.mem_singleton.1 hm))
        have hr5 := hr4.only hox (fun x hx hm => by
          rw [blks_move] at hx
          exact HN.out (by rw [← List.mem_singleton.1 hm]; simp [blks, hx]))
        have hT5 := q6.only hox (by simp; omega) (by simp; omega)
        have hO5 := hO4.trans hox (fun x hx => .inr (by rw [List.mem_singleton.1 hx, hsz]; exact Nat.le_refl _))
        have HB5 := Lib.hid hb5
        have HT5 := Lib.hid ht5
        have HR5 := Lib.hid hr5
        have HTR5 := Lib.hid hT5
        have HO5 := Lib.hid hO5
        have HBX := Lib.hid hbx
        have HND := Lib.hid hnd
        have HP := Lib.hid (first_pure hgd q3 q4)
        have HG1 := Lib.hid q3
        have HQ5 := Lib.hid q5
        clear q1 q2 q3 q4 q5 q6 q7 q7' hO4 hbn hszk hb4 hr4 hnd hbx hb5 ht5 hr5 hT5 hO5 d3 g3 HA4
        try go_simp
        refine hK.out _ _ ?_
        clear hK K
        try simp only [Act.put, List.setIfInBounds_toArray, List.set_cons_zero, List.set_cons_succ]
        refine aw_free 8 (v := ?_) rfl (by kernel_rfl) (by kernel_rfl) (by kernel_rfl) (fun _ _ _ h => h) (by rfl) (fun u => ?_) ?_
        rotate_left
        focus (go_simp; (try with_reducible rfl); done)
        try simp only [Act.put, List.setIfInBounds_toArray, List.set_cons_zero, List.set_cons_succ]
        refine aw_free 9 (v := ?_) rfl (by kernel_rfl) (by kernel_rfl) (by kernel_rfl) (fun _ _ _ h => h) (by rfl) (fun u => ?_) ?_
        rotate_left
        focus (go_simp; (try with_reducible rfl); done)
        try simp only [Act.put, List.setIfInBounds_toArray, List.set_cons_zero, List.set_cons_succ]
        refine aw_free 10 (v := ?_) rfl (by kernel_rfl) (by kernel_rfl) (by kernel_rfl) (fun _ _ _ h => h) (by rfl) (fun u => ?_) ?_
        rotate_left
        focus (go_simp; (try with_reducible rfl); done)
        try simp only [Act.put, List.setIfInBounds_toArray, List.set_cons_zero, List.set_cons_succ]
        refine aw_one 11 (by kernel_rfl) rfl (fun K hK => ?_)
        go_simp
        generalize hwx : (((w4.setCell ⟨sz, 0, none⟩ (.int .i64 x.a)).setCell ⟨sz, 1, none⟩ (.int .i64 x.b)).setCell ⟨sz, 2, none⟩ (.int .i64 x.k)) = wx at *
        refine hK.out _ _ ?_
        clear hK K z0 z1 z2 f0 f1 f2 hox hwx
        try simp only [Act.put, List.setIfInBounds_toArray, List.set_cons_zero, List.set_cons_succ]
        have e3 := cell_of_heap HB5.out 3
        have e4 := frozen_of_heap HB5.out 3
        refine aw_free 14 (v := ?_) rfl (by kernel_rfl) (by kernel_rfl) (by kernel_rfl) (fun _ _ _ h => h) (by rfl) (fun u => ?_) ?_
        rotate_left
        focus (go_simp; (try with_reducible rfl); done)
        try simp only [Act.put, List.setIfInBounds_toArray, List.set_cons_zero, List.set_cons_succ]
        refine aw_one 15 (by kernel_rfl) rfl (fun K hK => ?_)
        go_simp
        refine hK.out _ _ ?_
        clear hK K
        try simp only [Act.put, List.setIfInBounds_toArray, List.set_cons_zero, List.set_cons_succ]
        refine aw_done (by kernel_rfl) ?_
        have ho6 := (Only.refl [b] wx).setCell (p := ⟨b, 3, none⟩) (.inl (by simp)) (ptrV t1)
        have hb6 := heap_setCell HB5.out 3 (ptrV t1)
        have ht6 := HT5.out.only ho6 (fun x hx hm => (List.nodup_cons.1 HND.out).1 (by rw [← List.mem_singleton.1 hm]; exact List.mem_append.2 (.inl hx)))
        have hr6 := HR5.out.only ho6 (fun x hx hm => (List.nodup_cons.1 HND.out).1 (by rw [← List.mem_singleton.1 hm]; exact List.mem_append.2 (.inr hx)))
        have hT6 := HTR5.out.only ho6 (fun hm => htb (by rw [List.mem_singleton.1 hm]; simp [blks])) (fun hm => hmb (by rw [List.mem_singleton.1 hm]; simp [blks]))
        have hL6 : Lay _ (Tr.node b t1 (moveT wt r) s0 hh c m 0) := ⟨hb6, ht6, hr6⟩
        have hx6 := ho6.heap HBX.out (by simp; omega)
        have HL6 := Lib.hid hL6
        have HT6 := Lib.hid hT6
        have HX6 : Hid (BoxAt sz x _) := Lib.hid hx6
        have HO6 := Lib.hid (HO5.out.trans ho6 (fun x hx => .inl (by rw [List.mem_singleton.1 hx]; simp [blks])))
        clear ho6 hb6 ht6 hr6 hT6 hL6 hx6 e3 e4
        generalize hwy : wx.setCell ⟨b, 3, none⟩ (ptrV t1) = wy at *
        clear hwy
        go_upto_region 5 with (fail)
        refine region_hw (fun u => BoxAt sz x u) (by kernel_rfl) HX6.out (fun hHeld => ?_)
        refine hw_take 0 (v := ?_) rfl (by kernel_rfl) (by kernel_rfl) (by kernel_rfl) (fun _ _ _ h => h) (by rfl) (fun u hu => ?_) (by assumption) ?_
        rotate_left
        focus ((try dsimp only at hu); (have a0 := cell_of_heap hu 0; have a1 := cell_of_heap hu 1; have a2 := cell_of_heap hu 2); go_simp; (try with_reducible rfl); done)
        try simp only [Act.put, List.setIfInBounds_toArray, List.set_cons_zero, List.set_cons_succ]
        refine hw_take 1 (v := ?_) rfl (by kernel_rfl) (by kernel_rfl) (by kernel_rfl) (fun _ _ _ h => h) (by rfl) (fun u hu => ?_) (by assumption) ?_
        rotate_left
        focus ((try dsimp only at hu); (have a0 := cell_of_heap hu 0; have a1 := cell_of_heap hu 1; have a2 := cell_of_heap hu 2); go_simp; (try with_reducible rfl); done)
        try simp only [Act.put, List.setIfInBounds_toArray, List.set_cons_zero, List.set_cons_succ]
        refine hw_one 2 (by kernel_rfl) rfl (fun K hK => ?_)
        go_simp
        go_at_call 57
        refine (even_walk (b := b) (l := t1) (r := moveT wt r) (s := s0) wy.drew (HL6.out.same rfl) HND.out HG1.out gr).mono ?_
        rintro e w7 ⟨rfl, h7, ho7⟩
        have hsub : ∀ y ∈ b :: (blks t1 ++ blks (moveT wt r)), y ∈ blks (Tr.node b (.node bk kl kr ks kh kc km kw) r s0 hh c m wt) := fun y hy => by
          rcases List.mem_cons.1 hy with rfl | hy
          · simp [blks]
          · rcases List.mem_append.1 hy with hy | hy
            · exact List.mem_cons_of_mem _ (List.mem_append.2 (.inl (HQ5.out y hy)))
            · rw [blks_move] at hy
              exact List.mem_cons_of_mem _ (List.mem_append.2 (.inr hy))
        have ho7' : Only (b :: (blks t1 ++ blks (moveT wt r))) wy w7 := (Only.refl _ wy).drew.trans ho7 (fun x hx => .inl hx)
        have hx7 : BoxAt sz x w7 := ho7'.heap HX6.out (fun hm => HN.out (List.mem_cons_of_mem _ (hsub sz hm)))
        have z0 := cell_of_heap hx7 0
        have z1 := cell_of_heap hx7 1
        have z2 := cell_of_heap hx7 2
        have f0 := frozen_of_heap hx7 0
        have f1 := frozen_of_heap hx7 1
        have f2 := frozen_of_heap hx7 2
        obtain ⟨hbx, hox⟩ := box_store (x := x) (y := x) (w := w7) hx7
        have HL7 := Lib.hid (h7.only hox (fun y hy hm => HN.out (List.mem_cons_of_mem _ (hsub sz (perm_even.mem_iff.1 (by rw [← List.mem_singleton.1 hm]; exact hy))))))
        have HT7 := Lib.hid ((HT6.out.only ho7' (fun hm => htb (hsub tb hm)) (fun hm => hmb (hsub mb hm))).only hox (by simp; omega) (by simp; omega))
        have HO7 := Lib.hid ((HO6.out.trans ho7' (fun y hy => .inl (List.mem_cons_of_mem _ (hsub y hy)))).trans hox (fun y hy => .inr (by rw [List.mem_singleton.1 hy, hsz]; exact Nat.le_refl _)))
        have HBX7 := Lib.hid hbx
        have HX7 := Lib.hid hx7
        have HS := Lib.hid hsub
        clear h7 ho7 ho7' hx7 hbx hox hsub
        try go_simp
        refine hK.out _ _ ?_ (fun hHeld2 => ?_)
        focus (exact HX7.out)
        clear hK K
        try simp only [Act.put, List.setIfInBounds_toArray, List.set_cons_zero, List.set_cons_succ]
        refine hw_one 3 (by kernel_rfl) rfl (fun K hK => ?_)
        go_simp
        generalize hwz : (((w7.setCell ⟨sz, 0, none⟩ (.int .i64 x.a)).setCell ⟨sz, 1, none⟩ (.int .i64 x.b)).setCell ⟨sz, 2, none⟩ (.int .i64 x.k)) = wz at *
        refine hK.out _ _ ?_ (fun hHeld3 => ?_)
        focus (exact HBX7.out)
        clear hK K z0 z1 z2 f0 f1 f2 hwz
        try simp only [Act.put, List.setIfInBounds_toArray, List.set_cons_zero, List.set_cons_succ]
        refine hw_take 4 (v := ?_) rfl (by kernel_rfl) (by kernel_rfl) (by kernel_rfl) (fun _ _ _ h => h) (by rfl) (fun u hu => ?_) (by assumption) ?_
        rotate_left
        focus ((try dsimp only at hu); (have a0 := cell_of_heap hu 0; have a1 := cell_of_heap hu 1; have a2 := cell_of_heap hu 2); go_simp; (try with_reducible rfl); done)
        try simp only [Act.put, List.setIfInBounds_toArray, List.set_cons_zero, List.set_cons_succ]
        refine hw_done (by kernel_rfl) ?_
        have z0 := cell_of_heap HBX7.out 0
        have z1 := cell_of_heap HBX7.out 1
        have z2 := cell_of_heap HBX7.out 2
        go_wp2_with fail
        (try simp only [Exit.inBlock, Exit.then])
        obtain ⟨p1', p2'⟩ := HP.out
        refine bodyPost_ret (v := .tuple #[spanV x, ptrV (evenT (.node b t1 (moveT wt r) s0 hh c m 0))]) ?_ rfl ⟨x, evenT (.node b t1 (moveT wt r) s0 hh c m 0), rfl, HL7.out, perm_even.nodup_iff.2 HND.out, p1', ?_, fun y hy => HS.out y (perm_even.mem_iff.1 hy), ⟨_, HT7.out⟩, HO7.out⟩
        · rw [results_cell_tmp rfl]
          go_simp
        · rw [← p2', ← flat_down]; rfl
end Go.Proofs.Ytijpienjejfmiaa
