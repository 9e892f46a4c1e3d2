/-
  Marks: two trees: their memory; which tree a span belongs to, a span more, a span less: the walks. No conditions beyond those that each law names.
-/
import Derived.Test.YtijpienjejfmiaaMkT
import Derived.Test.YtijpienjejfmiaaMkX
namespace Go.Proofs.Ytijpienjejfmiaa
open Go Go.RowKit

/-- One of two. -/
def two {α : Type} (i : Bool) (a b : α) : α := if i then b else a

theorem and_one (k : Int) : bits BinOp.and IntKind.i64 k 1 = k % 2 := by
  have hb : IntKind.i64.bits = 64 := rfl
  have h1 : (BitVec.ofInt IntKind.i64.bits k &&& BitVec.ofInt IntKind.i64.bits 1).toNat = (k % 2).toNat := by
    rw [BitVec.toNat_and, BitVec.toNat_ofInt, BitVec.toNat_ofInt, hb]
    have e : ((1 : Int) % ((2 ^ 64 : Nat) : Int)).toNat = 1 := by decide
    rw [e, Nat.and_one_is_mod]
    have e2 : ((2 ^ 64 : Nat) : Int) = 18446744073709551616 := by decide
    rw [e2]
    omega
  show IntKind.i64.wrap ((BitVec.ofInt IntKind.i64.bits k &&& BitVec.ofInt IntKind.i64.bits 1).toNat : Int) = k % 2
  rw [h1]
  rcases (show k % 2 = 0 ∨ k % 2 = 1 by omega) with h | h <;> rw [h] <;> decide

/-- Two trees lie apart. -/
structure Apart (mb tb0 tb1 : Nat) (T0 T1 : Tr) : Prop where
  a0 : mb ≠ tb0
  a1 : mb ≠ tb1
  a2 : tb0 ≠ tb1
  m0 : mb ∉ blks T0
  m1 : mb ∉ blks T1
  x00 : tb0 ∉ blks T0
  x01 : tb0 ∉ blks T1
  x10 : tb1 ∉ blks T0
  x11 : tb1 ∉ blks T1
  n0 : (blks T0).Nodup
  n1 : (blks T1).Nodup
  d : ∀ x ∈ blks T0, x ∉ blks T1

/-- Marks in memory: two trees. -/
structure MkAt (w : World) (mb tb0 tb1 : Nat) (T0 T1 : Tr) (st : Int) : Prop where
  m : w.heap[mb]? = some (.cells #[.pointer (some ⟨tb0, 0, none⟩), .pointer (some ⟨tb1, 0, none⟩), .int .i64 st] 55 (0, 0))
  t0 : w.heap[tb0]? = some (.cells #[ptrV T0, .pointer (some ⟨mb, 2, none⟩)] 59 (0, 0))
  t1 : w.heap[tb1]? = some (.cells #[ptrV T1, .pointer (some ⟨mb, 2, none⟩)] 59 (0, 0))
  l0 : Lay w T0
  l1 : Lay w T1
  g0 : Good T0
  g1 : Good T1
  ap : Apart mb tb0 tb1 T0 T1

/-- The blocks. -/
def mkB (mb tb0 tb1 : Nat) (T0 T1 : Tr) : List Nat := mb :: tb0 :: tb1 :: (blks T0 ++ blks T1)

theorem MkAt.only {w w' : World} {mb tb0 tb1 : Nat} {T0 T1 : Tr} {st : Int} {B : List Nat} (h : MkAt w mb tb0 tb1 T0 T1 st) (g : Only B w w') (hd : ∀ x ∈ mkB mb tb0 tb1 T0 T1, x ∉ B) : MkAt w' mb tb0 tb1 T0 T1 st :=
  ⟨g.heap h.m (hd _ (by simp [mkB])), g.heap h.t0 (hd _ (by simp [mkB])), g.heap h.t1 (hd _ (by simp [mkB])), h.l0.only g (fun x hx => hd x (by simp [mkB, hx])), h.l1.only g (fun x hx => hd x (by simp [mkB, hx])), h.g0, h.g1, h.ap⟩

theorem MkAt.tr {w : World} {mb tb0 tb1 : Nat} {T0 T1 : Tr} {st : Int} (h : MkAt w mb tb0 tb1 T0 T1 st) (i : Bool) : TrAt w (two i tb0 tb1) mb (ptrV (two i T0 T1)) (.pointer (some ⟨tb0, 0, none⟩)) (.pointer (some ⟨tb1, 0, none⟩)) st := by
  cases i
  · exact ⟨h.t0, h.m, fun e => h.ap.a0 e.symm⟩
  · exact ⟨h.t1, h.m, fun e => h.ap.a1 e.symm⟩

theorem MkAt.lt {w : World} {mb tb0 tb1 : Nat} {T0 T1 : Tr} {st : Int} (h : MkAt w mb tb0 tb1 T0 T1 st) : ∀ x ∈ mkB mb tb0 tb1 T0 T1, x < w.heap.size := fun x hx => by
  rcases List.mem_cons.1 hx with rfl | hx
  · exact heap_lt h.m
  · rcases List.mem_cons.1 hx with rfl | hx
    · exact heap_lt h.t0
    · rcases List.mem_cons.1 hx with rfl | hx
      · exact heap_lt h.t1
      · rcases List.mem_append.1 hx with hx | hx
        · exact h.l0.lt x hx
        · exact h.l1.lt x hx

theorem MkAt.good {w : World} {mb tb0 tb1 : Nat} {T0 T1 : Tr} {st : Int} (h : MkAt w mb tb0 tb1 T0 T1 st) (i : Bool) : Good (two i T0 T1) := by
  cases i
  · exact h.g0
  · exact h.g1
theorem MkAt.lay {w : World} {mb tb0 tb1 : Nat} {T0 T1 : Tr} {st : Int} (h : MkAt w mb tb0 tb1 T0 T1 st) (i : Bool) : Lay w (two i T0 T1) := by
  cases i
  · exact h.l0
  · exact h.l1
theorem MkAt.nodup {w : World} {mb tb0 tb1 : Nat} {T0 T1 : Tr} {st : Int} (h : MkAt w mb tb0 tb1 T0 T1 st) (i : Bool) : (blks (two i T0 T1)).Nodup := by
  cases i
  · exact h.ap.n0
  · exact h.ap.n1
theorem MkAt.tbn {w : World} {mb tb0 tb1 : Nat} {T0 T1 : Tr} {st : Int} (h : MkAt w mb tb0 tb1 T0 T1 st) (i : Bool) : two i tb0 tb1 ∉ blks (two i T0 T1) := by
  cases i
  · exact h.ap.x00
  · exact h.ap.x11
theorem MkAt.mbn {w : World} {mb tb0 tb1 : Nat} {T0 T1 : Tr} {st : Int} (h : MkAt w mb tb0 tb1 T0 T1 st) (i : Bool) : mb ∉ blks (two i T0 T1) := by
  cases i
  · exact h.ap.m0
  · exact h.ap.m1
theorem two_sub {mb tb0 tb1 : Nat} {T0 T1 : Tr} (i : Bool) : ∀ x ∈ two i tb0 tb1 :: mb :: blks (two i T0 T1), x ∈ mkB mb tb0 tb1 T0 T1 := fun x hx => by
  cases i
  · simp only [two, Bool.false_eq_true, if_false, List.mem_cons] at hx
    rcases hx with rfl | rfl | hx <;> simp [mkB, *]
  · simp only [two, if_true, List.mem_cons] at hx
    rcases hx with rfl | rfl | hx <;> simp [mkB, *]

/-- One tree has become another one. -/
theorem MkAt.step {w w' : World} {mb tb0 tb1 : Nat} {T0 T1 T' : Tr} {st st' : Int} {rv : Value} (h : MkAt w mb tb0 tb1 T0 T1 st) (i : Bool) (lay : Lay w' T') (nodup : (blks T').Nodup) (good : Good T') (old : ∀ x ∈ blks T', x ∈ blks (two i T0 T1) ∨ w.heap.size ≤ x)
    (tr : TrAt w' (two i tb0 tb1) mb rv (.pointer (some ⟨tb0, 0, none⟩)) (.pointer (some ⟨tb1, 0, none⟩)) st') (hrv : rv = ptrV T') {B : List Nat} (only : Only B w w') (hB : ∀ x ∈ B, x ∈ two i tb0 tb1 :: mb :: blks (two i T0 T1) ∨ w.heap.size ≤ x) :
    MkAt w' mb tb0 tb1 (two i T' T0) (two i T1 T') st' ∧ (∀ x ∈ mkB mb tb0 tb1 (two i T' T0) (two i T1 T'), x ∈ mkB mb tb0 tb1 T0 T1 ∨ w.heap.size ≤ x) := by
  subst hrv
  have hlt := h.lt
  have e0 := heap_lt h.t0
  have e1 := heap_lt h.t1
  have e2 := heap_lt h.m
  obtain ⟨hm, ht0, ht1, hl0, hl1, hg0, hg1, ⟨p1, p2, p3, p4, p5, p6, p7, p8, p9, p10, p11, p12⟩⟩ := h
  cases i with
  | false =>
    have hno : ∀ x, x < w.heap.size → x ∉ blks T0 → x ∉ blks T' := fun x hx hn hm => by
      rcases old x hm with h | h
      · exact hn h
      · omega
    have hnB : ∀ x, x < w.heap.size → x ≠ tb0 → x ≠ mb → x ∉ blks T0 → x ∉ B := fun x hx h1 h2 h3 hm => by
      rcases hB x hm with h | h
      · rcases List.mem_cons.1 h with h | h
        · exact h1 h
        · rcases List.mem_cons.1 h with h | h
          · exact h2 h
          · exact h3 h
      · omega
    refine ⟨⟨tr.m, tr.t, only.heap ht1 (hnB tb1 e1 (fun e => p3 e.symm) (fun e => p2 e.symm) p8), lay, hl1.only only (fun x hx => hnB x (hl1.lt x hx) (fun e => p7 (e ▸ hx)) (fun e => p5 (e ▸ hx)) (fun h => p12 x h hx)), good, hg1, ⟨p1, p2, p3, hno mb e2 p4, p5, hno tb0 e0 p6, p7, hno tb1 e1 p8, p9, nodup, p11, fun x hx hy => ?_⟩⟩, fun x hx => ?_⟩
    · rcases old x hx with h | h
      · exact p12 x h hy
      · have := hl1.lt x hy; omega
    · simp only [mkB, two, Bool.false_eq_true, if_false, List.mem_cons, List.mem_append] at hx ⊢
      rcases hx with h | h | h | h | h
      · exact .inl (.inl h)
      · exact .inl (.inr (.inl h))
      · exact .inl (.inr (.inr (.inl h)))
      · rcases old x h with h | h
        · exact .inl (.inr (.inr (.inr (.inl h))))
        · exact .inr h
      · exact .inl (.inr (.inr (.inr (.inr h))))
  | true =>
    have hno : ∀ x, x < w.heap.size → x ∉ blks T1 → x ∉ blks T' := fun x hx hn hm => by
      rcases old x hm with h | h
      · exact hn h
      · omega
    have hnB : ∀ x, x < w.heap.size → x ≠ tb1 → x ≠ mb → x ∉ blks T1 → x ∉ B := fun x hx h1 h2 h3 hm => by
      rcases hB x hm with h | h
      · rcases List.mem_cons.1 h with h | h
        · exact h1 h
        · rcases List.mem_cons.1 h with h | h
          · exact h2 h
          · exact h3 h
      · omega
    refine ⟨⟨tr.m, only.heap ht0 (hnB tb0 e0 p3 (fun e => p1 e.symm) p7), tr.t, hl0.only only (fun x hx => hnB x (hl0.lt x hx) (fun e => p8 (e ▸ hx)) (fun e => p4 (e ▸ hx)) (fun h => p12 x hx h)), lay, hg0, good, ⟨p1, p2, p3, p4, hno mb e2 p5, p6, hno tb0 e0 p7, p8, hno tb1 e1 p9, p10, nodup, fun x hx hy => ?_⟩⟩, fun x hx => ?_⟩
    · rcases old x hy with h | h
      · exact p12 x hx h
      · have := hl0.lt x hx; omega
    · simp only [mkB, two, if_true, List.mem_cons, List.mem_append] at hx ⊢
      rcases hx with h | h | h | h | h
      · exact .inl (.inl h)
      · exact .inl (.inr (.inl h))
      · exact .inl (.inr (.inr (.inl h)))
      · exact .inl (.inr (.inr (.inr (.inl h))))
      · rcases old x h with h | h
        · exact .inl (.inr (.inr (.inr (.inr h))))
        · exact .inr h

set_option maxRecDepth 100000 in
set_option maxHeartbeats 1000000 in
theorem of_walk {mb tb0 tb1 : Nat} {st : Int} (s : Sp) (w : World) (hm : w.heap[mb]? = some (.cells #[.pointer (some ⟨tb0, 0, none⟩), .pointer (some ⟨tb1, 0, none⟩), .int .i64 st] 55 (0, 0))) (i : Bool) (hi : s.k % 2 = if i then 1 else 0) :
    Calls Try.prog 42 #[.pointer (some ⟨mb, 0, none⟩), spanV s] w fun e w' => e = .returned (.pointer (some ⟨two i tb0 tb1, 0, none⟩)) ∧ w.grownBy w' none := by
  cases i
  · have hk : bits BinOp.and IntKind.i64 s.k 1 = 0 := by rw [and_one, hi]; rfl
    clear hi
    go_enter Try.func42, Try.ntmps42
    go_upto_region 1 with (fail)
    have HA := Lib.hid (heap_new w (Obj.cells #[Value.int IntKind.i64 s.a, Value.int IntKind.i64 s.b, Value.int IntKind.i64 s.k] 25))
    have hg := grownBy_alloc (grownBy_refl w none) (Obj.cells #[Value.int IntKind.i64 s.a, Value.int IntKind.i64 s.b, Value.int IntKind.i64 s.k] 25)
    have hm1 := grownBy_heap hg hm nofun
    generalize hw1 : w.alloc (Obj.cells #[Value.int IntKind.i64 s.a, Value.int IntKind.i64 s.b, Value.int IntKind.i64 s.k] 25) = w1 at *
    have a2 := cell_of_heap HA.out 2
    have c0 := cell_of_heap hm1 0
    have c1 := cell_of_heap hm1 1
    have HG := Lib.hid hg
    clear hg hm hm1 hw1
    refine region_hw (fun u => u = w1.drew) (by kernel_rfl) rfl (fun hHeld => ?_)
    refine hw_take 0 (v := ?_) rfl (by kernel_rfl) (by kernel_rfl) (by kernel_rfl) (fun _ _ _ h => h) (by rfl) (fun u hu => ?_) (by assumption) ?_
    rotate_left
    focus ((try dsimp only at hu); go_simp; (try with_reducible rfl); done)
    try simp only [Act.put, List.setIfInBounds_toArray, List.set_cons_zero, List.set_cons_succ]
    refine hw_take 1 (v := ?_) rfl (by kernel_rfl) (by kernel_rfl) (by kernel_rfl) (fun _ _ _ h => h) (by rfl) (fun u hu => ?_) (by assumption) ?_
    rotate_left
    focus ((try dsimp only at hu); go_simp; (try with_reducible rfl); done)
    try simp only [Act.put, List.setIfInBounds_toArray, List.set_cons_zero, List.set_cons_succ]
    refine hw_take 2 (v := ?_) rfl (by kernel_rfl) (by kernel_rfl) (by kernel_rfl) (fun _ _ _ h => h) (by rfl) (fun u hu => ?_) (by assumption) ?_
    rotate_left
    focus ((try dsimp only at hu); go_simp; (try with_reducible rfl); done)
    try simp only [Act.put, List.setIfInBounds_toArray, List.set_cons_zero, List.set_cons_succ]
    refine hw_take 3 (v := ?_) rfl (by kernel_rfl) (by kernel_rfl) (by kernel_rfl) (fun _ _ _ h => h) (by rfl) (fun u hu => ?_) (by assumption) ?_
    rotate_left
    focus ((try dsimp only at hu); go_simp; (try with_reducible rfl); done)
    try simp only [Act.put, List.setIfInBounds_toArray, List.set_cons_zero, List.set_cons_succ]
    refine hw_take 4 (v := ?_) rfl (by kernel_rfl) (by kernel_rfl) (by kernel_rfl) (fun _ _ _ h => h) (by rfl) (fun u hu => ?_) (by assumption) ?_
    rotate_left
    focus ((try dsimp only at hu); go_simp; (try with_reducible rfl); done)
    try simp only [Act.put, List.setIfInBounds_toArray, List.set_cons_zero, List.set_cons_succ]
    refine hw_take 5 (v := ?_) rfl (by kernel_rfl) (by kernel_rfl) (by kernel_rfl) (fun _ _ _ h => h) (by rfl) (fun u hu => ?_) (by assumption) ?_
    rotate_left
    focus ((try dsimp only at hu); go_simp; (try with_reducible rfl); done)
    try simp only [Act.put, List.setIfInBounds_toArray, List.set_cons_zero, List.set_cons_succ]
    refine hw_take 6 (v := ?_) rfl (by kernel_rfl) (by kernel_rfl) (by kernel_rfl) (fun _ _ _ h => h) (by rfl) (fun u hu => ?_) (by assumption) ?_
    rotate_left
    focus ((try dsimp only at hu); go_simp; (try with_reducible rfl); done)
    try simp only [Act.put, List.setIfInBounds_toArray, List.set_cons_zero, List.set_cons_succ]
    refine hw_take 7 (v := ?_) rfl (by kernel_rfl) (by kernel_rfl) (by kernel_rfl) (fun _ _ _ h => h) (by rfl) (fun u hu => ?_) (by assumption) ?_
    rotate_left
    focus ((try dsimp only at hu); go_simp; (try with_reducible rfl); done)
    try simp only [Act.put, List.setIfInBounds_toArray, List.set_cons_zero, List.set_cons_succ]
    refine hw_take 8 (v := ?_) rfl (by kernel_rfl) (by kernel_rfl) (by kernel_rfl) (fun _ _ _ h => h) (by rfl) (fun u hu => ?_) (by assumption) ?_
    rotate_left
    focus ((try dsimp only at hu); go_simp; (try with_reducible rfl); done)
    try simp only [Act.put, List.setIfInBounds_toArray, List.set_cons_zero, List.set_cons_succ]
    refine hw_done (by kernel_rfl) ?_
    go_wp2_with fail
    go_ret
    exact ⟨rfl, grownBy_drew HG.out⟩
  · have hk : bits BinOp.and IntKind.i64 s.k 1 = 1 := by rw [and_one, hi]; rfl
    clear hi
    go_enter Try.func42, Try.ntmps42
    go_upto_region 1 with (fail)
    have HA := Lib.hid (heap_new w (Obj.cells #[Value.int IntKind.i64 s.a, Value.int IntKind.i64 s.b, Value.int IntKind.i64 s.k] 25))
    have hg := grownBy_alloc (grownBy_refl w none) (Obj.cells #[Value.int IntKind.i64 s.a, Value.int IntKind.i64 s.b, Value.int IntKind.i64 s.k] 25)
    have hm1 := grownBy_heap hg hm nofun
    generalize hw1 : w.alloc (Obj.cells #[Value.int IntKind.i64 s.a, Value.int IntKind.i64 s.b, Value.int IntKind.i64 s.k] 25) = w1 at *
    have a2 := cell_of_heap HA.out 2
    have c0 := cell_of_heap hm1 0
    have c1 := cell_of_heap hm1 1
    have HG := Lib.hid hg
    clear hg hm hm1 hw1
    refine region_hw (fun u => u = w1.drew) (by kernel_rfl) rfl (fun hHeld => ?_)
    refine hw_take 0 (v := ?_) rfl (by kernel_rfl) (by kernel_rfl) (by kernel_rfl) (fun _ _ _ h => h) (by rfl) (fun u hu => ?_) (by assumption) ?_
    rotate_left
    focus ((try dsimp only at hu); go_simp; (try with_reducible rfl); done)
    try simp only [Act.put, List.setIfInBounds_toArray, List.set_cons_zero, List.set_cons_succ]
    refine hw_take 1 (v := ?_) rfl (by kernel_rfl) (by kernel_rfl) (by kernel_rfl) (fun _ _ _ h => h) (by rfl) (fun u hu => ?_) (by assumption) ?_
    rotate_left
    focus ((try dsimp only at hu); go_simp; (try with_reducible rfl); done)
    try simp only [Act.put, List.setIfInBounds_toArray, List.set_cons_zero, List.set_cons_succ]
    refine hw_take 2 (v := ?_) rfl (by kernel_rfl) (by kernel_rfl) (by kernel_rfl) (fun _ _ _ h => h) (by rfl) (fun u hu => ?_) (by assumption) ?_
    rotate_left
    focus ((try dsimp only at hu); go_simp; (try with_reducible rfl); done)
    try simp only [Act.put, List.setIfInBounds_toArray, List.set_cons_zero, List.set_cons_succ]
    refine hw_take 3 (v := ?_) rfl (by kernel_rfl) (by kernel_rfl) (by kernel_rfl) (fun _ _ _ h => h) (by rfl) (fun u hu => ?_) (by assumption) ?_
    rotate_left
    focus ((try dsimp only at hu); go_simp; (try with_reducible rfl); done)
    try simp only [Act.put, List.setIfInBounds_toArray, List.set_cons_zero, List.set_cons_succ]
    refine hw_take 4 (v := ?_) rfl (by kernel_rfl) (by kernel_rfl) (by kernel_rfl) (fun _ _ _ h => h) (by rfl) (fun u hu => ?_) (by assumption) ?_
    rotate_left
    focus ((try dsimp only at hu); go_simp; (try with_reducible rfl); done)
    try simp only [Act.put, List.setIfInBounds_toArray, List.set_cons_zero, List.set_cons_succ]
    refine hw_take 5 (v := ?_) rfl (by kernel_rfl) (by kernel_rfl) (by kernel_rfl) (fun _ _ _ h => h) (by rfl) (fun u hu => ?_) (by assumption) ?_
    rotate_left
    focus ((try dsimp only at hu); go_simp; (try with_reducible rfl); done)
    try simp only [Act.put, List.setIfInBounds_toArray, List.set_cons_zero, List.set_cons_succ]
    refine hw_take 6 (v := ?_) rfl (by kernel_rfl) (by kernel_rfl) (by kernel_rfl) (fun _ _ _ h => h) (by rfl) (fun u hu => ?_) (by assumption) ?_
    rotate_left
    focus ((try dsimp only at hu); go_simp; (try with_reducible rfl); done)
    try simp only [Act.put, List.setIfInBounds_toArray, List.set_cons_zero, List.set_cons_succ]
    refine hw_take 7 (v := ?_) rfl (by kernel_rfl) (by kernel_rfl) (by kernel_rfl) (fun _ _ _ h => h) (by rfl) (fun u hu => ?_) (by assumption) ?_
    rotate_left
    focus ((try dsimp only at hu); go_simp; (try with_reducible rfl); done)
    try simp only [Act.put, List.setIfInBounds_toArray, List.set_cons_zero, List.set_cons_succ]
    refine hw_take 8 (v := ?_) rfl (by kernel_rfl) (by kernel_rfl) (by kernel_rfl) (fun _ _ _ h => h) (by rfl) (fun u hu => ?_) (by assumption) ?_
    rotate_left
    focus ((try dsimp only at hu); go_simp; (try with_reducible rfl); done)
    try simp only [Act.put, List.setIfInBounds_toArray, List.set_cons_zero, List.set_cons_succ]
    refine hw_done (by kernel_rfl) ?_
    go_wp2_with fail
    go_ret
    exact ⟨rfl, grownBy_drew HG.out⟩
end Go.Proofs.Ytijpienjejfmiaa
