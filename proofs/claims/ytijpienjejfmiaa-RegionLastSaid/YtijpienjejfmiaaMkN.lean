/-
  Marks' put and cut on two trees: the walks. No conditions beyond those that each law names.
-/
import Derived.Test.YtijpienjejfmiaaMkM
namespace Go.Proofs.Ytijpienjejfmiaa
open Go Go.RowKit

/-- Marks in memory: their spans, of even kinds, of odd ones; the blocks. -/
def Mk (w : World) (mb : Nat) (B : List Nat) (L0 L1 : List Sp) : Prop :=
  ∃ tb0 tb1 T0 T1 st, MkAt w mb tb0 tb1 T0 T1 st ∧ flat T0 = L0 ∧ flat T1 = L1 ∧ B = mkB mb tb0 tb1 T0 T1

/-- .. with the trees' own blocks told. -/
def MkT (w : World) (mb tb0 tb1 : Nat) (B : List Nat) (L0 L1 : List Sp) : Prop :=
  ∃ T0 T1 st, MkAt w mb tb0 tb1 T0 T1 st ∧ flat T0 = L0 ∧ flat T1 = L1 ∧ B = mkB mb tb0 tb1 T0 T1

theorem MkT.mk {w : World} {mb tb0 tb1 : Nat} {B : List Nat} {L0 L1 : List Sp} (h : MkT w mb tb0 tb1 B L0 L1) : Mk w mb B L0 L1 := ⟨tb0, tb1, h⟩

/-- What a call leaves, the trees' blocks told. -/
structure MkResT (mb tb0 tb1 : Nat) (B : List Nat) (L0 L1 : List Sp) (w w' : World) : Prop where
  at_ : ∃ B', MkT w' mb tb0 tb1 B' L0 L1 ∧ ∀ x ∈ B', x ∈ B ∨ w.heap.size ≤ x
  only : Only B w w'

theorem MkT.only {w w' : World} {mb tb0 tb1 : Nat} {B C : List Nat} {L0 L1 : List Sp} (h : MkT w mb tb0 tb1 B L0 L1) (g : Only C w w') (hd : ∀ x ∈ B, x ∉ C) : MkT w' mb tb0 tb1 B L0 L1 := by
  obtain ⟨T0, T1, st, h1, h2, h3, h4⟩ := h
  subst h4
  exact ⟨T0, T1, st, h1.only g hd, h2, h3, rfl⟩

/-- What a call leaves. -/
structure MkRes (mb : Nat) (B : List Nat) (L0 L1 : List Sp) (w w' : World) : Prop where
  at_ : ∃ B', Mk w' mb B' L0 L1 ∧ ∀ x ∈ B', x ∈ B ∨ w.heap.size ≤ x
  only : Only B w w'

theorem Mk.only {w w' : World} {mb : Nat} {B C : List Nat} {L0 L1 : List Sp} (h : Mk w mb B L0 L1) (g : Only C w w') (hd : ∀ x ∈ B, x ∉ C) : Mk w' mb B L0 L1 := by
  obtain ⟨tb0, tb1, T0, T1, st, h1, h2, h3, h4⟩ := h
  subst h4
  exact ⟨tb0, tb1, T0, T1, st, h1.only g hd, h2, h3, rfl⟩

theorem Mk.kept {w w' : World} {mb : Nat} {B : List Nat} {L0 L1 : List Sp} (h : Mk w mb B L0 L1) (g : w.grownBy w' none) : Mk w' mb B L0 L1 := h.only (Only.ofGrown (B := []) g) (fun _ _ => by simp)

theorem Mk.lt {w : World} {mb : Nat} {B : List Nat} {L0 L1 : List Sp} (h : Mk w mb B L0 L1) : ∀ x ∈ B, x < w.heap.size := by
  obtain ⟨tb0, tb1, T0, T1, st, h1, _, _, h4⟩ := h
  subst h4
  exact h1.lt

theorem Mk.mem {w : World} {mb : Nat} {B : List Nat} {L0 L1 : List Sp} (h : Mk w mb B L0 L1) : mb ∈ B := by
  obtain ⟨tb0, tb1, T0, T1, st, h1, _, _, h4⟩ := h
  subst h4
  simp [mkB]

theorem Mk.good0 {w : World} {mb : Nat} {B : List Nat} {L0 L1 : List Sp} (h : Mk w mb B L0 L1) : Ord L0 ∧ (∀ x ∈ L0, In x) := by
  obtain ⟨tb0, tb1, T0, T1, st, h1, rfl, _, h4⟩ := h
  exact ⟨h1.g0.ord, h1.g0.places⟩
theorem Mk.good1 {w : World} {mb : Nat} {B : List Nat} {L0 L1 : List Sp} (h : Mk w mb B L0 L1) : Ord L1 ∧ (∀ x ∈ L1, In x) := by
  obtain ⟨tb0, tb1, T0, T1, st, h1, _, rfl, h4⟩ := h
  exact ⟨h1.g1.ord, h1.g1.places⟩

theorem MkRes.trans {mb : Nat} {B B1 : List Nat} {L0 L1 : List Sp} {w w1 w2 : World} (h1 : ∀ x ∈ B1, x ∈ B ∨ w.heap.size ≤ x) (o : Only B w w1) (h : MkRes mb B1 L0 L1 w1 w2) : MkRes mb B L0 L1 w w2 := by
  obtain ⟨⟨B2, m2, s2⟩, o2⟩ := h
  refine ⟨⟨B2, m2, fun x hx => ?_⟩, o.trans o2 h1⟩
  rcases s2 x hx with h | h
  · exact h1 x h
  · exact .inr (Nat.le_trans o.size h)

set_option maxRecDepth 100000 in
set_option maxHeartbeats 1000000 in
theorem mput_walkT {mb tb0 tb1 : Nat} {B : List Nat} {L0 L1 : List Sp} (s : Sp) (i : Bool) (hi : s.k % 2 = if i then 1 else 0) (w : World) (h : MkT w mb tb0 tb1 B L0 L1) (hs : In s) (hf : (two i L0 L1).length < 1099511627776) :
    Calls Try.prog 31 #[.pointer (some ⟨mb, 0, none⟩), spanV s] w fun e w' => e = .returned (.bool (!decide (s ∈ two i L0 L1))) ∧ MkResT mb tb0 tb1 B (two i (insS s L0) L0) (two i L1 (insS s L1)) w w' := by
  obtain ⟨T0, T1, st, hm, rfl, rfl, hB⟩ := h
  subst hB
  have hT : two i (flat T0) (flat T1) = flat (two i T0 T1) := by cases i <;> rfl
  rw [hT] at hf ⊢
  clear hT
  have hlts := hm.lt
  go_enter Try.func31, Try.ntmps31
  go_upto_region 1 with (fail)
  have HA := Lib.hid (heap_new w (Obj.cells #[Value.int IntKind.i64 s.a, Value.int IntKind.i64 s.b, Value.int IntKind.i64 s.k] 25))
  have ho := (Only.refl [] w).alloc (Obj.cells #[Value.int IntKind.i64 s.a, Value.int IntKind.i64 s.b, Value.int IntKind.i64 s.k] 25)
  generalize hw1 : w.alloc (Obj.cells #[Value.int IntKind.i64 s.a, Value.int IntKind.i64 s.b, Value.int IntKind.i64 s.k] 25) = w1 at *
  have hm1 := hm.only ho (fun _ _ => by simp)
  have a0 := cell_of_heap HA.out 0
  have a1 := cell_of_heap HA.out 1
  have a2 := cell_of_heap HA.out 2
  have HO1 := Lib.hid (ho.mono (B' := mkB mb tb0 tb1 T0 T1) (by simp))
  have HM := Lib.hid hm
  have HM1 := Lib.hid hm1
  generalize hsz : w.heap.size = sz at *
  clear ho hw1 hm hm1
  go_wp2_with fail
  refine (of_walk s w1 HM1.out.m i hi).mono ?_
  rintro e w2 ⟨rfl, hg2⟩
  have HA2 := Lib.hid (grownBy_heap hg2 HA.out nofun)
  have HM2 := Lib.hid (HM1.out.only (Only.ofGrown (B := []) hg2) (fun _ _ => by simp))
  have HO2 := Lib.hid (HO1.out.trans (Only.ofGrown (B := []) hg2) (by simp))
  clear hg2 a0 a1 a2
  have ht2 := HM2.out.tr i
  have t0 := cell_of_heap ht2.t 0
  have a0 := cell_of_heap HA2.out 0
  have a1 := cell_of_heap HA2.out 1
  have a2 := cell_of_heap HA2.out 2
  have HT2 := Lib.hid ht2
  clear ht2
  go_upto_region 2 with (fail)
  refine region_pre 7 (fun u => u = w2.drew) (by kernel_rfl) rfl (fun hHeld => ?_)
  refine pre_free 0 (v := ?_) rfl (by kernel_rfl) (by kernel_rfl) (by kernel_rfl) (by kernel_rfl) (fun _ _ _ h => h) (by rfl) (fun u => ?_) (by assumption) ?_
  rotate_left
  focus (go_simp; (try with_reducible rfl); done)
  try simp only [Act.put, List.setIfInBounds_toArray, List.set_cons_zero, List.set_cons_succ]
  refine pre_free 1 (v := ?_) rfl (by kernel_rfl) (by kernel_rfl) (by kernel_rfl) (by kernel_rfl) (fun _ _ _ h => h) (by rfl) (fun u => ?_) (by assumption) ?_
  rotate_left
  focus (go_simp; (try with_reducible rfl); done)
  try simp only [Act.put, List.setIfInBounds_toArray, List.set_cons_zero, List.set_cons_succ]
  refine pre_free 2 (v := ?_) rfl (by kernel_rfl) (by kernel_rfl) (by kernel_rfl) (by kernel_rfl) (fun _ _ _ h => h) (by rfl) (fun u => ?_) (by assumption) ?_
  rotate_left
  focus (go_simp; (try with_reducible rfl); done)
  try simp only [Act.put, List.setIfInBounds_toArray, List.set_cons_zero, List.set_cons_succ]
  refine pre_free 3 (v := ?_) rfl (by kernel_rfl) (by kernel_rfl) (by kernel_rfl) (by kernel_rfl) (fun _ _ _ h => h) (by rfl) (fun u => ?_) (by assumption) ?_
  rotate_left
  focus (go_simp; (try with_reducible rfl); done)
  try simp only [Act.put, List.setIfInBounds_toArray, List.set_cons_zero, List.set_cons_succ]
  refine pre_free 4 (v := ?_) rfl (by kernel_rfl) (by kernel_rfl) (by kernel_rfl) (by kernel_rfl) (fun _ _ _ h => h) (by rfl) (fun u => ?_) (by assumption) ?_
  rotate_left
  focus (go_simp; (try with_reducible rfl); done)
  try simp only [Act.put, List.setIfInBounds_toArray, List.set_cons_zero, List.set_cons_succ]
  refine pre_load 5 (v := ?_) rfl (by kernel_rfl) (by kernel_rfl) (by kernel_rfl) (by kernel_rfl) (fun _ _ _ h => h) (by rfl) (fun u hu => ?_) (by assumption) ?_
  rotate_left
  focus ((try dsimp only at hu); go_simp; (try with_reducible rfl); done)
  try simp only [Act.put, List.setIfInBounds_toArray, List.set_cons_zero, List.set_cons_succ]
  refine pre_load 6 (v := ?_) rfl (by kernel_rfl) (by kernel_rfl) (by kernel_rfl) (by kernel_rfl) (fun _ _ _ h => h) (by rfl) (fun u hu => ?_) (by assumption) ?_
  rotate_left
  focus ((try dsimp only at hu); go_simp; (try with_reducible rfl); done)
  try simp only [Act.put, List.setIfInBounds_toArray, List.set_cons_zero, List.set_cons_succ]
  refine pre_last (by kernel_rfl) rfl (fun K hK => ?_)
  go_simp
  go_at_call 43
  refine (put_walk (tb := two i tb0 tb1) (mb := mb) s hs _ (two i T0 T1) st w2.drew (Nat.le_refl _) (HM2.out.good i) hf ((HM2.out.lay i).same rfl) (HM2.out.nodup i) (HT2.out.only (Only.refl [] w2).drew (by simp) (by simp)) (HM2.out.tbn i) (HM2.out.mbn i)).mono ?_
  rintro e w3 ⟨T', rfl, q1, q2, q3, q4, q5, ⟨st3, q6⟩, q7⟩
  have q7' : Only (mb :: blks (two i T0 T1)) w2 w3 := (Only.refl _ w2).drew.trans q7 (fun x hx => .inl hx)
  have q5' : ∀ x ∈ blks T', x ∈ blks (two i T0 T1) ∨ w2.heap.size ≤ x := fun x hx => q5 x hx
  have htlt : two i tb0 tb1 < w2.heap.size := heap_lt HT2.out.t
  have htn : two i tb0 tb1 ∉ blks T' := fun hm => by
    rcases q5' _ hm with h | h
    · exact HM2.out.tbn i h
    · omega
  have e0 := cell_of_heap q6.t 0
  have f0 := frozen_of_heap q6.t 0
  have ho4 := (Only.refl [two i tb0 tb1] w3).setCell (p := ⟨two i tb0 tb1, 0, none⟩) (.inl (by simp)) (ptrV T')
  have hl4 := q1.only ho4 (fun x hx hm => htn (List.mem_singleton.1 hm ▸ hx))
  have ht4 : TrAt _ (two i tb0 tb1) mb (ptrV T') _ _ st3 := ⟨heap_setCell q6.t 0 (ptrV T'), ho4.heap q6.m (fun hm => q6.ne (List.mem_singleton.1 hm).symm), q6.ne⟩
  have hO4 : Only (two i tb0 tb1 :: mb :: blks (two i T0 T1)) w2 _ := (q7'.mono (B' := two i tb0 tb1 :: mb :: blks (two i T0 T1)) (fun x hx => .inl (List.mem_cons_of_mem _ hx))).trans ho4 (fun x hx => .inl (by rw [List.mem_singleton.1 hx]; simp))
  have hM4 := HM2.out.step i hl4 q2 q3 q5' ht4 rfl hO4 (fun x hx => .inl hx)
  have HM4 := Lib.hid hM4
  have HO4 := Lib.hid (HO2.out.trans hO4 (fun x hx => .inl (two_sub i x hx)))
  have HF := Lib.hid q4
  clear q1 q2 q3 q4 q5 q5' q6 q7 q7' htlt htn ho4 hl4 ht4 hO4 hM4 t0 a0 a1 a2
  try go_simp
  refine hK.out _ _ ?_
  clear hK K
  try simp only [Act.put, List.setIfInBounds_toArray, List.set_cons_zero, List.set_cons_succ]
  refine aw_free 8 (v := ?_) rfl (by kernel_rfl) (by kernel_rfl) (by kernel_rfl) (fun _ _ _ h => h) (by rfl) (fun u => ?_) ?_
  rotate_left
  focus (go_simp; (try with_reducible rfl); done)
  try simp only [Act.put, List.setIfInBounds_toArray, List.set_cons_zero, List.set_cons_succ]
  refine aw_free 9 (v := ?_) rfl (by kernel_rfl) (by kernel_rfl) (by kernel_rfl) (fun _ _ _ h => h) (by rfl) (fun u => ?_) ?_
  rotate_left
  focus (go_simp; (try with_reducible rfl); done)
  try simp only [Act.put, List.setIfInBounds_toArray, List.set_cons_zero, List.set_cons_succ]
  refine aw_free 10 (v := ?_) rfl (by kernel_rfl) (by kernel_rfl) (by kernel_rfl) (fun _ _ _ h => h) (by rfl) (fun u => ?_) ?_
  rotate_left
  focus (go_simp; (try with_reducible rfl); done)
  try simp only [Act.put, List.setIfInBounds_toArray, List.set_cons_zero, List.set_cons_succ]
  refine aw_free 11 (v := ?_) rfl (by kernel_rfl) (by kernel_rfl) (by kernel_rfl) (fun _ _ _ h => h) (by rfl) (fun u => ?_) ?_
  rotate_left
  focus (go_simp; (try with_reducible rfl); done)
  try simp only [Act.put, List.setIfInBounds_toArray, List.set_cons_zero, List.set_cons_succ]
  refine aw_free 12 (v := ?_) rfl (by kernel_rfl) (by kernel_rfl) (by kernel_rfl) (fun _ _ _ h => h) (by rfl) (fun u => ?_) ?_
  rotate_left
  focus (go_simp; (try with_reducible rfl); done)
  try simp only [Act.put, List.setIfInBounds_toArray, List.set_cons_zero, List.set_cons_succ]
  refine aw_one 13 (by kernel_rfl) rfl (fun K hK => ?_)
  go_simp
  refine hK.out _ _ ?_
  clear hK K
  try simp only [Act.put, List.setIfInBounds_toArray, List.set_cons_zero, List.set_cons_succ]
  refine aw_one 14 (by kernel_rfl) rfl (fun K hK => ?_)
  go_simp
  refine hK.out _ _ ?_
  clear hK K
  try simp only [Act.put, List.setIfInBounds_toArray, List.set_cons_zero, List.set_cons_succ]
  refine aw_done (by kernel_rfl) ?_
  go_wp2_with fail
  go_ret
  refine ⟨rfl, ⟨⟨mkB mb tb0 tb1 (two i T' T0) (two i T1 T'), ⟨_, _, _, HM4.out.1, ?_, ?_, rfl⟩, fun x hx => ?_⟩, HO4.out⟩⟩
  · have hf := HF.out
    cases i
    · exact hf
    · rfl
  · have hf := HF.out
    cases i
    · rfl
    · exact hf
  · rcases HM4.out.2 x hx with h | h
    · exact .inl h
    · have := HO2.out.size
      rw [hsz] at this ⊢
      exact .inr (by omega)

theorem mput_walk {mb : Nat} {B : List Nat} {L0 L1 : List Sp} (s : Sp) (i : Bool) (hi : s.k % 2 = if i then 1 else 0) (w : World) (h : Mk w mb B L0 L1) (hs : In s) (hf : (two i L0 L1).length < 1099511627776) :
    Calls Try.prog 31 #[.pointer (some ⟨mb, 0, none⟩), spanV s] w fun e w' => e = .returned (.bool (!decide (s ∈ two i L0 L1))) ∧ MkRes mb B (two i (insS s L0) L0) (two i L1 (insS s L1)) w w' := by
  obtain ⟨tb0, tb1, h⟩ := h
  refine (mput_walkT s i hi w h hs hf).mono ?_
  rintro e w' ⟨rfl, ⟨B', h1, h2⟩, h3⟩
  exact ⟨rfl, ⟨B', h1.mk, h2⟩, h3⟩

set_option maxRecDepth 100000 in
set_option maxHeartbeats 1000000 in
theorem mcut_walkT {mb tb0 tb1 : Nat} {B : List Nat} {L0 L1 : List Sp} (s : Sp) (i : Bool) (hi : s.k % 2 = if i then 1 else 0) (w : World) (h : MkT w mb tb0 tb1 B L0 L1) :
    Calls Try.prog 33 #[.pointer (some ⟨mb, 0, none⟩), spanV s] w fun e w' => e = .returned (.bool (decide (s ∈ two i L0 L1))) ∧ MkResT mb tb0 tb1 B (two i (remS s L0) L0) (two i L1 (remS s L1)) w w' := by
  obtain ⟨T0, T1, st, hm, rfl, rfl, hB⟩ := h
  subst hB
  have hT : two i (flat T0) (flat T1) = flat (two i T0 T1) := by cases i <;> rfl
  rw [hT]
  clear hT
  have hlts := hm.lt
  go_enter Try.func33, Try.ntmps33
  go_upto_region 1 with (fail)
  have HA := Lib.hid (heap_new w (Obj.cells #[Value.int IntKind.i64 s.a, Value.int IntKind.i64 s.b, Value.int IntKind.i64 s.k] 25))
  have ho := (Only.refl [] w).alloc (Obj.cells #[Value.int IntKind.i64 s.a, Value.int IntKind.i64 s.b, Value.int IntKind.i64 s.k] 25)
  generalize hw1 : w.alloc (Obj.cells #[Value.int IntKind.i64 s.a, Value.int IntKind.i64 s.b, Value.int IntKind.i64 s.k] 25) = w1 at *
  have hm1 := hm.only ho (fun _ _ => by simp)
  have a0 := cell_of_heap HA.out 0
  have a1 := cell_of_heap HA.out 1
  have a2 := cell_of_heap HA.out 2
  have HO1 := Lib.hid (ho.mono (B' := mkB mb tb0 tb1 T0 T1) (by simp))
  have HM := Lib.hid hm
  have HM1 := Lib.hid hm1
  generalize hsz : w.heap.size = sz at *
  clear ho hw1 hm hm1
  go_wp2_with fail
  refine (of_walk s w1 HM1.out.m i hi).mono ?_
  rintro e w2 ⟨rfl, hg2⟩
  have HA2 := Lib.hid (grownBy_heap hg2 HA.out nofun)
  have HM2 := Lib.hid (HM1.out.only (Only.ofGrown (B := []) hg2) (fun _ _ => by simp))
  have HO2 := Lib.hid (HO1.out.trans (Only.ofGrown (B := []) hg2) (by simp))
  clear hg2 a0 a1 a2
  have ht2 := HM2.out.tr i
  have t0 := cell_of_heap ht2.t 0
  have a0 := cell_of_heap HA2.out 0
  have a1 := cell_of_heap HA2.out 1
  have a2 := cell_of_heap HA2.out 2
  have HT2 := Lib.hid ht2
  clear ht2
  go_upto_region 2 with (fail)
  refine region_pre 7 (fun u => u = w2.drew) (by kernel_rfl) rfl (fun hHeld => ?_)
  refine pre_free 0 (v := ?_) rfl (by kernel_rfl) (by kernel_rfl) (by kernel_rfl) (by kernel_rfl) (fun _ _ _ h => h) (by rfl) (fun u => ?_) (by assumption) ?_
  rotate_left
  focus (go_simp; (try with_reducible rfl); done)
  try simp only [Act.put, List.setIfInBounds_toArray, List.set_cons_zero, List.set_cons_succ]
  refine pre_free 1 (v := ?_) rfl (by kernel_rfl) (by kernel_rfl) (by kernel_rfl) (by kernel_rfl) (fun _ _ _ h => h) (by rfl) (fun u => ?_) (by assumption) ?_
  rotate_left
  focus (go_simp; (try with_reducible rfl); done)
  try simp only [Act.put, List.setIfInBounds_toArray, List.set_cons_zero, List.set_cons_succ]
  refine pre_free 2 (v := ?_) rfl (by kernel_rfl) (by kernel_rfl) (by kernel_rfl) (by kernel_rfl) (fun _ _ _ h => h) (by rfl) (fun u => ?_) (by assumption) ?_
  rotate_left
  focus (go_simp; (try with_reducible rfl); done)
  try simp only [Act.put, List.setIfInBounds_toArray, List.set_cons_zero, List.set_cons_succ]
  refine pre_free 3 (v := ?_) rfl (by kernel_rfl) (by kernel_rfl) (by kernel_rfl) (by kernel_rfl) (fun _ _ _ h => h) (by rfl) (fun u => ?_) (by assumption) ?_
  rotate_left
  focus (go_simp; (try with_reducible rfl); done)
  try simp only [Act.put, List.setIfInBounds_toArray, List.set_cons_zero, List.set_cons_succ]
  refine pre_free 4 (v := ?_) rfl (by kernel_rfl) (by kernel_rfl) (by kernel_rfl) (by kernel_rfl) (fun _ _ _ h => h) (by rfl) (fun u => ?_) (by assumption) ?_
  rotate_left
  focus (go_simp; (try with_reducible rfl); done)
  try simp only [Act.put, List.setIfInBounds_toArray, List.set_cons_zero, List.set_cons_succ]
  refine pre_load 5 (v := ?_) rfl (by kernel_rfl) (by kernel_rfl) (by kernel_rfl) (by kernel_rfl) (fun _ _ _ h => h) (by rfl) (fun u hu => ?_) (by assumption) ?_
  rotate_left
  focus ((try dsimp only at hu); go_simp; (try with_reducible rfl); done)
  try simp only [Act.put, List.setIfInBounds_toArray, List.set_cons_zero, List.set_cons_succ]
  refine pre_load 6 (v := ?_) rfl (by kernel_rfl) (by kernel_rfl) (by kernel_rfl) (by kernel_rfl) (fun _ _ _ h => h) (by rfl) (fun u hu => ?_) (by assumption) ?_
  rotate_left
  focus ((try dsimp only at hu); go_simp; (try with_reducible rfl); done)
  try simp only [Act.put, List.setIfInBounds_toArray, List.set_cons_zero, List.set_cons_succ]
  refine pre_last (by kernel_rfl) rfl (fun K hK => ?_)
  go_simp
  go_at_call 44
  refine (cut_walk (tb := two i tb0 tb1) (mb := mb) s _ (two i T0 T1) st w2.drew (Nat.le_refl _) (HM2.out.good i) ((HM2.out.lay i).same rfl) (HM2.out.nodup i) (HT2.out.only (Only.refl [] w2).drew (by simp) (by simp)) (HM2.out.tbn i) (HM2.out.mbn i)).mono ?_
  rintro e w3 ⟨T', rfl, q1, q2, q3, q4, q5, ⟨st3, q6⟩, q7⟩
  have q7' : Only (mb :: blks (two i T0 T1)) w2 w3 := (Only.refl _ w2).drew.trans q7 (fun x hx => .inl hx)
  have q5' : ∀ x ∈ blks T', x ∈ blks (two i T0 T1) ∨ w2.heap.size ≤ x := fun x hx => .inl (q5 x hx)
  have htlt : two i tb0 tb1 < w2.heap.size := heap_lt HT2.out.t
  have htn : two i tb0 tb1 ∉ blks T' := fun hm => by
    rcases q5' _ hm with h | h
    · exact HM2.out.tbn i h
    · omega
  have e0 := cell_of_heap q6.t 0
  have f0 := frozen_of_heap q6.t 0
  have ho4 := (Only.refl [two i tb0 tb1] w3).setCell (p := ⟨two i tb0 tb1, 0, none⟩) (.inl (by simp)) (ptrV T')
  have hl4 := q1.only ho4 (fun x hx hm => htn (List.mem_singleton.1 hm ▸ hx))
  have ht4 : TrAt _ (two i tb0 tb1) mb (ptrV T') _ _ st3 := ⟨heap_setCell q6.t 0 (ptrV T'), ho4.heap q6.m (fun hm => q6.ne (List.mem_singleton.1 hm).symm), q6.ne⟩
  have hO4 : Only (two i tb0 tb1 :: mb :: blks (two i T0 T1)) w2 _ := (q7'.mono (B' := two i tb0 tb1 :: mb :: blks (two i T0 T1)) (fun x hx => .inl (List.mem_cons_of_mem _ hx))).trans ho4 (fun x hx => .inl (by rw [List.mem_singleton.1 hx]; simp))
  have hM4 := HM2.out.step i hl4 q2 q3 q5' ht4 rfl hO4 (fun x hx => .inl hx)
  have HM4 := Lib.hid hM4
  have HO4 := Lib.hid (HO2.out.trans hO4 (fun x hx => .inl (two_sub i x hx)))
  have HF := Lib.hid q4
  clear q1 q2 q3 q4 q5 q5' q6 q7 q7' htlt htn ho4 hl4 ht4 hO4 hM4 t0 a0 a1 a2
  try go_simp
  refine hK.out _ _ ?_
  clear hK K
  try simp only [Act.put, List.setIfInBounds_toArray, List.set_cons_zero, List.set_cons_succ]
  refine aw_free 8 (v := ?_) rfl (by kernel_rfl) (by kernel_rfl) (by kernel_rfl) (fun _ _ _ h => h) (by rfl) (fun u => ?_) ?_
  rotate_left
  focus (go_simp; (try with_reducible rfl); done)
  try simp only [Act.put, List.setIfInBounds_toArray, List.set_cons_zero, List.set_cons_succ]
  refine aw_free 9 (v := ?_) rfl (by kernel_rfl) (by kernel_rfl) (by kernel_rfl) (fun _ _ _ h => h) (by rfl) (fun u => ?_) ?_
  rotate_left
  focus (go_simp; (try with_reducible rfl); done)
  try simp only [Act.put, List.setIfInBounds_toArray, List.set_cons_zero, List.set_cons_succ]
  refine aw_free 10 (v := ?_) rfl (by kernel_rfl) (by kernel_rfl) (by kernel_rfl) (fun _ _ _ h => h) (by rfl) (fun u => ?_) ?_
  rotate_left
  focus (go_simp; (try with_reducible rfl); done)
  try simp only [Act.put, List.setIfInBounds_toArray, List.set_cons_zero, List.set_cons_succ]
  refine aw_free 11 (v := ?_) rfl (by kernel_rfl) (by kernel_rfl) (by kernel_rfl) (fun _ _ _ h => h) (by rfl) (fun u => ?_) ?_
  rotate_left
  focus (go_simp; (try with_reducible rfl); done)
  try simp only [Act.put, List.setIfInBounds_toArray, List.set_cons_zero, List.set_cons_succ]
  refine aw_free 12 (v := ?_) rfl (by kernel_rfl) (by kernel_rfl) (by kernel_rfl) (fun _ _ _ h => h) (by rfl) (fun u => ?_) ?_
  rotate_left
  focus (go_simp; (try with_reducible rfl); done)
  try simp only [Act.put, List.setIfInBounds_toArray, List.set_cons_zero, List.set_cons_succ]
  refine aw_one 13 (by kernel_rfl) rfl (fun K hK => ?_)
  go_simp
  refine hK.out _ _ ?_
  clear hK K
  try simp only [Act.put, List.setIfInBounds_toArray, List.set_cons_zero, List.set_cons_succ]
  refine aw_one 14 (by kernel_rfl) rfl (fun K hK => ?_)
  go_simp
  refine hK.out _ _ ?_
  clear hK K
  try simp only [Act.put, List.setIfInBounds_toArray, List.set_cons_zero, List.set_cons_succ]
  refine aw_done (by kernel_rfl) ?_
  go_wp2_with fail
  go_ret
  refine ⟨rfl, ⟨⟨mkB mb tb0 tb1 (two i T' T0) (two i T1 T'), ⟨_, _, _, HM4.out.1, ?_, ?_, rfl⟩, fun x hx => ?_⟩, HO4.out⟩⟩
  · have hf := HF.out
    cases i
    · exact hf
    · rfl
  · have hf := HF.out
    cases i
    · rfl
    · exact hf
  · rcases HM4.out.2 x hx with h | h
    · exact .inl h
    · have := HO2.out.size
      rw [hsz] at this ⊢
      exact .inr (by omega)

theorem mcut_walk {mb : Nat} {B : List Nat} {L0 L1 : List Sp} (s : Sp) (i : Bool) (hi : s.k % 2 = if i then 1 else 0) (w : World) (h : Mk w mb B L0 L1) :
    Calls Try.prog 33 #[.pointer (some ⟨mb, 0, none⟩), spanV s] w fun e w' => e = .returned (.bool (decide (s ∈ two i L0 L1))) ∧ MkRes mb B (two i (remS s L0) L0) (two i L1 (remS s L1)) w w' := by
  obtain ⟨tb0, tb1, h⟩ := h
  refine (mcut_walkT s i hi w h).mono ?_
  rintro e w' ⟨rfl, ⟨B', h1, h2⟩, h3⟩
  exact ⟨rfl, ⟨B', h1.mk, h2⟩, h3⟩

end Go.Proofs.Ytijpienjejfmiaa
