/-
  Marks' quiet; Put and Remove: the walks. No conditions beyond those that each law names.
-/
import Derived.Test.YtijpienjejfmiaaMkN
namespace Go.Proofs.Ytijpienjejfmiaa
open Go Go.RowKit

/-- Marks' own block, whatever is in it. -/
def OwnAt (mb : Nat) (w : World) : Prop := ∃ p0 p1 st, w.heap[mb]? = some (.cells #[p0, p1, .int .i64 st] 55 (0, 0))

theorem Mk.own {w : World} {mb : Nat} {B : List Nat} {L0 L1 : List Sp} (h : Mk w mb B L0 L1) : OwnAt mb w := by
  obtain ⟨tb0, tb1, T0, T1, st, h1, _⟩ := h
  exact ⟨_, _, _, h1.m⟩

theorem Mk.steps {w : World} {mb : Nat} {B : List Nat} {L0 L1 : List Sp} (h : Mk w mb B L0 L1) (st : Int) : Mk (w.setCell ⟨mb, 2, none⟩ (.int .i64 st)) mb B L0 L1 := by
  obtain ⟨tb0, tb1, T0, T1, st0, h1, h2, h3, h4⟩ := h
  have ho := (Only.refl [mb] w).setCell (p := ⟨mb, 2, none⟩) (.inl (by simp)) (.int .i64 st)
  have hn : ∀ x, x ≠ mb → x ∉ [mb] := fun x h hm => h (List.mem_singleton.1 hm)
  exact ⟨tb0, tb1, T0, T1, st, ⟨heap_setCell h1.m 2 _, ho.heap h1.t0 (hn _ (fun e => h1.ap.a0 e.symm)), ho.heap h1.t1 (hn _ (fun e => h1.ap.a1 e.symm)), h1.l0.only ho (fun x hx => hn x (fun e => h1.ap.m0 (e ▸ hx))), h1.l1.only ho (fun x hx => hn x (fun e => h1.ap.m1 (e ▸ hx))), h1.g0, h1.g1, h1.ap⟩, h2, h3, h4⟩

set_option maxRecDepth 100000 in
set_option maxHeartbeats 1000000 in
theorem quiet30_walk {mb : Nat} (c0 c1 c2 : Value) (R : World → Prop) (w : World) (hm : OwnAt mb w)
    (hc : Calls Try.prog 30 #[c0, c1, c2] w fun e w1 => e = .returned (.tuple #[]) ∧ R w1 ∧ OwnAt mb w1) :
    Calls Try.prog 29 #[.pointer (some ⟨mb, 0, none⟩), .func (.func 30) #[] #[c0, c1, c2]] w fun e w' => e = .returned (.tuple #[]) ∧ ∃ w1 st, R w1 ∧ w' = w1.setCell ⟨mb, 2, none⟩ (.int .i64 st) := by
  obtain ⟨p0, p1, st, hm⟩ := hm
  have c2' := cell_of_heap hm 2
  go_enter Try.func29, Try.ntmps29
  go_wp2_with fail
  refine hc.mono ?_
  rintro e w1 ⟨rfl, hr, q0, q1, st1, hm1⟩
  have d2 := cell_of_heap hm1 2
  have f2 := frozen_of_heap hm1 2
  have HR := Lib.hid hr
  clear hr hm1 hm hc
  go_wp2_with fail
  go_end0
  exact ⟨rfl, w1, st, HR.out, rfl⟩

set_option maxRecDepth 100000 in
set_option maxHeartbeats 1000000 in
theorem quiet32_walk {mb : Nat} (c0 c1 c2 : Value) (R : World → Prop) (w : World) (hm : OwnAt mb w)
    (hc : Calls Try.prog 32 #[c0, c1, c2] w fun e w1 => e = .returned (.tuple #[]) ∧ R w1 ∧ OwnAt mb w1) :
    Calls Try.prog 29 #[.pointer (some ⟨mb, 0, none⟩), .func (.func 32) #[] #[c0, c1, c2]] w fun e w' => e = .returned (.tuple #[]) ∧ ∃ w1 st, R w1 ∧ w' = w1.setCell ⟨mb, 2, none⟩ (.int .i64 st) := by
  obtain ⟨p0, p1, st, hm⟩ := hm
  have c2' := cell_of_heap hm 2
  go_enter Try.func29, Try.ntmps29
  go_wp2_with fail
  refine hc.mono ?_
  rintro e w1 ⟨rfl, hr, q0, q1, st1, hm1⟩
  have d2 := cell_of_heap hm1 2
  have f2 := frozen_of_heap hm1 2
  have HR := Lib.hid hr
  clear hr hm1 hm hc
  go_wp2_with fail
  go_end0
  exact ⟨rfl, w1, st, HR.out, rfl⟩

/-- Three boxes: Marks', a span's, a result's. -/
structure Boxes (mb : Nat) (s : Sp) (xm xs xo : Nat) (b : Bool) (w : World) : Prop where
  m : w.heap[xm]? = some (.cells #[.pointer (some ⟨mb, 0, none⟩)] 22 (0, 0))
  s : w.heap[xs]? = some (Obj.cells #[Value.int IntKind.i64 s.a, Value.int IntKind.i64 s.b, Value.int IntKind.i64 s.k] 25)
  o : w.heap[xo]? = some (.cells #[.bool b] 4 (0, 0))

set_option maxRecDepth 100000 in
set_option maxHeartbeats 1000000 in
theorem put1_walk {mb xm xs xo : Nat} {B : List Nat} {L0 L1 : List Sp} {b : Bool} (s : Sp) (hs : In s) (i : Bool) (hi : s.k % 2 = if i then 1 else 0) (hf : (two i L0 L1).length < 1099511627776) (w : World) (h : Mk w mb B L0 L1) (hb : Boxes mb s xm xs xo b w) (hx : xo ∉ B) :
    Calls Try.prog 30 #[.pointer (some ⟨xm, 0, none⟩), .pointer (some ⟨xs, 0, none⟩), .pointer (some ⟨xo, 0, none⟩)] w fun e w' => e = .returned (.tuple #[]) ∧ (∃ B', Mk w' mb B' (two i (insS s L0) L0) (two i L1 (insS s L1)) ∧ ∀ x ∈ B', x ∈ B ∨ w.heap.size ≤ x) ∧ w'.heap[xo]? = some (.cells #[.bool (!decide (s ∈ two i L0 L1))] 4 (0, 0)) ∧ Only (xo :: B) w w' := by
  have m0 := cell_of_heap hb.m 0
  have s0 := cell_of_heap hb.s 0
  have s1 := cell_of_heap hb.s 1
  have s2 := cell_of_heap hb.s 2
  have HB := Lib.hid hb
  have HM := Lib.hid h
  clear hb h
  go_enter Try.func30, Try.ntmps30
  go_wp2_with fail
  refine (mput_walk s i hi w HM.out hs hf).mono ?_
  rintro e w1 ⟨rfl, ⟨B1, h1, hs1⟩, ho1⟩
  have hxo := ho1.heap HB.out.o hx
  have o0 := cell_of_heap hxo 0
  have f0 := frozen_of_heap hxo 0
  generalize hd : (!decide (s ∈ two i L0 L1)) = d at *
  have ho2 := (Only.refl [xo] w1).setCell (p := ⟨xo, 0, none⟩) (.inl (by simp)) (.bool d)
  have hxB : ∀ x ∈ B1, x ∉ [xo] := fun x hx' hm => by
    rw [List.mem_singleton.1 hm] at hx'
    rcases hs1 xo hx' with h | h
    · exact hx h
    · have := heap_lt HB.out.o; omega
  have h2 := h1.only ho2 hxB
  have hx2 := heap_setCell hxo 0 (.bool d)
  have H2 := Lib.hid h2
  have HX2 := Lib.hid hx2
  have HS1 := Lib.hid hs1
  have HO := Lib.hid ((ho1.mono (B' := xo :: B) (fun x hx => .inl (List.mem_cons_of_mem _ hx))).trans ho2 (fun x hx => .inl (by rw [List.mem_singleton.1 hx]; simp)))
  clear h1 hs1 ho1 hxo ho2 hxB h2 hx2 m0 s0 s1 s2
  go_wp2_with fail
  go_end0
  exact ⟨rfl, ⟨B1, H2.out, HS1.out⟩, by rw [hd]; exact HX2.out, HO.out⟩
set_option maxRecDepth 100000 in
set_option maxHeartbeats 1000000 in
theorem rem1_walk {mb xm xs xo : Nat} {B : List Nat} {L0 L1 : List Sp} {b : Bool} (s : Sp) (i : Bool) (hi : s.k % 2 = if i then 1 else 0) (w : World) (h : Mk w mb B L0 L1) (hb : Boxes mb s xm xs xo b w) (hx : xo ∉ B) :
    Calls Try.prog 32 #[.pointer (some ⟨xm, 0, none⟩), .pointer (some ⟨xs, 0, none⟩), .pointer (some ⟨xo, 0, none⟩)] w fun e w' => e = .returned (.tuple #[]) ∧ (∃ B', Mk w' mb B' (two i (remS s L0) L0) (two i L1 (remS s L1)) ∧ ∀ x ∈ B', x ∈ B ∨ w.heap.size ≤ x) ∧ w'.heap[xo]? = some (.cells #[.bool (decide (s ∈ two i L0 L1))] 4 (0, 0)) ∧ Only (xo :: B) w w' := by
  have m0 := cell_of_heap hb.m 0
  have s0 := cell_of_heap hb.s 0
  have s1 := cell_of_heap hb.s 1
  have s2 := cell_of_heap hb.s 2
  have HB := Lib.hid hb
  have HM := Lib.hid h
  clear hb h
  go_enter Try.func32, Try.ntmps32
  go_wp2_with fail
  refine (mcut_walk s i hi w HM.out).mono ?_
  rintro e w1 ⟨rfl, ⟨B1, h1, hs1⟩, ho1⟩
  have hxo := ho1.heap HB.out.o hx
  have o0 := cell_of_heap hxo 0
  have f0 := frozen_of_heap hxo 0
  generalize hd : (decide (s ∈ two i L0 L1)) = d at *
  have ho2 := (Only.refl [xo] w1).setCell (p := ⟨xo, 0, none⟩) (.inl (by simp)) (.bool d)
  have hxB : ∀ x ∈ B1, x ∉ [xo] := fun x hx' hm => by
    rw [List.mem_singleton.1 hm] at hx'
    rcases hs1 xo hx' with h | h
    · exact hx h
    · have := heap_lt HB.out.o; omega
  have h2 := h1.only ho2 hxB
  have hx2 := heap_setCell hxo 0 (.bool d)
  have H2 := Lib.hid h2
  have HX2 := Lib.hid hx2
  have HS1 := Lib.hid hs1
  have HO := Lib.hid ((ho1.mono (B' := xo :: B) (fun x hx => .inl (List.mem_cons_of_mem _ hx))).trans ho2 (fun x hx => .inl (by rw [List.mem_singleton.1 hx]; simp)))
  clear h1 hs1 ho1 hxo ho2 hxB h2 hx2 m0 s0 s1 s2
  go_wp2_with fail
  go_end0
  exact ⟨rfl, ⟨B1, H2.out, HS1.out⟩, by rw [hd]; exact HX2.out, HO.out⟩

theorem boxes_new (mb : Nat) (s : Sp) (w : World) : Boxes mb s w.heap.size (w.heap.size + 1) (w.heap.size + 1 + 1) false (((w.alloc (Obj.cells #[Value.pointer (some ⟨mb, 0, none⟩)] 22)).alloc (Obj.cells #[Value.int IntKind.i64 s.a, Value.int IntKind.i64 s.b, Value.int IntKind.i64 s.k] 25)).alloc (Obj.cells #[Value.bool false] 4)) ∧ w.grownBy (((w.alloc (Obj.cells #[Value.pointer (some ⟨mb, 0, none⟩)] 22)).alloc (Obj.cells #[Value.int IntKind.i64 s.a, Value.int IntKind.i64 s.b, Value.int IntKind.i64 s.k] 25)).alloc (Obj.cells #[Value.bool false] 4)) none := by
  refine ⟨⟨?_, ?_, ?_⟩, grownBy_alloc (grownBy_alloc (grownBy_alloc (grownBy_refl w none) _) _) _⟩
  · rw [Below.heap_alloc _ _ _ (by simp; omega), Below.heap_alloc _ _ _ (by simp)]
    exact heap_new _ _
  · rw [Below.heap_alloc _ _ _ (by simp)]
    exact heap_new' _ _ (by simp)
  · exact heap_new' _ _ (by simp)

set_option maxRecDepth 100000 in
set_option maxHeartbeats 1000000 in
theorem put_good {mb : Nat} {B : List Nat} {L0 L1 : List Sp} (s : Sp) (h1 : 0 ≤ s.a) (h2 : s.a < s.b) (h3 : s.b ≤ 1099511627776) (h4 : 0 ≤ s.k) (h5 : s.k ≤ 1000) (i : Bool) (hi : s.k % 2 = if i then 1 else 0) (hf : (two i L0 L1).length < 1099511627776) (w : World) (h : Mk w mb B L0 L1) :
    Calls Try.prog 11 #[.pointer (some ⟨mb, 0, none⟩), spanV s] w fun e w' => e = .returned (.bool (!decide (s ∈ two i L0 L1))) ∧ MkRes mb B (two i (insS s L0) L0) (two i L1 (insS s L1)) w w' := by
  have hs : In s := ⟨h1, h2, by omega⟩
  have hlts := h.lt
  go_enter Try.func11, Try.ntmps11
  go_upto_region 1 with (fail)
  obtain ⟨hb, hg⟩ := boxes_new mb s w
  have hk := h.kept hg
  have hsz := hg.size
  have s0 := cell_of_heap hb.s 0
  have s1 := cell_of_heap hb.s 1
  have s2 := cell_of_heap hb.s 2
  have m0 := cell_of_heap hb.m 0
  have HB := Lib.hid hb
  have HK := Lib.hid hk
  have HG := Lib.hid hg
  clear h hb hk hg
  generalize hw3 : (((w.alloc (Obj.cells #[Value.pointer (some ⟨mb, 0, none⟩)] 22)).alloc (Obj.cells #[Value.int IntKind.i64 s.a, Value.int IntKind.i64 s.b, Value.int IntKind.i64 s.k] 25)).alloc (Obj.cells #[Value.bool false] 4)) = w3 at *
  clear hw3
  generalize hszz : w.heap.size = sz at *
  go_wp2_with fail
  have hxo : sz + 1 + 1 ∉ B := fun hm => by have := hlts _ hm; omega
  refine (quiet30_walk _ _ _ (fun w' => (∃ B', Mk w' mb B' (two i (insS s L0) L0) (two i L1 (insS s L1)) ∧ ∀ x ∈ B', x ∈ B ∨ w3.heap.size ≤ x) ∧ w'.heap[sz + 1 + 1]? = some (.cells #[.bool (!decide (s ∈ two i L0 L1))] 4 (0, 0)) ∧ Only ((sz + 1 + 1) :: B) w3 w') w3 HK.out.own ((put1_walk s hs i hi hf w3 HK.out HB.out hxo).mono ?_)).mono ?_
  · rintro e w4 ⟨rfl, ⟨B4, q1, q2⟩, q3, q4⟩
    exact ⟨rfl, ⟨⟨B4, q1, q2⟩, q3, q4⟩, q1.own⟩
  · rintro e w5 ⟨rfl, w4, st, ⟨⟨B4, q1, q2⟩, q3, q4⟩, rfl⟩
    have q5 := q1.steps st
    have hmb : sz + 1 + 1 ≠ mb := fun e => hxo (e ▸ HK.out.mem)
    have ho5 := (Only.refl [mb] w4).setCell (p := ⟨mb, 2, none⟩) (.inl (by simp)) (.int .i64 st)
    have q6 := ho5.heap q3 (fun hm => hmb (List.mem_singleton.1 hm))
    have hO5 := q4.trans ho5 (fun x hx => .inl (by rw [List.mem_singleton.1 hx]; exact List.mem_cons_of_mem _ HK.out.mem))
    generalize hw5 : w4.setCell ⟨mb, 2, none⟩ (.int .i64 st) = w5 at *
    have o0 := cell_of_heap q6 0
    have f0 := frozen_of_heap q6 0
    have ho6 := (Only.refl [sz + 1 + 1] w5).setCell (p := ⟨sz + 1 + 1, 0, none⟩) (.inl (by simp)) (.bool (!decide (s ∈ two i L0 L1)))
    have hlt3 : ∀ x ∈ B4, x ∉ [sz + 1 + 1] := fun x hx hm => by
      rw [List.mem_singleton.1 hm] at hx
      rcases q2 _ hx with h | h
      · exact hxo h
      · have := heap_lt HB.out.o; omega
    have q7 := q5.only ho6 hlt3
    have q8 := heap_setCell q6 0 (.bool (!decide (s ∈ two i L0 L1)))
    have o1 := cell_of_heap q8 0
    have Q7 := Lib.hid q7
    have Q2 := Lib.hid q2
    have hfin : Only B w w3 := Only.ofGrown HG.out
    have HO := Lib.hid (hfin.trans (hO5.trans ho6 (fun x hx => .inl (by rw [List.mem_singleton.1 hx]; simp))) (fun x hx => by
      rcases List.mem_cons.1 hx with rfl | hx
      · exact .inr (by omega)
      · exact .inl hx))
    generalize hdd : (!decide (s ∈ two i L0 L1)) = dd at *
    have HDD := Lib.hid hdd
    clear q1 q2 q3 q4 q5 q6 q7 ho5 ho6 hO5 hlt3 q8 hfin s0 s1 s2 m0 hdd
    go_wp2_with fail
    (try simp only [Exit.inBlock, Exit.then])
    refine bodyPost_ret (v := .bool dd) ?_ rfl ⟨by rw [HDD.out], ⟨⟨B4, Q7.out, fun x hx => ?_⟩, HO.out⟩⟩
    · simp [results, Try.results11, go_sem, o1]
    · rcases Q2.out x hx with h | h
      · exact .inl h
      · exact .inr (by omega)
set_option maxRecDepth 100000 in
set_option maxHeartbeats 1000000 in
theorem remove_walk {mb : Nat} {B : List Nat} {L0 L1 : List Sp} (s : Sp) (i : Bool) (hi : s.k % 2 = if i then 1 else 0) (w : World) (h : Mk w mb B L0 L1) :
    Calls Try.prog 13 #[.pointer (some ⟨mb, 0, none⟩), spanV s] w fun e w' => e = .returned (.bool (decide (s ∈ two i L0 L1))) ∧ MkRes mb B (two i (remS s L0) L0) (two i L1 (remS s L1)) w w' := by
  have hlts := h.lt
  go_enter Try.func13, Try.ntmps13
  go_upto_region 1 with (fail)
  obtain ⟨hb, hg⟩ := boxes_new mb s w
  have hk := h.kept hg
  have hsz := hg.size
  have s0 := cell_of_heap hb.s 0
  have s1 := cell_of_heap hb.s 1
  have s2 := cell_of_heap hb.s 2
  have m0 := cell_of_heap hb.m 0
  have HB := Lib.hid hb
  have HK := Lib.hid hk
  have HG := Lib.hid hg
  clear h hb hk hg
  generalize hw3 : (((w.alloc (Obj.cells #[Value.pointer (some ⟨mb, 0, none⟩)] 22)).alloc (Obj.cells #[Value.int IntKind.i64 s.a, Value.int IntKind.i64 s.b, Value.int IntKind.i64 s.k] 25)).alloc (Obj.cells #[Value.bool false] 4)) = w3 at *
  clear hw3
  generalize hszz : w.heap.size = sz at *
  go_wp2_with fail
  have hxo : sz + 1 + 1 ∉ B := fun hm => by have := hlts _ hm; omega
  refine (quiet32_walk _ _ _ (fun w' => (∃ B', Mk w' mb B' (two i (remS s L0) L0) (two i L1 (remS s L1)) ∧ ∀ x ∈ B', x ∈ B ∨ w3.heap.size ≤ x) ∧ w'.heap[sz + 1 + 1]? = some (.cells #[.bool (decide (s ∈ two i L0 L1))] 4 (0, 0)) ∧ Only ((sz + 1 + 1) :: B) w3 w') w3 HK.out.own ((rem1_walk s i hi w3 HK.out HB.out hxo).mono ?_)).mono ?_
  · rintro e w4 ⟨rfl, ⟨B4, q1, q2⟩, q3, q4⟩
    exact ⟨rfl, ⟨⟨B4, q1, q2⟩, q3, q4⟩, q1.own⟩
  · rintro e w5 ⟨rfl, w4, st, ⟨⟨B4, q1, q2⟩, q3, q4⟩, rfl⟩
    have q5 := q1.steps st
    have hmb : sz + 1 + 1 ≠ mb := fun e => hxo (e ▸ HK.out.mem)
    have ho5 := (Only.refl [mb] w4).setCell (p := ⟨mb, 2, none⟩) (.inl (by simp)) (.int .i64 st)
    have q6 := ho5.heap q3 (fun hm => hmb (List.mem_singleton.1 hm))
    have hO5 := q4.trans ho5 (fun x hx => .inl (by rw [List.mem_singleton.1 hx]; exact List.mem_cons_of_mem _ HK.out.mem))
    generalize hw5 : w4.setCell ⟨mb, 2, none⟩ (.int .i64 st) = w5 at *
    have o0 := cell_of_heap q6 0
    have f0 := frozen_of_heap q6 0
    have ho6 := (Only.refl [sz + 1 + 1] w5).setCell (p := ⟨sz + 1 + 1, 0, none⟩) (.inl (by simp)) (.bool (decide (s ∈ two i L0 L1)))
    have hlt3 : ∀ x ∈ B4, x ∉ [sz + 1 + 1] := fun x hx hm => by
      rw [List.mem_singleton.1 hm] at hx
      rcases q2 _ hx with h | h
      · exact hxo h
      · have := heap_lt HB.out.o; omega
    have q7 := q5.only ho6 hlt3
    have q8 := heap_setCell q6 0 (.bool (decide (s ∈ two i L0 L1)))
    have o1 := cell_of_heap q8 0
    have Q7 := Lib.hid q7
    have Q2 := Lib.hid q2
    have hfin : Only B w w3 := Only.ofGrown HG.out
    have HO := Lib.hid (hfin.trans (hO5.trans ho6 (fun x hx => .inl (by rw [List.mem_singleton.1 hx]; simp))) (fun x hx => by
      rcases List.mem_cons.1 hx with rfl | hx
      · exact .inr (by omega)
      · exact .inl hx))
    generalize hdd : (decide (s ∈ two i L0 L1)) = dd at *
    have HDD := Lib.hid hdd
    clear q1 q2 q3 q4 q5 q6 q7 ho5 ho6 hO5 hlt3 q8 hfin s0 s1 s2 m0 hdd
    go_wp2_with fail
    (try simp only [Exit.inBlock, Exit.then])
    refine bodyPost_ret (v := .bool dd) ?_ rfl ⟨by rw [HDD.out], ⟨⟨B4, Q7.out, fun x hx => ?_⟩, HO.out⟩⟩
    · simp [results, Try.results13, go_sem, o1]
    · rcases Q2.out x hx with h | h
      · exact .inl h
      · exact .inr (by omega)

set_option maxRecDepth 100000 in
set_option maxHeartbeats 1000000 in
theorem put_bad (mb : Nat) (s : Sp) (hbad : s.a < 0 ∨ s.b ≤ s.a ∨ 1099511627776 < s.b ∨ s.k < 0 ∨ 1000 < s.k) (w : World) :
    Calls Try.prog 11 #[.pointer (some ⟨mb, 0, none⟩), spanV s] w fun e w' => e = .returned (.bool false) ∧ w.grownBy w' none := by
  go_enter Try.func11, Try.ntmps11
  go_upto_region 1 with (fail)
  obtain ⟨hb, hg⟩ := boxes_new mb s w
  have hsz := hg.size
  have s0 := cell_of_heap hb.s 0
  have s1 := cell_of_heap hb.s 1
  have s2 := cell_of_heap hb.s 2
  have o0 := cell_of_heap hb.o 0
  have f0 := frozen_of_heap hb.o 0
  have hx := heap_setCell hb.o 0 (.bool false)
  have o1 := cell_of_heap hx 0
  have hG := (Only.ofGrown (B := []) hg).setCell (p := ⟨w.heap.size + 1 + 1, 0, none⟩) (.inr (show w.heap.size ≤ w.heap.size + 1 + 1 by omega)) (.bool false)
  have HG := Lib.hid hG
  clear hb hg hx hG
  generalize hw3 : (((w.alloc (Obj.cells #[Value.pointer (some ⟨mb, 0, none⟩)] 22)).alloc (Obj.cells #[Value.int IntKind.i64 s.a, Value.int IntKind.i64 s.b, Value.int IntKind.i64 s.k] 25)).alloc (Obj.cells #[Value.bool false] 4)) = w3 at *
  clear hw3
  generalize hszz : w.heap.size = sz at *
  have hfin : ∀ w', Only [] w w' → w.grownBy w' none := fun w' h => ⟨h.os, h.tape, h.output, h.size, fun k hk _ => h.block k hk (by simp)⟩
  by_cases h1 : s.a < 0
  · go_wp2_with fail
    (try simp only [Exit.inBlock, Exit.then])
    refine bodyPost_ret (v := .bool false) ?_ rfl ⟨rfl, hfin _ HG.out⟩
    simp [results, Try.results11, go_sem, o1]
  · by_cases h2 : s.b ≤ s.a
    · go_wp2_with fail
      (try simp only [Exit.inBlock, Exit.then])
      refine bodyPost_ret (v := .bool false) ?_ rfl ⟨rfl, hfin _ HG.out⟩
      simp [results, Try.results11, go_sem, o1]
    · by_cases h3 : 1099511627776 < s.b
      · go_wp2_with fail
        (try simp only [Exit.inBlock, Exit.then])
        refine bodyPost_ret (v := .bool false) ?_ rfl ⟨rfl, hfin _ HG.out⟩
        simp [results, Try.results11, go_sem, o1]
      · by_cases h4 : s.k < 0
        · go_wp2_with fail
          (try simp only [Exit.inBlock, Exit.then])
          refine bodyPost_ret (v := .bool false) ?_ rfl ⟨rfl, hfin _ HG.out⟩
          simp [results, Try.results11, go_sem, o1]
        · have h5 : 1000 < s.k := by omega
          clear hbad
          go_wp2_with fail
          (try simp only [Exit.inBlock, Exit.then])
          refine bodyPost_ret (v := .bool false) ?_ rfl ⟨rfl, hfin _ HG.out⟩
          simp [results, Try.results11, go_sem, o1]
end Go.Proofs.Ytijpienjejfmiaa
