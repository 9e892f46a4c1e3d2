/-
  Walks of package history: New, at, Push, Undo, Redo, Len, and slices.Clone of edits. Conditions: the history's block is whole, its groups have at most 1000 edits.
-/
import Derived.Test.YtiiaphgencoijaaChecked
import Derived.Test.YtiiaphgencoijaaHeap
namespace Go.Proofs.Ytiiaphgencoijaa
open Go Go.RowKit

theorem hist_info31 : (Try.prog.info? 31).map (fun i => (i.zero, i.size, i.bytes)) = some (some (.agg #[.int .i64 0, .string ⟨#[]⟩, .string ⟨#[]⟩]), 3, 40) := by kernel_rfl

def CloneRes (n : Nat) (cs : List Value) (w : World) (e : Ending) (w' : World) : Prop :=
  ∃ q cap, e = .returned (.slice (some ⟨q, 0, none⟩) n cap) ∧ w'.ownsRow w.heap.size 31 3 (.slice (some ⟨q, 0, none⟩) n cap) n cs ∧ w.grownBy w' none

set_option maxRecDepth 100000 in
set_option maxHeartbeats 400000 in
theorem clone_some (a : Addr) (n c : Nat) (cs : List Value) (w : World) (hl : cs.length = n * 3) (hc : ∀ j u, cs[j]? = some u → w.cell? (a.add j) = some u) (h1 : ∀ u ∈ cs, u.oneCell' = true) (hn : n ≤ 1000) :
    Calls Try.prog 39 #[.slice (some a) n c] w (CloneRes n cs w) := by
  obtain ⟨i0, hi, hz0, hz1, hz2⟩ := info_parts hist_info31
  have H1 := Lib.hid hl
  have H2 := Lib.hid hc
  have H3 := Lib.hid h1
  clear hl hc h1
  have hne := fun (w : World) => Lib.run_eql_slice_nil (P := Try.prog) w 32 31 a n c 0 0 Try.underlying32
  have hown := World.ownsRow_lit (base := w.heap.size) (size := 3) w (e := 31) #[] 0 (Nat.le_refl _) (by decide) rfl
  have c1 := Lib.hid (show ∀ j u, cs[j]? = some u → (w.alloc (.cells #[] 31)).cell? (a.add j) = some u from fun j u hj => Lib.cell?_alloc_some _ (H2.out j u hj))
  go_enter Try.func39, Try.ntmps39
  go_wp2_with (at_builtin; refine wpList_append_own _ rfl _ _ 32 rfl w.heap.size 31 i0 _ 3 40 Try.underlying32 hi hz0 hz1 hz2 rfl (by decide) _ _ _ rfl hown a n c cs rfl H1.out c1.out H3.out (by unfold maxLen; omega) (by omega) (by simp) ?_; intro v' w1 hown1 hgrow1 hnil1)
  go_ret
  have hg := grownBy_trans (World.grownBy_alloc w (.cells #[] 31) none) hgrow1 (by intro i hi'; cases hi'; exact .inr (Nat.le_refl _))
  simp only [Nat.zero_add, List.nil_append] at hown1
  rcases hown1.2 with ⟨rfl, _⟩ | ⟨q, cap, cur, rfl, _⟩
  · exact absurd (hnil1.1 rfl).1 nofun
  · exact ⟨q, cap, rfl, hown1, hg⟩

set_option maxRecDepth 100000 in
set_option maxHeartbeats 400000 in
theorem clone_nil (w : World) :
    Calls Try.prog 39 #[.slice none 0 0] w fun e w' => e = .returned (.slice none 0 0) ∧ w = w' := by
  have hne := fun (w : World) => Lib.run_eql_slice_nil (P := Try.prog) w 32 31 none 0 0 0 0 Try.underlying32
  go_enter Try.func39, Try.ntmps39
  go_wp2
  go_ret
  exact ⟨rfl, rfl⟩


/-- A history's cells: the ring, from, undo, redo, depth. -/
def HistRow (ring : List Value) (fr u r d : Nat) : Array Value := (ring ++ [Value.int .i64 fr, Value.int .i64 u, Value.int .i64 r, Value.int .i64 d]).toArray

section
variable {ring : List Value} {fr u r d : Nat}
theorem HistRow_ring (hl : ring.length = 51) {k : Nat} (hk : k < 51) (v : Value) : (HistRow ring fr u r d).setIfInBounds k v = HistRow (ring.set k v) fr u r d := by
  simp only [HistRow, List.setIfInBounds_toArray]; rw [List.set_append_left _ _ (by omega)]
theorem HistRow_fr (hl : ring.length = 51) (x : Nat) : (HistRow ring fr u r d).setIfInBounds 51 (.int .i64 x) = HistRow ring x u r d := by
  simp only [HistRow, List.setIfInBounds_toArray]; rw [List.set_append_right _ _ (by omega), hl]; rfl
theorem HistRow_u (hl : ring.length = 51) (x : Nat) : (HistRow ring fr u r d).setIfInBounds 52 (.int .i64 x) = HistRow ring fr x r d := by
  simp only [HistRow, List.setIfInBounds_toArray]; rw [List.set_append_right _ _ (by omega), hl]; rfl
theorem HistRow_r (hl : ring.length = 51) (x : Nat) : (HistRow ring fr u r d).setIfInBounds 53 (.int .i64 x) = HistRow ring fr u x d := by
  simp only [HistRow, List.setIfInBounds_toArray]; rw [List.set_append_right _ _ (by omega), hl]; rfl
theorem HistRow_at (hl : ring.length = 51) {k : Nat} (hk : k < 51) : (HistRow ring fr u r d)[k]? = ring[k]? := by
  simp only [HistRow, List.getElem?_toArray]; rw [List.getElem?_append_left (by omega)]
theorem HistRow_51 (hl : ring.length = 51) : (HistRow ring fr u r d)[51]? = some (.int .i64 fr) := by
  simp only [HistRow, List.getElem?_toArray]; rw [List.getElem?_append_right (by omega), hl]; rfl
theorem HistRow_52 (hl : ring.length = 51) : (HistRow ring fr u r d)[52]? = some (.int .i64 u) := by
  simp only [HistRow, List.getElem?_toArray]; rw [List.getElem?_append_right (by omega), hl]; rfl
theorem HistRow_53 (hl : ring.length = 51) : (HistRow ring fr u r d)[53]? = some (.int .i64 r) := by
  simp only [HistRow, List.getElem?_toArray]; rw [List.getElem?_append_right (by omega), hl]; rfl
theorem HistRow_54 (hl : ring.length = 51) : (HistRow ring fr u r d)[54]? = some (.int .i64 d) := by
  simp only [HistRow, List.getElem?_toArray]; rw [List.getElem?_append_right (by omega), hl]; rfl
end

/-- A history's block, whole. -/
def HistIs (w : World) (b : Nat) (ring : List Value) (fr u r d : Nat) : Prop :=
  ring.length = 51 ∧ w.heap[b]? = some (.cells (HistRow ring fr u r d) 68 (0, 0))

/-- What the walks read of it. -/
theorem HistIs.cells {w : World} {b : Nat} {ring : List Value} {fr u r d : Nat} (h : HistIs w b ring fr u r d) :
    w.cell? ⟨b, 51, none⟩ = some (.int .i64 fr) ∧ w.cell? ⟨b, 52, none⟩ = some (.int .i64 u) ∧ w.cell? ⟨b, 53, none⟩ = some (.int .i64 r) ∧ w.cell? ⟨b, 54, none⟩ = some (.int .i64 d) ∧
    (∀ o, w.frozen? ⟨b, o, none⟩ = false) ∧ ∀ k, k < 51 → w.cell? ⟨b, k, none⟩ = ring[k]? := by
  obtain ⟨hl, hb⟩ := h
  exact ⟨by rw [cell_of_heap hb, HistRow_51 hl], by rw [cell_of_heap hb, HistRow_52 hl], by rw [cell_of_heap hb, HistRow_53 hl], by rw [cell_of_heap hb, HistRow_54 hl],
    fun o => frozen_of_heap hb o, fun k hk => by rw [cell_of_heap hb, HistRow_at hl hk]⟩

theorem HistIs.kept {w w' : World} {b : Nat} {ring : List Value} {fr u r d : Nat} (h : HistIs w b ring fr u r d) {s : Option Nat} (g : w.grownBy w' s) (hs : s ≠ some b) : HistIs w' b ring fr u r d :=
  ⟨h.1, grownBy_heap g h.2 hs⟩
theorem HistIs.ringSet {w : World} {b : Nat} {ring : List Value} {fr u r d : Nat} (h : HistIs w b ring fr u r d) {k : Nat} (hk : k < 51) (v : Value) : HistIs (w.setCell ⟨b, k, none⟩ v) b (ring.set k v) fr u r d :=
  ⟨by simpa using h.1, by rw [heap_setCell h.2, HistRow_ring h.1 hk]⟩
theorem HistIs.frSet {w : World} {b : Nat} {ring : List Value} {fr u r d : Nat} (h : HistIs w b ring fr u r d) (x : Nat) : HistIs (w.setCell ⟨b, 51, none⟩ (.int .i64 x)) b ring x u r d :=
  ⟨h.1, by rw [heap_setCell h.2, HistRow_fr h.1]⟩
theorem HistIs.uSet {w : World} {b : Nat} {ring : List Value} {fr u r d : Nat} (h : HistIs w b ring fr u r d) (x : Nat) : HistIs (w.setCell ⟨b, 52, none⟩ (.int .i64 x)) b ring fr x r d :=
  ⟨h.1, by rw [heap_setCell h.2, HistRow_u h.1]⟩
theorem HistIs.rSet {w : World} {b : Nat} {ring : List Value} {fr u r d : Nat} (h : HistIs w b ring fr u r d) (x : Nat) : HistIs (w.setCell ⟨b, 53, none⟩ (.int .i64 x)) b ring fr u x d :=
  ⟨h.1, by rw [heap_setCell h.2, HistRow_r h.1]⟩

/-- The place of a group. -/
def AtRes (b : Nat) (k : Nat) (w : World) (e : Ending) (w' : World) : Prop := e = .returned (.pointer (some ⟨b, k, none⟩)) ∧ w.grownBy w' none

set_option maxHeartbeats 400000 in
theorem at_any (b fr i k : Nat) (x : Int) (w : World) (h : w.cell? ⟨b, 51, none⟩ = some (.int .i64 fr)) (h1 : fr ≤ 50) (hx : x = i) (h3 : i ≤ 51) (hk : k = (fr + i) % 51) :
    Calls Try.prog 40 #[.pointer (some ⟨b, 0, none⟩), .int .i64 x] w (AtRes b k w) := by
  subst hx
  subst hk
  have hb : ((fr : Int) + i) % 51 < 51 := by omega
  have hc : 0 ≤ ((fr : Int) + i) % 51 := by omega
  have hM := Lib.hid (show (((fr : Int) + i) % 51).toNat = (fr + i) % 51 by omega)
  go_enter Try.func40, Try.ntmps40
  go_wp2
  go_quiet (fail)
  go_wp2
  go_ret
  rw [← hM.out]
  exact ⟨rfl, grownBy_drewN (grownBy_refl _ _) _⟩

def NewRes (d : Int) (w : World) (e : Ending) (w' : World) : Prop :=
  e = .returned (.pointer (some ⟨w.heap.size, 0, none⟩)) ∧ w.grownBy w' none ∧ ∃ D : Nat, D ≤ 50 ∧ (D : Int) = max 0 (min d 50) ∧ HistIs w' w.heap.size (List.replicate 51 (.slice none 0 0)) 0 0 0 D

set_option maxRecDepth 100000 in
set_option maxHeartbeats 400000 in
theorem new_any (d : Int) (w : World) :
    Calls Try.prog 12 #[.int .i64 d] w (NewRes d w) := by
  go_enter Try.func12, Try.ntmps12
  go_wp2
  · go_ret
    exact ⟨rfl, World.grownBy_alloc _ _ _, 50, by omega, by omega, rfl, heap_alloc_new _ _⟩
  · go_ret
    obtain ⟨D, rfl⟩ := Int.eq_ofNat_of_zero_le (show 0 ≤ d by omega)
    exact ⟨rfl, World.grownBy_alloc _ _ _, D, by omega, by omega, rfl, heap_alloc_new _ _⟩
  · go_ret
    exact ⟨rfl, World.grownBy_alloc _ _ _, 0, by omega, by omega, rfl, heap_alloc_new _ _⟩

def PushRes (b : Nat) (ring : List Value) (fr u d n : Nat) (g : List Value) (w : World) (e : Ending) (w' : World) : Prop :=
  e = .returned (.tuple #[]) ∧ w.grownBy w' (some b) ∧ ∃ q cap v, v = .slice (some ⟨q, 0, none⟩) n cap ∧ w'.ownsRow w.heap.size 31 3 v n g ∧
    (u + 1 ≤ d → HistIs w' b (ring.set ((fr + u) % 51) v) fr (u + 1) 0 d) ∧ (d < u + 1 → HistIs w' b ((ring.set ((fr + u) % 51) v).set fr (.slice none 0 0)) ((fr + 1) % 51) u 0 d)

set_option maxRecDepth 100000 in
set_option maxHeartbeats 400000 in
theorem push_any (b : Nat) (ring : List Value) (fr u r d : Nat) (a : Addr) (n c : Nat) (g : List Value) (w : World) (h : HistIs w b ring fr u r d) (hfr : fr ≤ 50) (hu : u ≤ 50)
    (hn : 0 < n) (hn1 : n ≤ 1000) (hl : g.length = n * 3) (hc : ∀ j x, g[j]? = some x → w.cell? (a.add j) = some x) (h1 : ∀ x ∈ g, x.oneCell' = true) :
    Calls Try.prog 16 #[.pointer (some ⟨b, 0, none⟩), .slice (some a) n c] w (PushRes b ring fr u d n g w) := by
  have H := Lib.hid h
  have HL := Lib.hid hl
  have HC := Lib.hid hc
  have H1 := Lib.hid h1
  obtain ⟨k, hk⟩ : ∃ k, k = (fr + u) % 51 := ⟨_, rfl⟩
  have hk51 : k < 51 := by omega
  have HK := Lib.hid hk
  obtain ⟨_, c52, _, _, _, _⟩ := h.cells
  have hn0 : ((n : Int) == 0) = false := by rw [beq_eq_false_iff_ne]; omega
  clear h hl hc h1 hk
  go_enter Try.func16, Try.ntmps16
  go_wp2_with fail
  refine (at_any b fr u k u w H.out.cells.1 hfr rfl (by omega) HK.out).mono ?_
  rintro e w1 ⟨rfl, hg1⟩
  go_wp2_with fail
  refine (clone_some a n c g w1 HL.out (fun j x hj => by rw [World.cell?_of_block (w := w)]; exact HC.out j x hj; exact hg1.block _ (World.block_lt_of_cell? w _ (HC.out j x hj)) (by simp)) H1.out hn1).mono ?_
  rintro e w2 ⟨q, cap, rfl, hown, hg2⟩
  have h2 : HistIs w2 b ring fr u r d := (H.out.kept hg1 (by simp)).kept hg2 (by simp)
  have h3 := h2.ringSet hk51 (.slice (some ⟨q, 0, none⟩) n cap)
  obtain ⟨kv, hkv⟩ : ∃ kv, w2.cell? ⟨b, k, none⟩ = some kv := by
    rw [h2.cells.2.2.2.2.2 k hk51]; exact ⟨_, List.getElem?_eq_getElem (by have := h2.1; omega)⟩
  have hfz := h2.cells.2.2.2.2.1 k
  have f52 := h3.cells.2.2.2.2.1 52
  have f53 := h3.cells.2.2.2.2.1 53
  obtain ⟨c51, c52, c53, c54, _, _⟩ := h3.cells
  have H3 := Lib.hid h3
  clear h3 h2
  go_wp2_with fail
  have hqb : (Value.slice (some ⟨q, 0, none⟩) n cap).ownBlock ≠ some b := by
    intro e; have e : q = b := by simpa [Value.ownBlock] using e
    have := (hown.lt q rfl).1; have := hg1.size; have := heap_lt H.out.2; omega
  generalize hw3 : ((w2.setCell ⟨b, k, none⟩ (.slice (some ⟨q, 0, none⟩) n cap)).setCell ⟨b, 52, none⟩ (.int .i64 ((u : Int) + 1))).setCell ⟨b, 53, none⟩ (.int .i64 0) = w3
  have h4 : HistIs w3 b (ring.set k (.slice (some ⟨q, 0, none⟩) n cap)) fr (u + 1) 0 d := by
    rw [← hw3]; exact ((H3.out.uSet (u + 1)).rSet 0)
  have hg3 : w.grownBy w3 (some b) := by
    rw [← hw3]
    exact grownBy_setCell (grownBy_setCell (grownBy_setCell (grownBy_trans (grownBy_trans (grownBy_refl w _) hg1 (by simp)) hg2 (by simp)) _ _ _ (.inl rfl)) _ _ _ (.inl rfl)) _ _ _ (.inl rfl)
  have hown3 : w3.ownsRow w.heap.size 31 3 (.slice (some ⟨q, 0, none⟩) n cap) n g := by
    rw [← hw3]
    exact ownsRow_setCell (ownsRow_setCell (ownsRow_setCell (ownsRow_base hown hg1.size) hqb _ _) hqb _ _) hqb _ _
  have H4 := Lib.hid h4
  clear hw3 c51 c52 c53 c54 f52 f53 hfz hkv
  obtain ⟨d51, d52, d53, d54, _, _⟩ := h4.cells
  clear h4
  by_cases hdu : d < u + 1
  · have hdu' : decide ((d : Int) < (u : Int) + 1) = true := by simp; omega
    go_quiet (fail)
    go_wp2_with fail
    refine (at_any b fr 0 fr 0 _ (show (w3.drewN _).cell? _ = _ from d51) hfr rfl (by omega) (by omega)).mono ?_
    rintro e w4 ⟨rfl, hg4⟩
    have h5 : HistIs w4 b (ring.set k (.slice (some ⟨q, 0, none⟩) n cap)) fr (u + 1) 0 d := H4.out.kept (grownBy_trans (grownBy_drewN (grownBy_refl w3 none) _) hg4 (by simp)) (by simp)
    have h6 := h5.ringSet (show fr < 51 by omega) (.slice none 0 0)
    obtain ⟨kv, hkv⟩ : ∃ kv, w4.cell? ⟨b, fr, none⟩ = some kv := by
      rw [h5.cells.2.2.2.2.2 fr (by omega)]; exact ⟨_, List.getElem?_eq_getElem (by have := h5.1; omega)⟩
    have hfz := h5.cells.2.2.2.2.1 fr
    have f51 := h6.cells.2.2.2.2.1 51
    have f52 := h6.cells.2.2.2.2.1 52
    clear d51 d52 d53 d54
    obtain ⟨d51, d52, d53, d54, _, _⟩ := h6.cells
    have H6 := Lib.hid h6
    clear h5 h6
    go_wp2_with fail
    go_region
    go_end0
    have e1 : ((fr : Int) + 1) % 51 = (((fr + 1) % 51 : Nat) : Int) := by omega
    refine ⟨rfl, ?_, q, cap, _, rfl, ?_, fun h => by omega, fun _ => ?_⟩
    · exact grownBy_drew (grownBy_setCell (grownBy_setCell (grownBy_setCell (grownBy_trans (grownBy_drewN hg3 _) hg4 (by simp)) _ _ _ (.inl rfl)) _ _ _ (.inl rfl)) _ _ _ (.inl rfl))
    · exact ownsRow_setCell (ownsRow_setCell (ownsRow_setCell (ownsRow_kept (ownsRow_drewN hown3 _) hg4 (.inr nofun)) hqb _ _) hqb _ _) hqb _ _
    · rw [← HK.out, e1]
      exact (H6.out.frSet _).uSet _
  · have hdu' : decide ((d : Int) < (u : Int) + 1) = false := by simp; omega
    go_quiet (fail)
    go_wp2_with fail
    go_end0
    refine ⟨rfl, grownBy_drewN hg3 _, q, cap, _, rfl, ownsRow_drewN hown3 _, ?_, fun h => absurd h hdu⟩
    rw [← HK.out]
    exact fun _ => H4.out

set_option maxRecDepth 100000 in
set_option maxHeartbeats 400000 in
/-- A group of no edits. -/
theorem push_none (b : Nat) (a : Option Addr) (c : Nat) (w : World) :
    Calls Try.prog 16 #[.pointer (some ⟨b, 0, none⟩), .slice a 0 c] w fun e w' => e = .returned (.tuple #[]) ∧ w = w' := by
  have h0 : (((0 : Nat) : Int) == 0) = true := rfl
  go_enter Try.func16, Try.ntmps16
  go_wp2_with fail
  exact bodyPost_ret (results_none rfl _ _ _) rfl ⟨rfl, rfl⟩

def LenRes (u r : Nat) (w : World) (e : Ending) (w' : World) : Prop := e = .returned (.tuple #[.int .i64 u, .int .i64 r]) ∧ ∃ n, w' = w.drewN n

set_option maxHeartbeats 400000 in
theorem len_any (b : Nat) (ring : List Value) (fr u r d : Nat) (w : World) (h : HistIs w b ring fr u r d) :
    Calls Try.prog 23 #[.pointer (some ⟨b, 0, none⟩)] w (LenRes u r w) := by
  obtain ⟨_, c52, c53, _, _, _⟩ := h.cells
  clear h
  go_enter Try.func23, Try.ntmps23
  go_wp2_with fail
  go_quiet (fail)
  go_wp2_with fail
  go_ret2
  exact ⟨rfl, _, rfl⟩

/-- Nothing to be undone. -/
theorem undo_none (b : Nat) (ring : List Value) (fr r d : Nat) (w : World) (h : HistIs w b ring fr 0 r d) :
    Calls Try.prog 18 #[.pointer (some ⟨b, 0, none⟩)] w fun e w' => e = .returned (.tuple #[.slice none 0 0, .bool false]) ∧ w = w' := by
  obtain ⟨_, c52, c53, _, _, _⟩ := h.cells
  clear h
  go_enter Try.func18, Try.ntmps18
  go_wp2_with fail
  go_ret2
  exact ⟨rfl, rfl⟩

theorem redo_none (b : Nat) (ring : List Value) (fr u d : Nat) (w : World) (h : HistIs w b ring fr u 0 d) :
    Calls Try.prog 21 #[.pointer (some ⟨b, 0, none⟩)] w fun e w' => e = .returned (.tuple #[.slice none 0 0, .bool false]) ∧ w = w' := by
  obtain ⟨_, c52, c53, _, _, _⟩ := h.cells
  clear h
  go_enter Try.func21, Try.ntmps21
  go_wp2_with fail
  go_ret2
  exact ⟨rfl, rfl⟩

def TurnRes (b : Nat) (ring : List Value) (fr u r d n : Nat) (g : List Value) (w : World) (e : Ending) (w' : World) : Prop :=
  ∃ q cap, e = .returned (.tuple #[.slice (some ⟨q, 0, none⟩) n cap, .bool true]) ∧ w.grownBy w' (some b) ∧ w'.ownsRow w.heap.size 31 3 (.slice (some ⟨q, 0, none⟩) n cap) n g ∧ HistIs w' b ring fr u r d

set_option maxRecDepth 100000 in
set_option maxHeartbeats 400000 in
theorem undo_some (b : Nat) (ring : List Value) (fr u r d : Nat) (p n c : Nat) (g : List Value) (w : World) (h : HistIs w b ring fr (u + 1) r d) (hfr : fr ≤ 50) (hu : u ≤ 50) (hr : r ≤ 50)
    (hv : ring[(fr + u) % 51]? = some (.slice (some ⟨p, 0, none⟩) n c)) (hn1 : n ≤ 1000) (ho : w.ownsRow 0 31 3 (.slice (some ⟨p, 0, none⟩) n c) n g) (hpb : p ≠ b) (h1 : ∀ x ∈ g, x.oneCell' = true) :
    Calls Try.prog 18 #[.pointer (some ⟨b, 0, none⟩)] w (TurnRes b ring fr u (r + 1) d n g w) := by
  have H := Lib.hid h
  obtain ⟨k, hk⟩ : ∃ k, k = (fr + u) % 51 := ⟨_, rfl⟩
  have hk51 : k < 51 := by omega
  rw [← hk] at hv
  have HK := Lib.hid hk
  have HV := Lib.hid hv
  have H1 := Lib.hid h1
  have HO := Lib.hid ho
  have f52 := h.cells.2.2.2.2.1 52
  have f53 := h.cells.2.2.2.2.1 53
  obtain ⟨c51, c52, c53, c54, _, _⟩ := h.cells
  have hu0 : ((((u + 1 : Nat) : Int)) == 0) = false := by rw [beq_eq_false_iff_ne]; omega
  clear h hk hv h1 ho
  go_enter Try.func18, Try.ntmps18
  go_wp2_with fail
  go_region
  generalize hw1 : ((w.setCell ⟨b, 52, none⟩ (.int .i64 (u : Int))).setCell ⟨b, 53, none⟩ (.int .i64 ((r : Int) + 1))).drew = w1
  have h4 : HistIs w1 b ring fr u (r + 1) d := by rw [← hw1]; exact ((H.out.uSet u).rSet (r + 1))
  have hg1 : w.grownBy w1 (some b) := by rw [← hw1]; exact grownBy_drew (grownBy_setCell (grownBy_setCell (grownBy_refl w _) _ _ _ (.inl rfl)) _ _ _ (.inl rfl))
  have ho1 : w1.ownsRow 0 31 3 (.slice (some ⟨p, 0, none⟩) n c) n g := ownsRow_kept HO.out hg1 (.inr (by simpa [Value.ownBlock] using hpb))
  clear hw1 c51 c52 c53 c54 f52 f53
  obtain ⟨d51, d52, d53, d54, _, _⟩ := h4.cells
  have H4 := Lib.hid h4
  clear h4
  go_wp2_with fail
  refine (at_any b fr u k u w1 d51 hfr rfl (by omega) HK.out).mono ?_
  rintro e w2 ⟨rfl, hg2⟩
  have h5 : HistIs w2 b ring fr u (r + 1) d := H4.out.kept hg2 (by simp)
  have hk2 : w2.cell? ⟨b, k, none⟩ = some (.slice (some ⟨p, 0, none⟩) n c) := by rw [h5.cells.2.2.2.2.2 k hk51]; exact HV.out
  have ho2 := ownsRow_kept ho1 hg2 (.inr nofun)
  have H5 := Lib.hid h5
  clear h5 d51 d52 d53 d54
  go_wp2_with fail
  refine (clone_some ⟨p, 0, none⟩ n c g w2 ho2.1 (fun j x hj => ho2.cells rfl j x hj) H1.out hn1).mono ?_
  rintro e w3 ⟨q, cap, rfl, hown, hg3⟩
  go_wp2_with fail
  go_ret2
  refine ⟨q, cap, rfl, grownBy_trans (grownBy_trans hg1 hg2 (by simp)) hg3 (by simp), ownsRow_base hown ?_, H5.out.kept hg3 (by simp)⟩
  exact Nat.le_trans hg1.size hg2.size

set_option maxRecDepth 100000 in
set_option maxHeartbeats 400000 in
theorem redo_some (b : Nat) (ring : List Value) (fr u r d : Nat) (p n c : Nat) (g : List Value) (w : World) (h : HistIs w b ring fr u (r + 1) d) (hfr : fr ≤ 50) (hu : u ≤ 50) (hr : r ≤ 50)
    (hv : ring[(fr + u) % 51]? = some (.slice (some ⟨p, 0, none⟩) n c)) (hn1 : n ≤ 1000) (ho : w.ownsRow 0 31 3 (.slice (some ⟨p, 0, none⟩) n c) n g) (hpb : p ≠ b) (h1 : ∀ x ∈ g, x.oneCell' = true) :
    Calls Try.prog 21 #[.pointer (some ⟨b, 0, none⟩)] w (TurnRes b ring fr (u + 1) r d n g w) := by
  have H := Lib.hid h
  obtain ⟨k, hk⟩ : ∃ k, k = (fr + u) % 51 := ⟨_, rfl⟩
  have hk51 : k < 51 := by omega
  rw [← hk] at hv
  have HK := Lib.hid hk
  have HV := Lib.hid hv
  have H1 := Lib.hid h1
  have HO := Lib.hid ho
  have f52 := h.cells.2.2.2.2.1 52
  have f53 := h.cells.2.2.2.2.1 53
  obtain ⟨c51, c52, c53, c54, _, _⟩ := h.cells
  have hu0 : ((((r + 1 : Nat) : Int)) == 0) = false := by rw [beq_eq_false_iff_ne]; omega
  clear h hk hv h1 ho
  go_enter Try.func21, Try.ntmps21
  go_wp2_with fail
  go_region
  generalize hw1 : ((w.setCell ⟨b, 52, none⟩ (.int .i64 ((u : Int) + 1))).setCell ⟨b, 53, none⟩ (.int .i64 (r : Int))).drew = w1
  have h4 : HistIs w1 b ring fr (u + 1) r d := by rw [← hw1]; exact ((H.out.uSet (u + 1)).rSet r)
  have hg1 : w.grownBy w1 (some b) := by rw [← hw1]; exact grownBy_drew (grownBy_setCell (grownBy_setCell (grownBy_refl w _) _ _ _ (.inl rfl)) _ _ _ (.inl rfl))
  have ho1 : w1.ownsRow 0 31 3 (.slice (some ⟨p, 0, none⟩) n c) n g := ownsRow_kept HO.out hg1 (.inr (by simpa [Value.ownBlock] using hpb))
  clear hw1 c51 c52 c53 c54 f52 f53
  obtain ⟨d51, d52, d53, d54, _, _⟩ := h4.cells
  have H4 := Lib.hid h4
  clear h4
  go_wp2_with fail
  refine (at_any b fr u k _ w1 d51 hfr (by omega) (by omega) HK.out).mono ?_
  rintro e w2 ⟨rfl, hg2⟩
  have h5 : HistIs w2 b ring fr (u + 1) r d := H4.out.kept hg2 (by simp)
  have hk2 : w2.cell? ⟨b, k, none⟩ = some (.slice (some ⟨p, 0, none⟩) n c) := by rw [h5.cells.2.2.2.2.2 k hk51]; exact HV.out
  have ho2 := ownsRow_kept ho1 hg2 (.inr nofun)
  have H5 := Lib.hid h5
  clear h5 d51 d52 d53 d54
  go_wp2_with fail
  refine (clone_some ⟨p, 0, none⟩ n c g w2 ho2.1 (fun j x hj => ho2.cells rfl j x hj) H1.out hn1).mono ?_
  rintro e w3 ⟨q, cap, rfl, hown, hg3⟩
  go_wp2_with fail
  go_ret2
  refine ⟨q, cap, rfl, grownBy_trans (grownBy_trans hg1 hg2 (by simp)) hg3 (by simp), ownsRow_base hown ?_, H5.out.kept hg3 (by simp)⟩
  exact Nat.le_trans hg1.size hg2.size
end Go.Proofs.Ytiiaphgencoijaa
