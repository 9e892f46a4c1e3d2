/-
  HistoryKeeps: a group is kept as it was, whatever becomes of the list that was handed in, of those answered. For every input.
-/
import Derived.Test.YtiiaphgencoijaaHistP
import Derived.Deep.OwnRows
namespace Go.Proofs.Ytiiaphgencoijaa
open Go Go.RowKit Go.Deep

/-- Cell j of the list that is handed in, behind k rounds. -/
def keepF (k j : Nat) : Value :=
  if j % 3 = 0 then .int .i64 (if j / 3 < k then (j / 3 : Nat) else 0) else if j % 3 = 2 then .string (if j / 3 < k then ⟨#[120]⟩ else ⟨#[]⟩) else .string ⟨#[]⟩

/-- The group. -/
def keepG (K : Nat) : List Value := (List.range (K * 3)).map (keepF K)

theorem keepF_made (K j : Nat) (hj : j < K * 3) : (madeCells #[.int .i64 0, .string ⟨#[]⟩, .string ⟨#[]⟩] (K * 3))[j]? = some (keepF 0 j) := by
  simp only [madeCells, Array.getElem?_map]
  rw [Array.getElem?_range]
  rw [if_pos hj]
  have h3 : j % 3 = 0 ∨ j % 3 = 1 ∨ j % 3 = 2 := by omega
  rcases h3 with h | h | h <;> simp [keepF, h]

theorem keepF_step (k j : Nat) : (if j = k * 3 + 2 then Value.string ⟨#[120]⟩ else if j = k * 3 + 1 then .string ⟨#[]⟩ else if j = k * 3 then .int .i64 k else keepF k j) = keepF (k + 1) j := by
  have h3 : j % 3 = 0 ∨ j % 3 = 1 ∨ j % 3 = 2 := by omega
  by_cases hk : j / 3 = k
  · rcases h3 with h | h | h
    · rw [if_neg (by omega), if_neg (by omega), if_pos (by omega)]; simp [keepF, h, hk]
    · rw [if_neg (by omega), if_pos (by omega)]; simp [keepF, h]
    · rw [if_pos (by omega)]; simp [keepF, h, hk]
  · rw [if_neg (by omega), if_neg (by omega), if_neg (by omega)]
    have e : j / 3 < k + 1 ↔ j / 3 < k := by omega
    simp [keepF, e]

theorem keepG_get (K j : Nat) (hj : j < K * 3) : (keepG K)[j]? = some (keepF K j) := by
  simp only [keepG, List.getElem?_map]; rw [List.getElem?_range hj]; rfl

theorem keepG_cells (K : Nat) : ∀ x ∈ keepG K, x.oneCell' = true := by
  intro x hx
  simp only [keepG, List.mem_map] at hx
  obtain ⟨j, _, rfl⟩ := hx
  simp only [keepF]
  split
  · rfl
  · split <;> rfl

set_option maxRecDepth 100000 in
set_option maxHeartbeats 1000000 in
theorem keeps_walk (a0 a1 : Int) (w : World) :
    Calls Try.prog 6 #[.int .i64 a0, .int .i64 a1] w (TrueRes w) := by
  obtain ⟨i0, hi, hz0, hz1, hz2⟩ := info_parts hist_info31
  obtain ⟨K', hK⟩ : ∃ K' : Nat, a0 % 9 = K' := ⟨(a0 % 9).toNat, by omega⟩
  have hK9 : K' < 9 := by omega
  obtain ⟨K, hKK⟩ : ∃ K, K = K' + 1 := ⟨_, rfl⟩
  have hK1 : 1 ≤ K := by omega
  have hK2 : K ≤ 9 := by omega
  have eK := Lib.hid (show (1 : Int) + K' = K by omega)
  have HK := Lib.hid hK
  have hmk : ∀ w : World, (Instr.makeSlice 32 (.int .i64 (1 + (K' : Int))) (.int .i64 (1 + (K' : Int)))).run Try.prog w = .ok (.slice (some ⟨w.heap.size, 0, none⟩) K K) (w.alloc (.cells (madeCells #[.int .i64 0, .string ⟨#[]⟩, .string ⟨#[]⟩] (K * 3)) 31)) := by
    intro w
    have h := run_make (P := Try.prog) w 32 31 i0 _ Try.underlying32 hi hz0 .i64 .i64 (1 + (K' : Int)) (1 + (K' : Int)) (by omega) (Int.le_refl _) (by rw [hz2]; omega) (by omega)
    rw [eK.out, Int.toNat_natCast, hz1] at h
    rw [eK.out]
    exact h
  clear hK hKK
  go_enter Try.func6, Try.ntmps6
  go_wp2_with fail
  refine (hist_new 10 [] w nofun).mono ?_
  rintro e w1 ⟨rfl, hg1, hs1, D, _, hD, hh⟩
  obtain rfl : D = 10 := by omega
  have hh0 := Lib.hid hh
  clear hD hh
  go_wp2_with fail
  refine (place_any a0 9 w1 (by omega) (by omega)).mono ?_
  rintro e w' ⟨rfl, rfl⟩
  rw [HK.out]
  go_wp2_with fail
  rw [eK.out]
  have hal := World.grownBy_alloc w1 (.cells (madeCells #[.int .i64 0, .string ⟨#[]⟩, .string ⟨#[]⟩] (K * 3)) 31) none
  have hrow : (w1.alloc (.cells (madeCells #[.int .i64 0, .string ⟨#[]⟩, .string ⟨#[]⟩] (K * 3)) 31)).rowIs w1.heap.size 31 (K * 3) (keepF 0) :=
    ⟨_, heap_alloc_new _ _, size_madeCells _ _, fun i hi => keepF_made K i hi⟩
  have hh1 := Lib.hid (hh0.out.more hal (Nat.le_refl _) (by simp))
  have hgw := grownBy_trans hg1 hal nofun
  have hrow0 := Lib.hid hrow
  have hwlt : w.heap.size < w1.heap.size := hs1
  clear hrow hal hmk
  go_loopw [8] (fun i wr => ∃ k : Nat, k ≤ K ∧ i = .int .i64 k ∧ Hist wr w.heap.size 10 [w1.heap.size, w.heap.size] [] [] ∧ wr.rowIs w1.heap.size 31 (K * 3) (keepF k) ∧ w.grownBy wr none) (fun i _ => K - (intOf i).toNat)
  case atStart => exact ⟨0, Nat.zero_le _, rfl, hh1.out, hrow0.out, hgw⟩
  case round =>
    obtain ⟨k, hk, rfl, hh, hrow, hg⟩ := hrel
    by_cases hlt : k < K
    · have r0 := hrow.cell (i := k * 3) (by omega)
      have r1 := hrow.cell (i := k * 3 + 1) (by omega)
      have r2 := hrow.cell (i := k * 3 + 2) (by omega)
      have z0 := hrow.frozen (k * 3)
      have z1 := hrow.frozen (k * 3 + 1)
      have z2 := hrow.frozen (k * 3 + 2)
      go_wp2_with fail
      go_roundw
      case rel =>
        refine ⟨k + 1, by omega, by go_num, ?_, ?_, ?_⟩
        · exact ((hh.kept (grownBy_setCell (grownBy_refl _ _) _ _ _ (.inl rfl)) (by intro l e; cases e; exact ⟨by omega, by simp⟩)).kept (grownBy_setCell (grownBy_refl _ _) _ _ _ (.inl rfl)) (by intro l e; cases e; exact ⟨by omega, by simp⟩)).kept (grownBy_setCell (grownBy_refl _ _) _ _ _ (.inl rfl)) (by intro l e; cases e; exact ⟨by omega, by simp⟩)
        · exact (((hrow.set _ _).set _ _).set _ _).congr fun j hj => keepF_step k j
        · exact grownBy_setCell (grownBy_setCell (grownBy_setCell hg _ _ _ (.inr (by omega))) _ _ _ (.inr (by omega))) _ _ _ (.inr (by omega))
      case measure => simp [intOf]; omega
    · obtain rfl : k = K := by omega
      go_wp2_with fail
      refine (hist_push w.heap.size 10 _ [] [] ⟨w1.heap.size, 0, none⟩ k k (keepG k) wr hh (by omega) (by omega) (by simp [keepG]) (fun j x hj => by
        have hjk : j < k * 3 := by
          rcases Nat.lt_or_ge j (k * 3) with h | h
          · exact h
          · rw [List.getElem?_eq_none (by simpa [keepG] using h)] at hj; cases hj
        rw [keepG_get k j hjk] at hj; cases hj
        rw [Addr.add_lit, Nat.zero_add]; exact hrow.cell hjk) (keepG_cells k)).mono ?_
      rintro e w4 ⟨rfl, hg4, hh4⟩
      have hgw4 := grownBy_trans hg hg4 (by intro i e; cases e; exact .inr (Nat.le_refl _))
      have hrow4 := hrow.of_block (hg4.block _ hrow.lt (by simp; omega))
      have r0 := hrow4.cell (i := 0) (by omega)
      have z0 := hrow4.frozen 0
      have hs4 := hrow4.lt
      have hh4 : Hist w4 w.heap.size 10 [w1.heap.size, w.heap.size] [keepG k] [] := hh4
      clear hrow hh hg hg4
      have hh5 := fun v => Lib.hid (hh4.kept (grownBy_setCell (grownBy_refl w4 (some w1.heap.size)) w1.heap.size 0 v (.inl rfl)) (by intro l e; cases e; exact ⟨by omega, by simp⟩))
      have hgw5 := fun v => Lib.hid (grownBy_setCell hgw4 w1.heap.size 0 v (.inr (by omega)))
      clear hrow4 hgw4 hh4
      go_wp2_with fail
      refine (hist_undo w.heap.size 10 _ [] [] _ _ (hh5 _).out).mono ?_
      rintro e w6 ⟨q, n, cap, rfl, hg6, ho6, hh6⟩
      obtain rfl : n = k := by have := ho6.1; simp [keepG] at this; omega
      have hq := ho6.lt q rfl
      have hqw : w.heap.size < q := by have h1 := hq.1; simp only [World.size_setCell] at h1; omega
      have hq6 := hq.2
      have hgw6 := grownBy_trans (hgw5 _).out hg6 (by intro i e; cases e; exact .inr (Nat.le_refl _))
      have c0 := ho6.cellAt 0 (by omega)
      rw [keepG_get _ _ (by omega)] at c0
      have c2 := ho6.cellAt ((n - 1) * 3 + 2) (by omega)
      rw [keepG_get _ _ (by omega)] at c2
      have z2 := ho6.frozenAt ((n - 1) * 3 + 2)
      have hh7 := fun v => Lib.hid (hh6.kept (grownBy_setCell (grownBy_refl w6 (some q)) q ((n - 1) * 3 + 2) v (.inl rfl)) (by intro l e; cases e; exact ⟨by omega, by simp⟩))
      have hgw7 := fun v => Lib.hid (grownBy_setCell hgw6 q ((n - 1) * 3 + 2) v (.inr (by omega)))
      have k0 : keepF n 0 = .int .i64 0 := by simp [keepF]
      have k2 : keepF n ((n - 1) * 3 + 2) = .string ⟨#[120]⟩ := by simp only [keepF]; rw [if_neg (by omega), if_pos (by omega), if_pos (by omega)]
      rw [k0] at c0
      rw [k2] at c2
      clear ho6 hh6 hgw6 hg6 hh5 hgw5 k0 k2 r0 z0
      go_wp2_with fail
      refine (hist_redo w.heap.size 10 _ [] [] _ _ (hh7 _).out).mono ?_
      rintro e w8 ⟨q2, n2, cap2, rfl, hg8, ho8, hh8⟩
      obtain rfl : n2 = n := by have := ho8.1; simp [keepG] at this; omega
      have hq2 := ho8.lt q2 rfl
      have hqw2 : w.heap.size < q2 := by have h1 := hq2.1; simp only [World.size_setCell] at h1; omega
      have hq8 := hq2.2
      have hgw8 := grownBy_trans (hgw7 _).out hg8 (by intro i e; cases e; exact .inr (Nat.le_refl _))
      have c0' := ho8.cellAt 0 (by omega)
      rw [keepG_get _ _ (by omega)] at c0'
      have c1' := ho8.cellAt 1 (by omega)
      rw [keepG_get _ _ (by omega)] at c1'
      have c2' := ho8.cellAt ((n2 - 1) * 3 + 2) (by omega)
      rw [keepG_get _ _ (by omega)] at c2'
      have z1' := ho8.frozenAt 1
      have hh9 := fun v => Lib.hid (hh8.kept (grownBy_setCell (grownBy_refl w8 (some q2)) q2 1 v (.inl rfl)) (by intro l e; cases e; exact ⟨by omega, by simp⟩))
      have hgw9 := fun v => Lib.hid (grownBy_setCell hgw8 q2 1 v (.inr (by omega)))
      have k0 : keepF n2 0 = .int .i64 0 := by simp [keepF]
      have k1 : keepF n2 1 = .string ⟨#[]⟩ := by simp [keepF]
      have k2 : keepF n2 ((n2 - 1) * 3 + 2) = .string ⟨#[120]⟩ := by simp only [keepF]; rw [if_neg (by omega), if_pos (by omega), if_pos (by omega)]
      rw [k0] at c0'
      rw [k1] at c1'
      rw [k2] at c2'
      clear ho8 hh8 hgw8 hg8 hh7 hgw7 k0 k1 k2 c0 c2 z2
      go_wp2_with fail
      refine (hist_undo w.heap.size 10 _ [] [] _ _ (hh9 _).out).mono ?_
      rintro e w10 ⟨q3, n3, cap3, rfl, hg10, ho10, hh10⟩
      obtain rfl : n3 = n2 := by have := ho10.1; simp [keepG] at this; omega
      have hgw10 := grownBy_trans (hgw9 _).out hg10 (by intro i e; cases e; exact .inr (Nat.le_refl _))
      have c1 := ho10.cellAt 1 (by omega)
      rw [keepG_get _ _ (by omega)] at c1
      have k1 : keepF n3 1 = .string ⟨#[]⟩ := by simp [keepF]
      rw [k1] at c1
      clear ho10 hh10 hh9 hgw9 hg10 c0' c1' c2' z1' k1
      go_wp2_with fail
      refine (awake08_any w10).mono ?_
      rintro e w11 ⟨rfl, hg11⟩
      go_wp2_with fail
      go_ret
      exact ⟨rfl, grownBy_trans hgw10 hg11 nofun⟩
end Go.Proofs.Ytiiaphgencoijaa
