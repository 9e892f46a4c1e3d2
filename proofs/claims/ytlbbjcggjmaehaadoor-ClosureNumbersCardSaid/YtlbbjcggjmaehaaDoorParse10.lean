/-
  ref10.Parse at the law's example: the walk. No conditions.
-/
import Derived.Test.YtlbbjcggjmaehaaDoorParse9
import Derived.Test.YtlbbjcggjmaehaaDoorTail
namespace Go.Proofs.YtlbbjcggjmaehaaDoor
open Go Go.RowKit Go.Maps

def sEx : Wd := [83, 70, 88, 32, 83, 32, 89, 32, 121, 32, 105, 101, 115, 32, 121]
def ruEx (C : Option Addr) (k : Nat) (S : Option Addr) (cap : Nat) : Ru := ⟨false, 83, true, [121], [105, 101, 115], C, k, [oneIt S cap 121]⟩

theorem words_ex : wordsF sEx [] = [[83, 70, 88], [83], [89], [121], [105, 101, 115], [121]] := by decide

theorem set_rule {u : World} {b : Nat} {T : TypeId} {fz : Nat × Nat} {v0 v1 v2 v3 v4 v5 : Value} (h : u.heap[b]? = some (.cells #[v0, v1, v2, v3, v4, v5] T fz)) (a0 a1 a2 a3 a4 a5 : Value) :
    ((((((u.setCell ⟨b, 0, none⟩ a0).setCell ⟨b, 1, none⟩ a1).setCell ⟨b, 2, none⟩ a2).setCell ⟨b, 3, none⟩ a3).setCell ⟨b, 4, none⟩ a4).setCell ⟨b, 5, none⟩ a5).heap[b]? = some (.cells #[a0, a1, a2, a3, a4, a5] T fz) := by
  have h0 : (u.setCell ⟨b, 0, none⟩ a0).heap[b]? = some (.cells #[a0, v1, v2, v3, v4, v5] T fz) := heap_setCell h 0 a0
  have h1 : ((u.setCell ⟨b, 0, none⟩ a0).setCell ⟨b, 1, none⟩ a1).heap[b]? = some (.cells #[a0, a1, v2, v3, v4, v5] T fz) := heap_setCell h0 1 a1
  have h2 : (((u.setCell ⟨b, 0, none⟩ a0).setCell ⟨b, 1, none⟩ a1).setCell ⟨b, 2, none⟩ a2).heap[b]? = some (.cells #[a0, a1, a2, v3, v4, v5] T fz) := heap_setCell h1 2 a2
  have h3 : ((((u.setCell ⟨b, 0, none⟩ a0).setCell ⟨b, 1, none⟩ a1).setCell ⟨b, 2, none⟩ a2).setCell ⟨b, 3, none⟩ a3).heap[b]? = some (.cells #[a0, a1, a2, a3, v4, v5] T fz) := heap_setCell h2 3 a3
  have h4 : (((((u.setCell ⟨b, 0, none⟩ a0).setCell ⟨b, 1, none⟩ a1).setCell ⟨b, 2, none⟩ a2).setCell ⟨b, 3, none⟩ a3).setCell ⟨b, 4, none⟩ a4).heap[b]? = some (.cells #[a0, a1, a2, a3, a4, v5] T fz) := heap_setCell h3 4 a4
  exact heap_setCell h4 5 a5

theorem grown_set6 {a u : World} {r : Option Nat} (h : a.grownBy u r) (b : Nat) (hb : r = some b ∨ a.heap.size ≤ b) (a0 a1 a2 a3 a4 a5 : Value) :
    a.grownBy ((((((u.setCell ⟨b, 0, none⟩ a0).setCell ⟨b, 1, none⟩ a1).setCell ⟨b, 2, none⟩ a2).setCell ⟨b, 3, none⟩ a3).setCell ⟨b, 4, none⟩ a4).setCell ⟨b, 5, none⟩ a5) r :=
  grownBy_setCell (grownBy_setCell (grownBy_setCell (grownBy_setCell (grownBy_setCell (grownBy_setCell h b 0 a0 hb) b 1 a1 hb) b 2 a2 hb) b 3 a3 hb) b 4 a4 hb) b 5 a5 hb

theorem load_rule {u : World} {k : Nat} {a b : Bool} {f : Int} {s t : ByteArray} {C : Option Addr} {n c : Nat} {fz : Nat × Nat} (h : u.heap[k]? = some (.cells #[.bool a, .int .i64 f, .bool b, .string s, .string t, .slice C n c] 51 fz)) :
    (loadVar 51 ⟨k, 0, none⟩).run Tryd.prog u = .ok (.agg #[.bool a, .int .i64 f, .bool b, .string s, .string t, .slice C n c]) u := by
  have c0 := cell_of_heap h 0
  have c1 := cell_of_heap h 1
  have c2 := cell_of_heap h 2
  have c3 := cell_of_heap h 3
  have c4 := cell_of_heap h 4
  have c5 := cell_of_heap h 5
  go_simp

set_option maxRecDepth 100000 in
set_option maxHeartbeats 2000000 in
theorem parse10_ex (w : World) : Calls Tryd.prog 21 #[.string ⟨sEx.toArray⟩] w fun e w' => ∃ C k S cap, e = .returned (.tuple #[(ruEx C k S cap).val, .bool true]) ∧ RuAt w' (ruEx C k S cap) ∧ w.grownBy w' none := by
  have hal := World.grownBy_alloc w (.cells #[.bool false, .int .i64 0, .bool false, .string ⟨#[]⟩, .string ⟨#[]⟩, .slice none 0 0] 51) none
  have hbl := heap_alloc_new w (.cells #[.bool false, .int .i64 0, .bool false, .string ⟨#[]⟩, .string ⟨#[]⟩, .slice none 0 0] 51 (0, 0))
  have HAL := Lib.hid hal
  have HBL := Lib.hid hbl
  clear hal hbl
  go_enter Tryd.func21, Tryd.ntmps21
  go_wp2_with fail
  refine (words_walk sEx _ (by decide)).mono ?_
  rintro e w1 ⟨A, c, rfl, hown, hg1⟩
  rw [words_ex] at hown ⊢
  simp only [List.length_cons, List.length_nil, Nat.zero_add, Nat.reduceAdd] at hown ⊢
  have hsl := Sl.of_own hown (strCells_one' _)
  obtain ⟨q, o, rfl, hc⟩ := hsl.2.2 (by decide)
  have c0 := hc 0 _ rfl
  have c1 := hc 1 _ rfl
  have c2 := hc 2 _ rfl
  have c3 := hc 3 _ rfl
  have c4 := hc 4 _ rfl
  have c5 := hc 5 _ rfl
  simp only [Nat.add_zero] at c0
  have hqne : q ≠ w.heap.size := by have h9 := (hown.lt q rfl).1; rw [World.size_alloc] at h9; omega
  have HG1 := Lib.hid hg1
  clear hown hsl hc hg1
  have hfl : ∀ u, Calls Tryd.prog 34 #[.string ⟨#[83]⟩] u fun e w' => e = .returned (.int .i64 83) ∧ w' = u := fun u => by have := flag_walk [83] u; rwa [show flagF [83] = 83 by decide] at this
  have hp1 : ∀ u, Calls Tryd.prog 35 #[.string ⟨#[121]⟩] u fun e w' => e = .returned (.tuple #[.string ⟨#[121]⟩, .bool true]) ∧ u.grownBy w' none := fun u => by have := part_walk [121] u (by decide); rwa [show partV [121] = [121] by decide, show partB [121] = true by decide +kernel] at this
  have hp2 : ∀ u, Calls Tryd.prog 35 #[.string ⟨#[105, 101, 115]⟩] u fun e w' => e = .returned (.tuple #[.string ⟨#[105, 101, 115]⟩, .bool true]) ∧ u.grownBy w' none := fun u => by have := part_walk [105, 101, 115] u (by decide); rwa [show partV [105, 101, 115] = [105, 101, 115] by decide, show partB [105, 101, 115] = true by decide +kernel] at this
  have hp9 : ∀ u, Calls Tryd.prog 36 #[.string ⟨#[121]⟩] u fun e w' => ∃ C k S cap, e = .returned (.tuple #[.slice C 1 k, .bool true]) ∧ CondAt w' C [oneIt S cap 121] ∧ (∀ l, l < u.heap.size → Off C 1 l ∧ Off S 1 l) ∧ u.grownBy w' none := fun u => parse9_one [121] 121 u (by decide) (by decide +kernel) (by decide) (by decide) (by decide)
  have HFL := Lib.hid hfl
  have HP1 := Lib.hid hp1
  have HP2 := Lib.hid hp2
  have HP9 := Lib.hid hp9
  clear hfl hp1 hp2 hp9
  go_wp2_with (first
    | (go_at_call 34; refine (HFL.out _).mono ?_; rintro e w2 ⟨rfl, rfl⟩))
  refine (HP1.out _).mono ?_
  rintro e w3 ⟨rfl, hg3⟩
  have d0 := hg3.cell c0 nofun
  have d1 := hg3.cell c1 nofun
  have d2 := hg3.cell c2 nofun
  have d4 := hg3.cell c4 nofun
  have d5 := hg3.cell c5 nofun
  have HG3 := Lib.hid (grownBy_trans HG1.out hg3 nofun)
  clear c0 c1 c2 c3 c4 c5 hg3
  go_wp2_with fail
  refine (HP2.out _).mono ?_
  rintro e w4 ⟨rfl, hg4⟩
  have c0 := hg4.cell d0 nofun
  have c1 := hg4.cell d1 nofun
  have c2 := hg4.cell d2 nofun
  have c5 := hg4.cell d5 nofun
  have HG4 := Lib.hid (grownBy_trans HG3.out hg4 nofun)
  clear d0 d1 d2 d4 d5 hg4
  go_wp2_with fail
  refine (HP9.out _).mono ?_
  rintro e w5 ⟨C, k, S, cap, rfl, hcond, hoff, hg5⟩
  have d0 := hg5.cell c0 nofun
  have d1 := hg5.cell c1 nofun
  have d2 := hg5.cell c2 nofun
  have hb5 := grownBy_heap (grownBy_trans HG4.out hg5 nofun) HBL.out nofun
  have HC := Lib.hid hcond
  have HG5 := Lib.hid (grownBy_trans HG4.out hg5 nofun)
  have HB5 := Lib.hid hb5
  clear c0 c1 c2 c5 hg5 hcond hb5
  go_upto_region 9 with (fail)
  have hb6 := HB5.out
  have hset := set_rule hb6 (.bool false) (.int .i64 83) (.bool true) (.string ⟨#[121]⟩) (.string ⟨#[105, 101, 115]⟩) (.slice C 1 k)
  have hgr := grown_set6 (grownBy_trans HAL.out HG5.out nofun) w.heap.size (.inr (Nat.le_refl _)) (.bool false) (.int .i64 83) (.bool true) (.string ⟨#[121]⟩) (.string ⟨#[105, 101, 115]⟩) (.slice C 1 k)
  have hw4 : w.heap.size < w4.heap.size := by have h1 := HAL.out.size; have h2 := HG4.out.size; simp only [World.size_alloc] at h2; omega
  have ho := hoff _ hw4
  have hg56 := grown_set6 (grownBy_refl w5 (some w.heap.size)) w.heap.size (.inl rfl) (.bool false) (.int .i64 83) (.bool true) (.string ⟨#[121]⟩) (.string ⟨#[105, 101, 115]⟩) (.slice C 1 k)
  have HC6 := Lib.hid (show CondAt _ C [oneIt S cap 121] from ⟨HC.out.1.kept hg56 (fun l hl => by cases hl; exact ho.1), fun x hx => (HC.out.2 x hx).kept hg56 (fun l hl => by cases hl; simp at hx; subst hx; exact ho.2)⟩)
  have HSET := Lib.hid hset
  have HGR := Lib.hid hgr
  have HG56 := Lib.hid hg56
  clear hset hgr ho hg56 hoff
  have g0 := frozen_of_heap hb6 0
  have g1 := frozen_of_heap hb6 1
  have g2 := frozen_of_heap hb6 2
  have g3 := frozen_of_heap hb6 3
  have g4 := frozen_of_heap hb6 4
  have g5 := frozen_of_heap hb6 5
  have f0 := cell_of_heap hb6 0
  have f1 := cell_of_heap hb6 1
  have f2 := cell_of_heap hb6 2
  have f3 := cell_of_heap hb6 3
  have f4 := cell_of_heap hb6 4
  have f5 := cell_of_heap hb6 5
  clear hb6
  have HD := Lib.hid (And.intro d0 (And.intro d1 d2))
  clear d0 d1 d2
  go_wp2_with fail
  refine region_tail 16 (fun u => u.cell? ⟨q, o, none⟩ = some (.string ⟨#[83, 70, 88]⟩) ∧ u.cell? ⟨q, o + 1, none⟩ = some (.string ⟨#[83]⟩) ∧ u.cell? ⟨q, o + 2, none⟩ = some (.string ⟨#[89]⟩)) (by kernel_rfl) HD.out (fun hHeld => ?_)
  refine tail_take 0 (v := ?_) rfl (by kernel_rfl) (by kernel_rfl) (by kernel_rfl) (by kernel_rfl) (fun _ _ _ h => h) (by rfl) (fun u hu => ?_) (by assumption) ?_
  rotate_left
  focus ((try dsimp only at hu); obtain ⟨u0, u1, u2⟩ := hu; go_simp; (try with_reducible rfl); done)
  try simp only [Act.put]
  refine tail_take 1 (v := ?_) rfl (by kernel_rfl) (by kernel_rfl) (by kernel_rfl) (by kernel_rfl) (fun _ _ _ h => h) (by rfl) (fun u hu => ?_) (by assumption) ?_
  rotate_left
  focus ((try dsimp only at hu); obtain ⟨u0, u1, u2⟩ := hu; go_simp; (try with_reducible rfl); done)
  try simp only [Act.put]
  refine tail_take 2 (v := ?_) rfl (by kernel_rfl) (by kernel_rfl) (by kernel_rfl) (by kernel_rfl) (fun _ _ _ h => h) (by rfl) (fun u hu => ?_) (by assumption) ?_
  rotate_left
  focus ((try dsimp only at hu); obtain ⟨u0, u1, u2⟩ := hu; go_simp; (try with_reducible rfl); done)
  try simp only [Act.put]
  refine tail_take 3 (v := ?_) rfl (by kernel_rfl) (by kernel_rfl) (by kernel_rfl) (by kernel_rfl) (fun _ _ _ h => h) (by rfl) (fun u hu => ?_) (by assumption) ?_
  rotate_left
  focus ((try dsimp only at hu); obtain ⟨u0, u1, u2⟩ := hu; go_simp; (try with_reducible rfl); done)
  try simp only [Act.put]
  refine tail_take 4 (v := ?_) rfl (by kernel_rfl) (by kernel_rfl) (by kernel_rfl) (by kernel_rfl) (fun _ _ _ h => h) (by rfl) (fun u hu => ?_) (by assumption) ?_
  rotate_left
  focus ((try dsimp only at hu); obtain ⟨u0, u1, u2⟩ := hu; go_simp; (try with_reducible rfl); done)
  try simp only [Act.put]
  refine tail_take 5 (v := ?_) rfl (by kernel_rfl) (by kernel_rfl) (by kernel_rfl) (by kernel_rfl) (fun _ _ _ h => h) (by rfl) (fun u hu => ?_) (by assumption) ?_
  rotate_left
  focus ((try dsimp only at hu); obtain ⟨u0, u1, u2⟩ := hu; go_simp; (try with_reducible rfl); done)
  try simp only [Act.put]
  refine tail_take 6 (v := ?_) rfl (by kernel_rfl) (by kernel_rfl) (by kernel_rfl) (by kernel_rfl) (fun _ _ _ h => h) (by rfl) (fun u hu => ?_) (by assumption) ?_
  rotate_left
  focus ((try dsimp only at hu); obtain ⟨u0, u1, u2⟩ := hu; go_simp; (try with_reducible rfl); done)
  try simp only [Act.put]
  refine tail_take 8 (v := ?_) rfl (by kernel_rfl) (by kernel_rfl) (by kernel_rfl) (by kernel_rfl) (fun _ _ _ h => h) (by rfl) (fun u hu => ?_) (by assumption) ?_
  rotate_left
  focus ((try dsimp only at hu); obtain ⟨u0, u1, u2⟩ := hu; go_simp; (try with_reducible rfl); done)
  try simp only [Act.put]
  refine tail_take 9 (v := ?_) rfl (by kernel_rfl) (by kernel_rfl) (by kernel_rfl) (by kernel_rfl) (fun _ _ _ h => h) (by rfl) (fun u hu => ?_) (by assumption) ?_
  rotate_left
  focus ((try dsimp only at hu); obtain ⟨u0, u1, u2⟩ := hu; go_simp; (try with_reducible rfl); done)
  try simp only [Act.put]
  refine tail_take 10 (v := ?_) rfl (by kernel_rfl) (by kernel_rfl) (by kernel_rfl) (by kernel_rfl) (fun _ _ _ h => h) (by rfl) (fun u hu => ?_) (by assumption) ?_
  rotate_left
  focus ((try dsimp only at hu); obtain ⟨u0, u1, u2⟩ := hu; go_simp; (try with_reducible rfl); done)
  try simp only [Act.put]
  refine tail_take 11 (v := ?_) rfl (by kernel_rfl) (by kernel_rfl) (by kernel_rfl) (by kernel_rfl) (fun _ _ _ h => h) (by rfl) (fun u hu => ?_) (by assumption) ?_
  rotate_left
  focus ((try dsimp only at hu); obtain ⟨u0, u1, u2⟩ := hu; go_simp; (try with_reducible rfl); done)
  try simp only [Act.put]
  refine tail_take 12 (v := ?_) rfl (by kernel_rfl) (by kernel_rfl) (by kernel_rfl) (by kernel_rfl) (fun _ _ _ h => h) (by rfl) (fun u hu => ?_) (by assumption) ?_
  rotate_left
  focus ((try dsimp only at hu); obtain ⟨u0, u1, u2⟩ := hu; go_simp; (try with_reducible rfl); done)
  try simp only [Act.put]
  refine tail_take 13 (v := ?_) rfl (by kernel_rfl) (by kernel_rfl) (by kernel_rfl) (by kernel_rfl) (fun _ _ _ h => h) (by rfl) (fun u hu => ?_) (by assumption) ?_
  rotate_left
  focus ((try dsimp only at hu); obtain ⟨u0, u1, u2⟩ := hu; go_simp; (try with_reducible rfl); done)
  try simp only [Act.put]
  refine tail_take 14 (v := ?_) rfl (by kernel_rfl) (by kernel_rfl) (by kernel_rfl) (by kernel_rfl) (fun _ _ _ h => h) (by rfl) (fun u hu => ?_) (by assumption) ?_
  rotate_left
  focus ((try dsimp only at hu); obtain ⟨u0, u1, u2⟩ := hu; go_simp; (try with_reducible rfl); done)
  try simp only [Act.put]
  refine tail_step 7 (by kernel_rfl) rfl (fun K hK => ?_)
  go_simp
  go_at_call 34
  refine (HFL.out _).mono ?_
  rintro e w2 ⟨rfl, rfl⟩
  refine hK.out _ _ (by exact hHeld) (fun hHeld7 => ?_)
  clear hK K
  try simp only [Act.put]
  refine tail_take 15 (v := ?_) rfl (by kernel_rfl) (by kernel_rfl) (by kernel_rfl) (by kernel_rfl) (fun _ _ _ h => h) (by rfl) (fun u hu => ?_) (by assumption) ?_
  rotate_left
  focus ((try dsimp only at hu); go_simp; (try with_reducible rfl); done)
  try simp only [Act.put]
  refine tail_last (by kernel_rfl) rfl (fun K hK => ?_)
  go_simp
  refine hK.out _ _ ?_
  clear hK K
  refine tail_step 17 (by kernel_rfl) rfl (fun K hK => ?_)
  go_simp
  refine hK.out _ _ (by exact ⟨(grownBy_drew HG56.out).cell HD.out.1 (fun e => hqne (by cases e; rfl)), (grownBy_drew HG56.out).cell HD.out.2.1 (fun e => hqne (by cases e; rfl)), (grownBy_drew HG56.out).cell HD.out.2.2 (fun e => hqne (by cases e; rfl))⟩) (fun hHeld17 => ?_)
  clear hK K
  try simp only [Act.put]
  refine tail_done (by kernel_rfl) ?_
  go_wp2_with fail
  obtain ⟨wz, hwz⟩ : ∃ wz, ((((((w5.setCell ⟨w.heap.size, 0, none⟩ (.bool false)).setCell ⟨w.heap.size, 1, none⟩ (.int .i64 83)).setCell ⟨w.heap.size, 2, none⟩ (.bool true)).setCell ⟨w.heap.size, 3, none⟩ (.string ⟨#[121]⟩)).setCell ⟨w.heap.size, 4, none⟩ (.string ⟨#[105, 101, 115]⟩)).setCell ⟨w.heap.size, 5, none⟩ (.slice C 1 k)) = wz := ⟨_, rfl⟩
  have hz1 := HSET.out
  have hz2 := HC6.out
  have hz3 := HGR.out
  rw [hwz] at hz1 hz2 hz3 ⊢
  have hz4 : wz.drew.heap[w.heap.size]? = _ := hz1
  refine bodyPost_ret (results_cell_tmp rfl rfl (load_rule hz4) rfl) rfl ?_
  have hz5 : RuSmall (ruEx C k S cap) := ⟨by show 1 ≤ 100000; omega, fun x hx => by
    simp only [ruEx, List.mem_singleton] at hx
    subst hx
    show 1 ≤ 100000
    omega, by show 1 ≤ 100000; omega, by show 3 ≤ 100000; omega⟩
  exact ⟨C, k, S, cap, rfl, ⟨hz2.kept (grownBy_drew (grownBy_refl _ none)), hz5⟩, grownBy_drew hz3⟩
end Go.Proofs.YtlbbjcggjmaehaaDoor
