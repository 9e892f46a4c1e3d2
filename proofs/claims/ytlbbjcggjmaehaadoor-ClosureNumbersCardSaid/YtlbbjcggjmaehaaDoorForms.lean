/-
  closure.Forms: the walk. Conditions: at most 900 rules; a word, the rules' parts not too long; unicode/utf8's two tables as they are laid.
-/
import Derived.Test.YtlbbjcggjmaehaaDoorPut3
namespace Go.Proofs.YtlbbjcggjmaehaaDoor
open Go Go.RowKit Go.Maps Go.Sort

theorem make_set (w : World) : (Instr.makeMap 58 none).run Tryd.prog w = .ok (.map (some w.heap.size)) (w.alloc (.map #[] 0)) := run_makeMap _ _

theorem enc_strs (ss : List Wd) : ss.map encStr = strCells ss := by
  unfold strCells
  exact List.map_congr_left fun s _ => rfl

/-- maps.Keys, slices.Sorted: the words of a set, sorted. -/
theorem keys_walk (M n : Nat) (ks : List Wd) (w : World) (h : SetIs w M n ks) (hn : n ≤ 1000000000000) :
    Calls Tryd.prog 23 #[.func (.func 42) #[] #[.pointer (some ⟨w.heap.size, 0, none⟩)]] (w.alloc (.cells #[.map (some M)] 58)) fun e w' =>
      ∃ A c, e = .returned (.slice A (canon ks).length c) ∧ w'.ownsRow w.heap.size 9 1 (.slice A (canon ks).length c) (canon ks).length (strCells (canon ks)) ∧ w.grownBy w' none := by
  obtain ⟨D, hD, hk⟩ := h
  have hsz := hD.size_le
  refine (((callsIn_wide (n := 5)).1 (Tryd.slices_Sorted_keys_23_24 M n D _ w hD (by unfold maxLen; omega) (by omega)))).mono ?_
  rintro e w' ⟨v, ss, rfl, hp, hown, hnil, hb⟩
  have hs := SetIs.sorted hD hk hp
  have hl : ss.length = (canon ks).length := by rw [← hs, sortW_len]
  rw [enc_strs] at hown
  have e2 : ss.mergeSort (fun x y => decide (x ≤ y)) = canon ks := hs
  rw [e2, hl] at hown
  obtain ⟨A, c, rfl⟩ := own_slice hown
  refine ⟨A, c, rfl, ownsRow_base hown (by simp), ?_⟩
  exact grownBy_trans (World.grownBy_alloc w (.cells #[.map (some M)] 58) none) (below_grown hb) nofun

theorem keysOf_walk (M : Nat) (w : World) : Calls Tryd.prog 24 #[.map (some M)] w fun e w' => e = .returned (.func (.func 42) #[] #[.pointer (some ⟨w.heap.size, 0, none⟩)]) ∧ w' = w.alloc (.cells #[.map (some M)] 58) :=
  (callsIn_wide (n := 5)).1 (Tryd.maps_Keys_24 (some M) w)

theorem grown_new {w w' : World} {M : Nat} (h : w.grownBy w' (some M)) {a : World} (g : a.grownBy w none) (hM : a.heap.size ≤ M) : a.grownBy w' none := grownBy_trans g h (fun l hl => .inr (by cases hl; exact hM))

/-- A row of the call's own that holds words. -/
def OwnWd (base : Nat) (w : World) (v : Value) (L : List Wd) : Prop := ∃ A c, v = .slice A L.length c ∧ w.ownsRow base 9 1 (.slice A L.length c) L.length (strCells L)

set_option maxRecDepth 100000 in
set_option maxHeartbeats 1000000 in
theorem forms_walk (rules : List Ru) (A : Option Addr) (n cap : Nat) (e : En) (w : World) (hn : rules.length = n) (hb : n ≤ 900) (hr : RusAt w A rules) (he : EnAt w e) (hT : Lib.Utf8Tabs 0 1 w) :
    Calls Tryd.prog 11 #[.slice A n cap, e.val] w fun x w' => ∃ v, x = .returned v ∧ OwnWd w.heap.size w' v (canon (formsQ rules e)) ∧ w.grownBy w' none := by
  have hev : e.val = .agg #[.string ⟨e.word.toArray⟩, .slice e.F e.flags.length e.cap] := rfl
  have hput := fun (M nm : Nat) (ks : List Wd) (u : World) => put13_walk rules A n cap e M nm ks w u hn hb hr he hT
  rw [hev] at hput ⊢
  obtain ⟨m, hm⟩ : ∃ m, e.flags.length = m := ⟨_, rfl⟩
  obtain ⟨word, hword⟩ : ∃ word, e.word = word := ⟨_, rfl⟩
  obtain ⟨F, hF⟩ : ∃ F, e.F = F := ⟨_, rfl⟩
  obtain ⟨fcap, hfc⟩ : ∃ fcap, e.cap = fcap := ⟨_, rfl⟩
  rw [hm, hword, hF, hfc] at hput ⊢
  have hbox := World.grownBy_alloc w (.cells #[.string ⟨word.toArray⟩, .slice F m fcap] 25) none
  have hmap := World.grownBy_alloc (w.alloc (.cells #[.string ⟨word.toArray⟩, .slice F m fcap] 25)) (.map #[] 0) none
  have hob := grownBy_heap hmap (heap_alloc_new w (.cells #[.string ⟨word.toArray⟩, .slice F m fcap] 25 (0, 0))) nofun
  have hset := SetIs.new (w.alloc (.cells #[.string ⟨word.toArray⟩, .slice F m fcap] 25))
  rw [World.size_alloc] at hset
  have hmk := make_set
  have hg := grownBy_trans hbox hmap nofun
  have c0 := cell_of_heap hob 0
  have c1 := cell_of_heap hob 1
  have HPUT := Lib.hid hput
  have HSET := Lib.hid hset
  have HG := Lib.hid hg
  clear hbox hmap hob hset hg hput hr he hT hev hword hF hfc hm
  go_enter Tryd.func11, Tryd.ntmps11
  go_wp2_with fail
  refine (HPUT.out (w.heap.size + 1) 0 [] _ HG.out (by omega) HSET.out (by unfold maxLen; omega)).mono ?_
  rintro x w1 ⟨rfl, ⟨c, hc, hset1⟩, hg1⟩
  have HS1 := Lib.hid hset1
  have HG1 := Lib.hid (grown_new hg1 HG.out (by omega))
  clear hset1 hg1 c0 c1 hmk
  go_wp2_with fail
  refine (keysOf_walk (w.heap.size + 1) w1).mono ?_
  rintro x w2 ⟨rfl, rfl⟩
  go_wp2_with fail
  refine (keys_walk (w.heap.size + 1) c _ w1 HS1.out (by omega)).mono ?_
  rintro x w3 ⟨B, bc, rfl, hown, hg3⟩
  have HO := Lib.hid hown
  have HG3 := Lib.hid hg3
  clear hown hg3
  go_wp2_with fail
  go_ret
  exact ⟨_, rfl, ⟨B, bc, rfl, ownsRow_base HO.out HG1.out.size⟩, grownBy_trans HG1.out HG3.out nofun⟩
end Go.Proofs.YtlbbjcggjmaehaaDoor
