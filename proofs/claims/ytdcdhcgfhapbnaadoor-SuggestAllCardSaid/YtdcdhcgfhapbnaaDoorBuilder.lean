/-
  strings.Builder: copyCheck and Write of a list of bytes. Conditions: fewer than 2^46 bytes in all.
-/
import Derived.Test.YtdcdhcgfhapbnaaDoorChecked
import Derived.Test.YtdcdhcgfhapbnaaDoorSl
import Derived.Lib.Builder
import Derived.Lib.AppendStr
import Derived.Laws.Externs
namespace Go.Proofs.YtdcdhcgfhapbnaaDoor
open Go Go.RowKit

theorem blt_size : (Tryd.prog.info? 111).map (·.size) = some 2 := by kernel_rfl
theorem blt_lies : liesAt Tryd.prog Tryd.prog.depth 111 (2 / Tryd.prog.cellsOf 111) 0 111 1 = true := by kernel_rfl
theorem byte_info : (Tryd.prog.info? 5).map (fun i => (i.zero, i.size, i.bytes)) = some (some (.int .u8 0), 1, 1) := by kernel_rfl

set_option maxHeartbeats 1000000 in
set_option maxRecDepth 100000 in
theorem copyCheck_used (b : Nat) (w : World) (h0 : w.cell? ⟨b, 0, none⟩ = some (.pointer (some ⟨b, 0, none⟩))) :
    Calls Tryd.prog 89 #[.pointer (some ⟨b, 0, none⟩)] w fun e w' => e = .returned (.tuple #[]) ∧ w = w' := by
  obtain ⟨j, hj, _⟩ := Option.map_eq_some_iff.1 blt_size
  go_enter Tryd.func89, Tryd.ntmps89
  go_wp2
  rw [Lib.run_neq_ptr_same w _ Tryd.underlying109 hj]
  go_wp2
  go_end0
  exact ⟨rfl, rfl⟩

set_option maxHeartbeats 1000000 in
set_option maxRecDepth 100000 in
theorem copyCheck_fresh (b : Nat) (w : World) (h0 : w.cell? ⟨b, 0, none⟩ = some (.pointer none)) (hsh : w.shape? b = some (111, 2)) (hfz : w.frozen? ⟨b, 0, none⟩ = false) :
    Calls Tryd.prog 89 #[.pointer (some ⟨b, 0, none⟩)] w fun e w' => e = .returned (.tuple #[]) ∧ w' = w.setCell ⟨b, 0, none⟩ (.pointer (some ⟨b, 0, none⟩)) := by
  obtain ⟨j, hj, hjs⟩ := Option.map_eq_some_iff.1 blt_size
  go_enter Tryd.func89, Tryd.ntmps89
  go_wp2
  rw [Lib.run_to_unsafe w ⟨b, 0, none⟩ Tryd.underlying109 Tryd.underlying153 hj (by rw [hjs]; decide) hsh (Nat.zero_lt_succ 1)]
  simp only [Result.andThen]
  rw [Oper.upon_value]
  go_wp2
  rw [run_callFunc_extern Tryd.func96 (by kernel_rfl) (by kernel_rfl) (by kernel_rfl) (e := Extern.AbiNoEscape.same) (by kernel_rfl)]
  rw [Lib.run_noEscape]
  simp only [Result.andThen]
  rw [Oper.upon_value]
  go_wp2
  rw [Lib.run_from_unsafe w ⟨b, 0, none⟩ Tryd.underlying153 Tryd.underlying109 hj hsh blt_lies]
  simp only [Result.andThen]
  rw [Oper.upon_value]
  go_wp2
  go_end0
  exact ⟨rfl, rfl⟩

theorem copyCheck_any (B b : Nat) (bs : List Value) (w : World) (h : Lib.IsBuilder 111 5 B b bs w) :
    Calls Tryd.prog 89 #[.pointer (some ⟨b, 0, none⟩)] w fun e w' => e = .returned (.tuple #[]) ∧ (Lib.BuilderAt 111 5 B b (.pointer (some ⟨b, 0, none⟩)) bs w' ∧ w.grownBy w' (some b)) := by
  rcases h with h | h
  · refine (copyCheck_fresh b w h.cell0 h.shape h.frozen0).mono ?_
    rintro e w' ⟨rfl, rfl⟩
    exact ⟨rfl, h.used _, grownBy_setCell (grownBy_refl w _) _ _ _ (.inl rfl)⟩
  · refine (copyCheck_used b w h.cell0).mono ?_
    rintro e w' ⟨rfl, rfl⟩
    exact ⟨rfl, h, grownBy_refl _ _⟩

def WriteRes (B b n : Nat) (bs news : List Value) (w : World) (e : Ending) (w' : World) : Prop :=
  e = .returned (.tuple #[.int .i64 n, .nilIface]) ∧ Lib.IsBuilder 111 5 B b (bs ++ news) w' ∧ Below B w w'

set_option maxHeartbeats 1000000 in
set_option maxRecDepth 100000 in
theorem write_any (B b : Nat) (bs news : List Value) (A : Option Addr) (n c : Nat) (w : World) (h : Lib.IsBuilder 111 5 B b bs w) (hB : B ≤ w.heap.size) (hs : Sl w 1 A n news) (ho : Off A n b) (hn : bs.length + n ≤ 70368744177664) :
    Calls Tryd.prog 62 #[.pointer (some ⟨b, 0, none⟩), .slice A n c] w (WriteRes B b n bs news w) := by
  obtain ⟨i0, hi, hz0, hz1, hz2⟩ := info_parts byte_info
  go_enter Tryd.func62, Tryd.ntmps62
  go_wp2_with fail
  refine (copyCheck_any B b bs w h).mono ?_
  rintro e w1 ⟨rfl, ⟨hBb, v, hh, hown, hne⟩, hg1⟩
  have hs1 := hs.kept hg1 (by intro l e; cases e; exact ho)
  have c1 : w1.cell? ⟨b, 1, none⟩ = some v := cell_of_heap hh 1
  have HH := Lib.hid hh
  have hB1 := Nat.le_trans hB hg1.size
  have hb1 := grownBy_below hg1 B hB (by intro k e; cases e; exact hBb)
  clear hh
  go_wp2_with (at_builtin; refine wpList_append_sl _ rfl _ (.tmp 13) 74 rfl B 5 i0 _ 1 1 Tryd.underlying74 hi hz0 hz1 hz2 rfl (by decide) v _ _ rfl hown A n c news rfl hs1 (by unfold maxLen; omega) (by omega) hB1 ?_)
  rintro v2 w2 ⟨hown2, hg2, hat2⟩
  have hh2 := grownBy_heap hg2 HH.out hne
  have hlb := heap_lt HH.out
  have hne2 : v2.ownBlock ≠ some b := by
    rcases hat2 with h | h
    · rw [h]; exact hne
    · rw [h]; intro e; cases e; omega
  have z1 := frozen_of_heap hh2 1
  have c1' : w2.cell? ⟨b, 1, none⟩ = some v := cell_of_heap hh2 1
  have hb2 : Below B w w2 := hb1.grown hg2 hB1 (fun k e => (hown.lt k e).1)
  have HH2 := Lib.hid hh2
  obtain ⟨A2, n2, c2, hv2⟩ : ∃ A2 n2 c2, v2 = .slice A2 n2 c2 := by
    rcases hown2.2 with ⟨e, _⟩ | ⟨g, cap, _, e, _⟩
    · exact ⟨_, _, _, e⟩
    · exact ⟨_, _, _, e⟩
  subst hv2
  clear hh2 hown c1
  go_wp2_with fail
  go_ret2
  refine ⟨rfl, .inr ⟨hBb, _, ?_, ?_, hne2⟩, hb2.setCell (p := ⟨b, 1, none⟩) hBb _⟩
  · rw [heap_setCell HH2.out]; rfl
  · rw [List.length_append, show bs.length + news.length = bs.length + n by have := hs.1; omega]
    exact ownsRow_setCell hown2 hne2 _ _
end Go.Proofs.YtdcdhcgfhapbnaaDoor
