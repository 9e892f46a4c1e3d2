/-
  Rows of strings: small facts. No conditions beyond those that each lemma names.
-/
import Derived.Test.YtdcdhcgfhapbnaaDoorDawgS
import Derived.Sort.OwnSorted
import Derived.Test.YtdcdhcgfhapbnaaDoorDawgI
import Derived.Shelf.Slices.In.SortNone
namespace Go.Proofs.YtdcdhcgfhapbnaaDoor
open Go Go.RowKit Go.Maps

/-- What Build asks of a word. -/
def isLong (s : Wd) : Bool := decide (200 < s.length)

theorem long_walk (s : Wd) (w : World) : Calls Tryd.prog 21 #[.string ⟨s.toArray⟩] w fun e w' => e = .returned (.bool (isLong s)) ∧ w' = w := by
  go_enter Tryd.func21, Tryd.ntmps21
  go_wp2_with fail
  go_ret
  refine ⟨?_, rfl⟩
  have : decide (200 < ((s.length : Nat) : Int)) = isLong s := by
    unfold isLong
    rw [Bool.eq_iff_iff, decide_eq_true_iff, decide_eq_true_iff]; omega
  rw [← this]; rfl

theorem any_take {ss : List Wd} {k : Nat} {s : Wd} (h : ss[k]? = some s) (hk : (ss.take k).any isLong = false) : (isLong s = false → (ss.take (k + 1)).any isLong = false) ∧ (isLong s = true → ss.any isLong = true) := by
  constructor
  · intro e
    rw [List.take_add_one, h, List.any_append, hk]; simp [e]
  · intro e
    exact List.any_eq_true.2 ⟨s, List.mem_of_getElem? h, e⟩

set_option maxRecDepth 100000 in
theorem index_walk (ss : List Wd) (A : Option Addr) (n c : Nat) (w : World) (h : WordsAt w (fun _ => False) A n c ss) : Calls Tryd.prog 40 #[.slice A n c, .func (.func 21) #[] #[]] w fun e w' => (∃ r : Int, e = .returned (.int .i64 r) ∧ decide (0 ≤ r) = ss.any isLong) ∧ w' = w := by
  have H := Lib.hid h
  have hn := h.2.2.1
  clear h
  go_enter Tryd.func40, Tryd.ntmps40
  go_wp2_with fail
  go_loopw [8] (fun i wr => ∃ k : Nat, k ≤ n ∧ i = .int .i64 k ∧ wr = w ∧ (ss.take k).any isLong = false) (fun i _ => n - (intOf i).toNat)
  case atStart => exact ⟨0, Nat.zero_le _, rfl, rfl, by simp⟩
  case round =>
    obtain ⟨k, hk, rfl, rfl, hany⟩ := hrel
    rcases Nat.lt_or_ge k n with hlt | hge
    · obtain ⟨s, hs⟩ : ∃ s, ss[k]? = some s := ⟨_, List.getElem?_eq_getElem (by have := H.out.1; omega)⟩
      obtain ⟨q, o, rfl, hc, _⟩ := H.out.get hs
      obtain ⟨h1, h2⟩ := any_take hs hany
      have HS := Lib.hid hs
      clear hs
      go_wp2_with fail
      refine (long_walk s wr).mono ?_
      rintro e w1 ⟨rfl, rfl⟩
      cases hl : isLong s
      · go_wp2_with fail
        go_roundw
        case rel => exact ⟨k + 1, by omega, by go_num, by first | rfl | trivial, h1 hl⟩
        case measure => simp [intOf]; omega
      · go_wp2_with fail
        go_ret
        exact ⟨⟨k, rfl, by rw [h2 hl]; simp⟩, rfl⟩
    · obtain rfl : k = n := by omega
      go_wp2_with fail
      go_ret
      refine ⟨⟨-1, rfl, ?_⟩, rfl⟩
      rw [List.take_of_length_le (by have := H.out.1; omega)] at hany
      rw [hany]; rfl

theorem contains_walk (ss : List Wd) (A : Option Addr) (n c : Nat) (w : World) (h : WordsAt w (fun _ => False) A n c ss) : Calls Tryd.prog 20 #[.slice A n c, .func (.func 21) #[] #[]] w fun e w' => e = .returned (.bool (ss.any isLong)) ∧ w' = w := by
  have H := Lib.hid h
  clear h
  go_enter Tryd.func20, Tryd.ntmps20
  go_wp2_with fail
  refine (index_walk ss A n c w H.out).mono ?_
  rintro e w1 ⟨⟨r, rfl, hr⟩, rfl⟩
  go_wp2_with fail
  go_ret
  exact ⟨by rw [← hr]; rfl, rfl⟩
end Go.Proofs.YtdcdhcgfhapbnaaDoor

namespace Go.Proofs.YtdcdhcgfhapbnaaDoor
open Go Go.RowKit Go.Maps

/-- An owned row cut at its end. -/
theorem own_cut {w : World} {base : Nat} {e : TypeId} {A : Option Addr} {n c : Nat} {xs : List Value} (h : w.ownsRow base e 1 (.slice A n c) n xs) {m : Nat} (hm : m ≤ n) : w.ownsRow base e 1 (.slice A m c) m (xs.take m) := by
  obtain ⟨h1, h2⟩ := h
  refine ⟨by rw [List.length_take, h1]; omega, ?_⟩
  rcases h2 with ⟨hv, h0⟩ | ⟨g, cap, cur, hv, hg, hh, hn, hcap, hsz, ht⟩
  · cases hv
    exact .inl ⟨by rw [show m = 0 by omega], by omega⟩
  · cases hv
    refine .inr ⟨g, c, cur, rfl, hg, hh, by omega, hcap, hsz, ?_⟩
    rw [← ht, List.take_take]; congr 1; omega

theorem clone_walk (ss : List Wd) (A : Option Addr) (n c : Nat) (w : World) (h : WordsAt w (fun _ => False) A n c ss) :
    Calls Tryd.prog 17 #[.slice A n c] w fun e w' => ∃ v', e = .returned v' ∧ w'.ownsRow w.heap.size 9 1 v' n (strCells ss) ∧ Below w.heap.size w w' := by
  rcases Nat.eq_zero_or_pos n with h0 | h0
  · subst h0
    have hs : ss = [] := List.length_eq_zero_iff.1 h.1
    subst hs
    cases A with
    | none =>
      refine (Tryd.slices_Clone_string_nil 0 c w).mono ?_
      rintro e w' ⟨rfl, rfl⟩
      exact ⟨_, rfl, World.ownsRow_nil _ _ _ _, Below.refl _ _⟩
    | some a =>
      refine (Tryd.slices_Clone_string_zero a c w).mono ?_
      rintro e w' ⟨v', rfl, h1, _, h2⟩
      exact ⟨v', rfl, h1, h2⟩
  · obtain ⟨q, o, rfl, hc⟩ := h.2.2.2.1.2.2 h0
    have hn := h.2.2.1
    have hl := h.1
    refine (Tryd.slices_Clone_string q o n c (ss.map fun s => ⟨s.toArray⟩) w (by simp; omega) (by omega) ?_).mono ?_
    · intro j hj
      simp at hj
      refine hc j _ ?_
      simp [strCells, List.getD, hj]
    · rintro e w' ⟨v', rfl, h1, _, h2⟩
      refine ⟨v', rfl, ?_, h2⟩
      rw [List.take_of_length_le (by simp; omega), List.map_map] at h1
      exact h1

theorem sort_walk (base : Nat) (ss : List Wd) (A : Option Addr) (n c : Nat) (w : World) (hn : ss.length = n) (hb : n ≤ 2147483648) (h : w.ownsRow base 9 1 (.slice A n c) n (strCells ss)) :
    Calls Tryd.prog 18 #[.slice A n c] w fun e w' => e = .returned (.tuple #[]) ∧ w'.ownsRow base 9 1 (.slice A n c) n (strCells (sortW ss)) ∧ w.grownBy w' (Value.slice A n c).ownBlock := by
  rcases h.2 with ⟨hv, h0⟩ | ⟨g, cap, cur, hv, hg, hh, h1, h2, h3, h4⟩
  · cases hv
    have hs : ss = [] := List.length_eq_zero_iff.1 hn
    subst hs
    refine (Any.slices_Sort_string_none Tryd.lays190 none 0 w).mono ?_
    rintro e w' ⟨rfl, rfl⟩
    have e0 : sortW [] = [] := by simp [sortW]
    exact ⟨rfl, by rw [e0]; exact h, grownBy_refl _ _⟩
  · cases hv
    subst hn
    refine (Tryd.slices_Sort_string g 0 c ss w (holds_of_block hh (by rw [Nat.mul_one] at h4; exact h4)) (heap_lt hh) (by omega)).mono ?_
    rintro e w' ⟨rfl, m, os, rfl⟩
    exact ⟨rfl, ownsRow_sorted (sortW_len ss) hg hh h1 h2 h3, grownBy_sorted _⟩

theorem compact_walk (base : Nat) (ss : List Wd) (A : Option Addr) (n c : Nat) (w : World) (hn : ss.length = n) (hb : n ≤ 2147483648) (h : w.ownsRow base 9 1 (.slice A n c) n (strCells ss)) :
    Calls Tryd.prog 19 #[.slice A n c] w fun e w' => e = .returned (.slice A (Lib.compact ss).length c) ∧ w'.ownsRow base 9 1 (.slice A (Lib.compact ss).length c) (Lib.compact ss).length (strCells (Lib.compact ss)) ∧ w.grownBy w' (Value.slice A n c).ownBlock := by
  rcases h.2 with ⟨hv, h0⟩ | ⟨g, cap, cur, hv, hg, hh, h1, h2, h3, h4⟩
  · cases hv
    have hs : ss = [] := List.length_eq_zero_iff.1 hn
    subst hs
    refine (Tryd.slices_Compact_string_empty none 0 w).mono ?_
    rintro e w' ⟨rfl, rfl⟩
    exact ⟨rfl, h, grownBy_refl _ _⟩
  · cases hv
    subst hn
    refine (Tryd.slices_Compact_string g 0 c ss w (holds_of_block hh (by rw [Nat.mul_one] at h4; exact h4)) (by omega) h1).mono ?_
    rintro e w' ⟨rfl, m, rfl⟩
    have hle := Lib.compact_length_le ss
    have e2 := own_cut (ownsRow_sorted (os := #[]) (n := m) (ss := ss) (ts := Lib.compact ss ++ List.replicate (ss.length - (Lib.compact ss).length) []) (by simp; omega) hg hh h1 h2 h3) hle
    have e3 : (strCells (Lib.compact ss ++ List.replicate (ss.length - (Lib.compact ss).length) [])).take (Lib.compact ss).length = strCells (Lib.compact ss) := by
      rw [strCells, List.map_append, List.take_append_of_le_length (by simp), List.take_of_length_le (by simp)]; rfl
    rw [Sort.grow_empty] at e2
    refine ⟨rfl, by rw [← e3]; exact e2, ?_⟩
    have := grownBy_sorted (w := w) (g := g) (n := m) (os := #[]) (Lib.compact ss ++ List.replicate (ss.length - (Lib.compact ss).length) []).toArray
    rw [Sort.grow_empty] at this
    exact this

/-- What Build refuses. -/
def tooBig (V : List Wd) : Bool := decide (20000 < V.length) || V.any isLong

/-- An automaton at block B. -/
def AutoAt (w : World) (base B : Nat) (start : Int) (sts : List DSt) : Prop := ∃ M lv, Bd w (fun _ => False) B M base lv start sts

def BuildRes (ss : List Wd) (w : World) (e : Ending) (w' : World) : Prop :=
  Below w.heap.size w w' ∧ if tooBig (canon ss) then e = .returned (.tuple #[.pointer none, .int .i64 3]) else
    ∃ B, e = .returned (.tuple #[.pointer (some ⟨B, 0, none⟩), .int .i64 0]) ∧ w.heap.size ≤ B ∧ AutoAt w' w.heap.size B (buildS 201 (canon ss) []).1 (buildS 201 (canon ss) []).2

theorem own_slice {w : World} {base : Nat} {e : TypeId} {size n : Nat} {v : Value} {xs : List Value} (h : w.ownsRow base e size v n xs) : ∃ A c, v = .slice A n c := by
  rcases h.2 with ⟨rfl, h0⟩ | ⟨g, cap, _, hv, _⟩
  · exact ⟨none, 0, by rw [h0]⟩
  · exact ⟨_, _, hv⟩

theorem tot_le {V : List Wd} {m : Nat} (h : ∀ x ∈ V, x.length ≤ m) : tot V ≤ V.length * m := by
  induction V with
  | nil => simp [tot]
  | cons v V ih =>
    have h1 := ih (fun x hx => h x (by simp [hx]))
    have h2 := h v (by simp)
    rw [tot_cons, List.length_cons, Nat.add_mul]; omega

/-- The beginning's number set. -/
theorem Bd.start {w : World} {Y : Nat → Prop} {B M base : Nat} {lv : Value} {start : Int} {sts : List DSt} (h : Bd w Y B M base lv start sts) (s : Int) : Bd (w.setCell ⟨B, 1, none⟩ (.int .i64 s)) Y B M base lv s sts := by
  obtain ⟨vs, h1, h2⟩ := h.vs
  have g := grownBy_setCell (grownBy_refl w (some B)) B 1 (.int .i64 s) (.inl rfl)
  exact ⟨heap_setCell h.hb 1 _, ⟨vs, ownsRow_setCell h1 h.lB _ _, h2.kept g (fun k hk => .inl (.inl (by cases hk; rfl)))⟩, h.lB, h.bB, h.bM, h.map.kept g (by intro e; cases e; exact h.ne.1 rfl), h.small, h.few, h.nodup⟩

theorem drop0 (V : List Wd) : V.map (List.drop 0) = V := by
  rw [show (List.drop 0 : Wd → Wd) = id from rfl, List.map_id]

theorem short_of {V : List Wd} (h : tooBig V = false) : V.length ≤ 20000 ∧ ∀ x ∈ V, x.length ≤ 200 := by
  unfold tooBig at h
  rw [Bool.or_eq_false_iff] at h
  refine ⟨by have := of_decide_eq_false h.1; omega, fun x hx => ?_⟩
  have := List.any_eq_false.1 h.2 x hx
  unfold isLong at this
  simp at this; omega

set_option maxRecDepth 100000 in
set_option maxHeartbeats 1000000 in
theorem build_walk (ss : List Wd) (A : Option Addr) (n c : Nat) (w : World) (h : WordsAt w (fun _ => False) A n c ss) : Calls Tryd.prog 10 #[.slice A n c] w (BuildRes ss w) := by
  have H := Lib.hid h
  have hnb := h.2.2.1
  have HN := Lib.hid h.1
  clear h
  go_enter Tryd.func10, Tryd.ntmps10
  go_wp2_with fail
  refine (clone_walk ss A n c w H.out).mono ?_
  rintro e w1 ⟨v1, rfl, ho1, hg1⟩
  obtain ⟨A1, c1, rfl⟩ := own_slice ho1
  have hs1 := hg1.size
  go_wp2_with fail
  refine (sort_walk w.heap.size ss A1 n c1 w1 HN.out hnb ho1).mono ?_
  rintro e w2 ⟨rfl, ho2, hg2⟩
  have hb2 : Below w.heap.size w w2 := hg1.grown hg2 hg1.size (fun k hk => (ho1.lt k hk).1)
  go_wp2_with fail
  refine (compact_walk w.heap.size (sortW ss) A1 n c1 w2 (by rw [sortW_len, HN.out]) hnb ho2).mono ?_
  rintro e w3 ⟨rfl, ho3, hg3⟩
  have hb3 : Below w.heap.size w w3 := hb2.grown hg3 hb2.size (fun k hk => (ho2.lt k hk).1)
  change w3.ownsRow w.heap.size _ 1 (.slice A1 (canon ss).length c1) (canon ss).length (strCells (canon ss)) at ho3
  have hlen : (canon ss).length ≤ n := by rw [← HN.out, ← sortW_len ss]; exact Lib.compact_length_le _
  have hw3 : WordsAt w3 (fun _ => False) A1 (canon ss).length c1 (canon ss) := ⟨rfl, by
    rcases ho3.2 with ⟨e, h0⟩ | ⟨g, cap, _, hv, _, _, h1, _⟩
    · omega
    · cases hv; exact h1, by omega, Sl.of_own ho3 (by intro x hx; simp only [strCells, List.mem_map] at hx; obtain ⟨_, _, rfl⟩ := hx; rfl), fun _ h => h.elim⟩
  have ec : Lib.compact (sortW ss) = canon ss := rfl
  have HO3 := Lib.hid ho3
  have HW3 := Lib.hid hw3
  rw [ec]
  clear ho1 ho2 ho3 hg1 hg2 hg3 hb2 hw3 ec
  generalize hV : canon ss = V at *
  go_upto_region 4 with (fail)
  go_cut [17] (fun s wx => s = .bool (tooBig V) ∧ wx = w3)
  case first =>
    by_cases hv : 20000 < V.length
    · go_wp2_with fail
      go_meet
      exact ⟨by simp [tooBig, hv], rfl⟩
    · go_wp2_with fail
      refine (contains_walk V A1 V.length c1 w3 HW3.out).mono ?_
      rintro e w4 ⟨rfl, rfl⟩
      go_wp2_with fail
      go_meet
      exact ⟨by simp [tooBig, hv]; intro hh; omega, rfl⟩
  case rest =>
    obtain ⟨rfl, rfl⟩ := hcut
    cases hbig : tooBig V
    · have hmk : ∀ u : World, (Instr.makeMap 49 none).run Tryd.prog u = .ok (.map (some u.heap.size)) (u.alloc (.map #[] 0)) := fun _ => rfl
      obtain ⟨hsh1, hsh2⟩ := short_of hbig
      have hwc : w.heap.size ≤ wc.heap.size := hb3.size
      generalize hwB : (wc.alloc (.map #[] 0)).alloc (.cells #[.slice none 0 0, .int .i64 0, .map (some wc.heap.size)] 54) = wB
      have hgB : wc.grownBy wB none := by rw [← hwB]; exact grownBy_alloc (World.grownBy_alloc _ _ _) _
      have hzB : wB.heap.size = wc.heap.size + 2 := by rw [← hwB]; simp
      have hbd : Bd wB (fun _ => False) (wc.heap.size + 1) wc.heap.size w.heap.size (.slice none 0 0) 0 [] := by
        refine ⟨?_, ⟨[], World.ownsRow_nil _ _ _ _, rfl, by simp⟩, by simp [Value.ownBlock], by omega, by omega, ?_, by simp, by simp, by simp⟩
        · rw [← hwB]
          have := heap_alloc_new (wc.alloc (.map #[] 0)) (.cells #[.slice none 0 0, .int .i64 0, .map (some wc.heap.size)] 54 (0, 0))
          rw [World.size_alloc] at this
          exact this
        · rw [← hwB]
          exact (MapIs.new wc).kept (World.grownBy_alloc _ _ none) nofun
      have hcall := state_walk 201 (fun _ => False) (wc.heap.size + 1) wc.heap.size w.heap.size (.slice none 0 0) 0 [] V 0 A1 V.length c1 wB hbd ⟨rfl, HW3.out.2.1, HW3.out.2.2.1, HW3.out.2.2.2.1.kept hgB nofun, by
          rintro k (h | h | h)
          · exact HW3.out.2.2.2.1.off_new (by decide) (by omega)
          · exact HW3.out.2.2.2.1.off_new (by decide) (by omega)
          · simp [Value.ownBlock] at h⟩ (fun _ h => h.elim) (fun x hx => ⟨Nat.zero_le _, by have := hsh2 x hx; omega⟩) (by rw [drop0, ← hV]; exact canon_rise ss) (by decide) (by decide) (by
          have := tot_le hsh2
          have e0 := drop0 V
          rw [e0]; simp only [List.length_nil]; omega) 0 rfl
      have e0 := drop0 V
      rw [e0] at hcall
      have HC := Lib.hid hcall
      clear hcall
      have hbB : Below w.heap.size w wB := hb3.grown hgB hwc nofun
      go_wp2_with fail
      refine HC.out.mono ?_
      rintro e w5 ⟨rfl, lv, hbd5, hk5, hl5⟩
      have ct5 := cell_of_heap hbd5.hb 1
      have zt5 := frozen_of_heap hbd5.hb 1
      have hfin : BuildRes ss w (.returned (.tuple #[.pointer (some ⟨wc.heap.size + 1, 0, none⟩), .int .i64 0])) (w5.setCell ⟨wc.heap.size + 1, 1, none⟩ (.int .i64 (buildS 201 V []).1)) := by
        have hb5 : Below w.heap.size w w5 := hbB.trans (hk5.below (by omega) (by
          rintro k (h | h | h) _
          · omega
          · omega
          · simp [Value.ownBlock] at h))
        refine ⟨hb5.setCell (by show _ ≤ wc.heap.size + 1; omega) _, ?_⟩
        rw [hV, hbig]
        exact ⟨_, rfl, by omega, _, _, hbd5.start _⟩
      have HF := Lib.hid hfin
      clear hfin hbd5
      go_wp2_with fail
      go_ret2
      exact HF.out
    · go_wp2_with fail
      go_ret2
      refine ⟨hb3, ?_⟩
      rw [hV, hbig]; rfl
end Go.Proofs.YtdcdhcgfhapbnaaDoor

namespace Go.Proofs.YtdcdhcgfhapbnaaDoor
open Go Go.RowKit Go.Maps

theorem str_info : (Tryd.prog.info? 9).map (fun i => (i.zero, i.size, i.bytes)) = some (some (.string ⟨#[]⟩), 1, 16) := by kernel_rfl

theorem str_eq {s t : Wd} : ((⟨s.toArray⟩ : ByteArray) = ⟨t.toArray⟩) ↔ s = t := by
  constructor
  · intro h
    have := congrArg ByteArray.data h
    simpa using this
  · rintro rfl; rfl

theorem ext_take (x : Wd) (k : Nat) : (⟨x.toArray⟩ : ByteArray).extract 0 k = ⟨(x.take k).toArray⟩ := by
  apply ByteArray.ext
  simp [ByteArray.data_extract]

theorem Sl.str {w : World} {A : Option Addr} {n : Nat} {ss : List Wd} (h : Sl w 1 A n (strCells ss)) {k : Nat} {s : Wd} (hs : ss[k]? = some s) : ∃ q o, A = some ⟨q, o, none⟩ ∧ w.cell? ⟨q, o + k, none⟩ = some (.string ⟨s.toArray⟩) := by
  have hk := (List.getElem?_eq_some_iff.1 hs).1
  have hl := h.1
  obtain ⟨q, o, rfl, hc⟩ := h.2.2 (by simp [strCells] at hl; omega)
  exact ⟨q, o, rfl, hc k _ (by rw [strCells, List.getElem?_map, hs]; rfl)⟩

theorem strCells_one' (ss : List Wd) : ∀ x ∈ strCells ss, x.oneCell' = true := by
  intro x hx
  simp only [strCells, List.mem_map] at hx
  obtain ⟨_, _, rfl⟩ := hx
  rfl

end Go.Proofs.YtdcdhcgfhapbnaaDoor
