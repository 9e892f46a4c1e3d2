/-
  ref01.All, ref01.Codes: the units of a text, their codes: the walks. Conditions: a text of at most a million bytes.
-/
import Derived.Test.YtdcdhcgfhapbnaaDoorRefOne
import Derived.Test.YtdcdhcgfhapbnaaDoorWalkR
namespace Go.Proofs.YtdcdhcgfhapbnaaDoor
open Go Go.RowKit Go.Lib

/-- The units of a text, from a place on. -/
def unitsG : Nat → Wd → Nat → List (Nat × Nat × Int)
  | _, [], _ => []
  | 0, _ :: _, _ => []
  | f + 1, b :: t, i => (i, lenB (b :: t), codeB (b :: t)) :: unitsG f ((b :: t).drop (lenB (b :: t))) (i + lenB (b :: t))

def unitsB (s : Wd) : List (Nat × Nat × Int) := unitsG s.length s 0

def unCells (l : List (Nat × Nat × Int)) : List Value := l.flatMap fun u => [Value.int .i64 (u.1 : Int), Value.int .i64 (u.2.1 : Int), Value.int .i64 u.2.2]

theorem lenB_pos {t : Wd} (h : t ≠ []) : 1 ≤ lenB t ∧ lenB t ≤ t.length := by
  have hl : 1 ≤ t.length := by rcases Nat.eq_zero_or_pos t.length with h0 | h0; exact absurd (List.eq_nil_of_length_eq_zero h0) h; exact h0
  unfold lenB
  split
  · exact ⟨Nat.le_refl _, hl⟩
  · rename_i h0
    have := unit_len h
    exact ⟨this.1, this.2 (by omega)⟩

theorem unitsG_fuel : ∀ (f g : Nat) (t : Wd) (i : Nat), t.length ≤ f → t.length ≤ g → unitsG f t i = unitsG g t i
  | 0, g, [], _, _, _ => by cases g <;> rfl
  | 0, _, _ :: _, _, h, _ => by simp at h
  | f + 1, 0, [], _, _, _ => rfl
  | f + 1, g + 1, [], _, _, _ => rfl
  | f + 1, 0, _ :: _, _, _, h => by simp at h
  | f + 1, g + 1, b :: t, i, hf, hg => by
    have h1 := (lenB_pos (t := b :: t) (by simp)).1
    simp only [List.length_cons] at hf hg
    have hl : ((b :: t).drop (lenB (b :: t))).length ≤ t.length := by rw [List.length_drop, List.length_cons]; omega
    unfold unitsG
    rw [unitsG_fuel f g _ _ (by omega) (by omega)]

/-- The units from a place on. -/
def unitsFrom (s : Wd) (i : Nat) : List (Nat × Nat × Int) := unitsG (s.drop i).length (s.drop i) i

theorem unitsFrom_step {s : Wd} {i : Nat} (h : i < s.length) : unitsFrom s i = (i, lenB (s.drop i), codeB (s.drop i)) :: unitsFrom s (i + lenB (s.drop i)) := by
  unfold unitsFrom
  have hd : s.drop i ≠ [] := by intro e; have := congrArg List.length e; rw [List.length_drop] at this; simp at this; omega
  have hp := lenB_pos hd
  have e1 : s.drop (i + lenB (s.drop i)) = (s.drop i).drop (lenB (s.drop i)) := by rw [List.drop_drop]
  rw [e1]
  match hm : s.drop i, hd with
  | b :: t, hd =>
    rw [hm] at hp
    have e0 : unitsG (t.length + 1) (b :: t) i = (i, lenB (b :: t), codeB (b :: t)) :: unitsG t.length ((b :: t).drop (lenB (b :: t))) (i + lenB (b :: t)) := rfl
    show unitsG (t.length + 1) (b :: t) i = _
    rw [e0]
    have hl : ((b :: t).drop (lenB (b :: t))).length ≤ t.length := by rw [List.length_drop, List.length_cons]; omega
    rw [unitsG_fuel t.length _ _ _ hl (Nat.le_refl _)]

theorem unitsFrom_end {s : Wd} : unitsFrom s s.length = [] := by
  unfold unitsFrom
  rw [List.drop_length]; rfl

theorem unitsG_len : ∀ (f : Nat) (t : Wd) (i : Nat), (unitsG f t i).length ≤ t.length
  | _, [], _ => by unfold unitsG; simp
  | 0, _ :: _, _ => by unfold unitsG; simp
  | f + 1, b :: t, i => by
    unfold unitsG
    have h1 := lenB_pos (t := b :: t) (by simp)
    have h2 := unitsG_len f ((b :: t).drop (lenB (b :: t))) (i + lenB (b :: t))
    rw [List.length_drop] at h2
    rw [List.length_cons]
    omega

theorem codesF_units : ∀ (f : Nat) (t : Wd) (i : Nat), t.length ≤ f → codesF f t = if (unitsG f t i).all (fun u => decide (0 ≤ u.2.2)) = true then some ((unitsG f t i).map (·.2.2)) else none
  | 0, [], _, _ => rfl
  | f + 1, [], _, _ => rfl
  | 0, _ :: _, _, h => by simp at h
  | f + 1, b :: t, i, hl => by
    unfold codesF unitsG
    have h1 := unit_len (s := b :: t) (by simp)
    rw [List.all_cons]
    by_cases h0 : codeB (b :: t) < 0
    · rw [if_pos h0]
      simp only
      rw [decide_eq_false (by omega)]; simp
    · rw [if_neg h0]
      have e : lenB (b :: t) = (decB (b :: t)).2 := by unfold lenB; rw [if_neg h0]
      simp only
      rw [decide_eq_true (by omega), Bool.true_and, e]
      simp only [List.length_cons] at hl
      rw [codesF_units f ((b :: t).drop (decB (b :: t)).2) (i + (decB (b :: t)).2) (by rw [List.length_drop, List.length_cons]; omega)]
      split <;> simp

theorem codesB_units (s : Wd) : codesB s = if (unitsB s).all (fun u => decide (0 ≤ u.2.2)) = true then some ((unitsB s).map (·.2.2)) else none := codesF_units s.length s 0 (Nat.le_refl _)

theorem unit_info : (Tryd.prog.info? 96).map (fun i => (i.zero, i.size, i.bytes)) = some (some (.agg #[.int .i64 0, .int .i64 0, .int .i64 0]), 3, 24) := by kernel_rfl

/-- What All answers. -/
def AllRes (s : Wd) (w : World) (e : Ending) (w' : World) : Prop :=
  ∃ v, e = .returned v ∧ w'.ownsRow w.heap.size 96 3 v (unitsB s).length (unCells (unitsB s)) ∧ w.grownBy w' none

def AllRel (s : Wd) (w : World) (lv iv : Value) (wr : World) : Prop :=
  ∃ (i : Nat) (acc : List (Nat × Nat × Int)), i ≤ s.length ∧ iv = .int .i64 (i : Int) ∧ acc ++ unitsFrom s i = unitsB s ∧ wr.ownsRow w.heap.size 96 3 lv acc.length (unCells acc) ∧ w.grownBy wr none

theorem unitsFrom_zero (s : Wd) : unitsFrom s 0 = unitsB s := by unfold unitsFrom unitsB; rw [List.drop_zero]

set_option maxRecDepth 100000 in
set_option maxHeartbeats 2000000 in
theorem all01_walk (s : Wd) (w : World) (hl : s.length ≤ 1000000) : Calls Tryd.prog 49 #[.string ⟨s.toArray⟩] w (AllRes s w) := by
  obtain ⟨i0, hi, hz0, hz1, hz2⟩ := info_parts unit_info
  have hsz := size_wd s
  obtain ⟨L, hL⟩ : ∃ L, s.length = L := ⟨_, rfl⟩
  rw [hL] at hsz hl
  have HL := Lib.hid hL
  clear hL
  go_enter Tryd.func49, Tryd.ntmps49
  go_wp2_with fail
  go_loopw [3, 4] (fun lv iv wr => AllRel s w lv iv wr) (fun _ iv _ => L - (intOf iv).toNat)
  case atStart => exact ⟨0, [], Nat.zero_le _, rfl, by rw [List.nil_append, unitsFrom_zero], World.ownsRow_nil _ _ _ _, grownBy_refl _ _⟩
  case round =>
    obtain ⟨i, acc, hi2, rfl, hacc, hown, hg⟩ := hrel
    rw [HL.out] at hi2
    rcases Nat.lt_or_ge i L with hlt | hge
    · have hlti : (i : Int) < (L : Int) := by omega
      have HACC := Lib.hid hacc
      have HO := Lib.hid hown
      have HG := Lib.hid hg
      clear hacc hown hg
      go_wp2_with fail
      refine (one_walk s i wr (by rw [HL.out]; exact hlt) (by rw [HL.out]; exact hl)).mono ?_
      rintro e w1 ⟨rfl, hg1⟩
      have hd : s.drop i ≠ [] := by intro e; have := congrArg List.length e; rw [List.length_drop, HL.out] at this; simp at this; omega
      have hp := lenB_pos hd
      have hdl : (s.drop i).length = L - i := by rw [List.length_drop, HL.out]
      rw [hdl] at hp
      have hst := unitsFrom_step (s := s) (i := i) (by rw [HL.out]; exact hlt)
      obtain ⟨n, hn⟩ : ∃ n, lenB (s.drop i) = n := ⟨_, rfl⟩
      obtain ⟨c, hc⟩ : ∃ c, codeB (s.drop i) = c := ⟨_, rfl⟩
      rw [hn, hc] at hst
      rw [hn] at hp ⊢
      rw [hc]
      have hacl : acc.length ≤ L := by
        have h1 := congrArg List.length HACC.out
        rw [List.length_append] at h1
        have h2 : (unitsB s).length ≤ s.length := unitsG_len s.length s 0
        rw [HL.out] at h2
        omega
      have HST := Lib.hid hst
      have hga := World.grownBy_alloc w1 (.cells #[.int .i64 (i : Int), .int .i64 (n : Int), .int .i64 c] 96) none
      have hgb := World.grownBy_alloc (w1.alloc (.cells #[.int .i64 (i : Int), .int .i64 (n : Int), .int .i64 c] 96)) (.cells #[.int .i64 (i : Int), .int .i64 (n : Int), .int .i64 c] 96) none
      have hgab := grownBy_trans hg1 (grownBy_trans hga hgb nofun) nofun
      have hown2 := ownsRow_kept HO.out hgab (own_none _)
      have hsl := Sl.of_own (World.ownsRow_lit (base := 0) (size := 3) (e := 96) (w1.alloc (.cells #[.int .i64 (i : Int), .int .i64 (n : Int), .int .i64 c] 96)) #[.int .i64 (i : Int), .int .i64 (n : Int), .int .i64 c] 1 (Nat.zero_le _) (by decide) rfl) (by intro x hx; simp at hx; rcases hx with rfl | rfl | rfl <;> rfl)
      have hwr := HG.out.size
      have hw1 := hg1.size
      simp only [World.size_alloc] at hsl
      have HGAB := Lib.hid hgab
      have HO2 := Lib.hid hown2
      have HSL := Lib.hid hsl
      have HN := Lib.hid hn
      clear hg1 hga hgb hgab hown2 hsl hst hn hc
      go_wp2_with (at_builtin; refine wpList_append_sl _ rfl (.tmp 13) (.tmp 15) 93 rfl w.heap.size 96 i0 _ 3 24 Tryd.underlying93 hi hz0 hz1 hz2 rfl (by decide) _ acc.length _ rfl HO2.out (some ⟨w1.heap.size + 1, 0, none⟩) 1 1 [.int .i64 (i : Int), .int .i64 (n : Int), .int .i64 c] rfl HSL.out (by unfold maxLen; omega) (by omega) (by simp; omega) ?_)
      rintro v' w' ⟨hown', hg', hat⟩
      obtain ⟨q', c', rfl, _⟩ := own_form hown' (by omega)
      have hgw : w.grownBy w' none := grownBy_trans (grownBy_trans HG.out HGAB.out nofun) hg' (fun l hl => .inr (HO2.out.lt l hl).1)
      have hrest := HACC.out
      rw [HST.out] at hrest
      have hni : (i : Int) + (n : Int) ≤ (L : Int) := by omega
      have hnw : IntKind.i64.wrap ((i : Int) + (n : Int)) = (i : Int) + (n : Int) := by rw [IntKind.wrap_i64]; omega
      have hcell1 := grownBy_heap (World.grownBy_alloc (w1.alloc (.cells #[.int .i64 (i : Int), .int .i64 (n : Int), .int .i64 c] 96)) (.cells #[.int .i64 (i : Int), .int .i64 (n : Int), .int .i64 c] 96) none) (heap_alloc_new w1 (.cells #[.int .i64 (i : Int), .int .i64 (n : Int), .int .i64 c] 96 (0, 0))) nofun
      have hcell := grownBy_heap hg' hcell1 (by intro e; have := (HO.out.lt _ e).2; omega)
      clear hcell1
      have hc1 := cell_of_heap hcell 1
      clear hcell
      go_wp2_with fail
      go_roundw
      case rel =>
        refine ⟨i + n, acc ++ [(i, n, c)], by rw [HL.out]; omega, by go_num, by rw [List.append_assoc]; exact hrest, ?_, hgw⟩
        have e : unCells (acc ++ [(i, n, c)]) = unCells acc ++ [.int .i64 (i : Int), .int .i64 (n : Int), .int .i64 c] := by simp [unCells]
        rw [List.length_append, e]; exact hown'
      case measure => first | (simp [intOf]; done) | (simp [intOf]; omega)
    · obtain rfl : i = L := by omega
      rw [← HL.out, unitsFrom_end, List.append_nil] at hacc
      subst hacc
      obtain ⟨A, c, rfl⟩ := own_slice hown
      have HO := Lib.hid hown
      have HG := Lib.hid hg
      clear hown hg
      go_wp2_with fail
      go_ret
      exact ⟨_, rfl, HO.out, HG.out⟩
end Go.Proofs.YtdcdhcgfhapbnaaDoor

namespace Go.Proofs.YtdcdhcgfhapbnaaDoor
open Go Go.RowKit Go.Lib

theorem unit_cell {w : World} {base q n c : Nat} {l : List (Nat × Nat × Int)} (h : w.ownsRow base 96 3 (.slice (some ⟨q, 0, none⟩) n c) n (unCells l)) {i : Nat} {o : Nat × Nat × Int} (ho : l[i]? = some o) :
    w.cell? ⟨q, i * 3, none⟩ = some (.int .i64 (o.1 : Int)) ∧ w.cell? ⟨q, i * 3 + 1, none⟩ = some (.int .i64 (o.2.1 : Int)) ∧ w.cell? ⟨q, i * 3 + 2, none⟩ = some (.int .i64 o.2.2) := by
  have key : ∀ (l : List (Nat × Nat × Int)) (i : Nat), l[i]? = some o → (unCells l)[i * 3]? = some (.int .i64 (o.1 : Int)) ∧ (unCells l)[i * 3 + 1]? = some (.int .i64 (o.2.1 : Int)) ∧ (unCells l)[i * 3 + 2]? = some (.int .i64 o.2.2) := by
    intro l
    induction l with
    | nil => intro i h; simp at h
    | cons a t ih =>
      intro i h
      rcases i with _ | i
      · simp at h; subst h
        simp [unCells]
      · have := ih i (by simpa using h)
        rw [show (i + 1) * 3 = i * 3 + 1 + 1 + 1 by omega]
        simpa [unCells] using this
  obtain ⟨k1, k2, k3⟩ := key l i ho
  have g1 := h.cells (g := q) rfl _ _ k1
  have g2 := h.cells (g := q) rfl _ _ k2
  have g3 := h.cells (g := q) rfl _ _ k3
  rw [Addr.add_lit, Nat.zero_add] at g1 g2 g3
  exact ⟨g1, g2, g3⟩

/-- What Codes answers. -/
def CodesRes (s : Wd) (w : World) (e : Ending) (w' : World) : Prop :=
  w.grownBy w' none ∧ ((∃ cs A c, codesB s = some cs ∧ e = .returned (.tuple #[.slice A cs.length c, .bool true]) ∧ w'.ownsRow w.heap.size 3 1 (.slice A cs.length c) cs.length (intCells cs)) ∨
    (codesB s = none ∧ e = .returned (.tuple #[.slice none 0 0, .bool false])))

theorem codes_none {U : List (Nat × Nat × Int)} {s : Wd} (hU : unitsB s = U) {j : Nat} {u : Nat × Nat × Int} (hu : U[j]? = some u) (h : u.2.2 < 0) : codesB s = none := by
  rw [codesB_units, hU, if_neg]
  intro hall
  have := List.all_eq_true.1 hall u (List.mem_of_getElem? hu)
  have := of_decide_eq_true this
  omega

theorem codes_some {U : List (Nat × Nat × Int)} {s : Wd} (hU : unitsB s = U) (h : ∀ u ∈ U, 0 ≤ u.2.2) : codesB s = some (U.map (·.2.2)) := by
  rw [codesB_units, hU, if_pos]
  exact List.all_eq_true.2 fun u hu => decide_eq_true (h u hu)

set_option maxRecDepth 100000 in
set_option maxHeartbeats 2000000 in
theorem codes_walk (s : Wd) (w : World) (hl : s.length ≤ 1000000) : Calls Tryd.prog 34 #[.string ⟨s.toArray⟩] w (CodesRes s w) := by
  obtain ⟨i0, hi, hz0, hz1, hz2⟩ := info_parts int_info
  go_enter Tryd.func34, Tryd.ntmps34
  go_wp2_with fail
  refine (all01_walk s w hl).mono ?_
  rintro e w1 ⟨v, rfl, hown, hg1⟩
  obtain ⟨U, hU⟩ : ∃ U, unitsB s = U := ⟨_, rfl⟩
  have hUl : U.length ≤ 1000000 := by
    have h2 : (unitsB s).length ≤ s.length := unitsG_len s.length s 0
    rw [hU] at h2; omega
  rw [hU] at hown
  obtain ⟨A, ca, rfl⟩ := own_slice hown
  have HO := Lib.hid hown
  have HU := Lib.hid hU
  have HG1 := Lib.hid hg1
  clear hown hU hg1
  go_wp2_with fail
  go_loopw [4, 10] (fun lv iv wr => ∃ (j : Nat) (B : Option Addr) (c : Nat), j ≤ U.length ∧ iv = .int .i64 (j : Int) ∧ lv = .slice B j c ∧ wr.ownsRow w1.heap.size 3 1 (.slice B j c) j (intCells ((U.map (·.2.2)).take j)) ∧ (∀ u ∈ U.take j, 0 ≤ u.2.2) ∧ w1.grownBy wr none) (fun _ iv _ => U.length - (intOf iv).toNat)
  case atStart => exact ⟨0, none, 0, Nat.zero_le _, rfl, rfl, World.ownsRow_nil _ _ _ _, by simp, grownBy_refl _ _⟩
  case round =>
    obtain ⟨j, B, c, hj, rfl, rfl, hown, hall, hg⟩ := hrel
    have hsz1 := HG1.out.size
    rcases Nat.lt_or_ge j U.length with hlt | hge
    · obtain ⟨u, hu⟩ : ∃ u, U[j]? = some u := ⟨_, List.getElem?_eq_getElem hlt⟩
      have hou := ownsRow_kept HO.out hg (own_none _)
      obtain ⟨q2, c2, e2, _⟩ := own_form hou (by omega)
      cases e2
      obtain ⟨s0, s1, s2⟩ := unit_cell hou hu
      have hlti : (j : Int) < (U.length : Int) := by omega
      have hga := World.grownBy_alloc wr (.cells #[.int .i64 (u.1 : Int), .int .i64 (u.2.1 : Int), .int .i64 u.2.2] 96) none
      obtain ⟨cd, hcd⟩ : ∃ cd, u.2.2 = cd := ⟨_, rfl⟩
      rw [hcd] at s2 hga
      have HUU := Lib.hid hu
      have HALL := Lib.hid hall
      have HCD := Lib.hid hcd
      have HG := Lib.hid hg
      clear hu hall hcd hou
      rcases Int.lt_or_le cd 0 with hneg | hpos
      · have HN := Lib.hid (codes_none HU.out HUU.out (by rw [HCD.out]; exact hneg))
        have HGA := Lib.hid hga
        clear hga hown
        go_wp2_with fail
        go_ret2
        exact ⟨grownBy_trans HG1.out (grownBy_trans HG.out HGA.out nofun) nofun, .inr ⟨HN.out, rfl⟩⟩
      · have hgb := World.grownBy_alloc (wr.alloc (.cells #[.int .i64 (u.1 : Int), .int .i64 (u.2.1 : Int), .int .i64 cd] 96)) (.cells #[.int .i64 cd] 3) none
        have hgab := grownBy_trans hga hgb nofun
        have hown2 := ownsRow_kept hown hgab (own_none _)
        have hsl := Sl.of_own (World.ownsRow_lit (base := 0) (size := 1) (e := 3) (wr.alloc (.cells #[.int .i64 (u.1 : Int), .int .i64 (u.2.1 : Int), .int .i64 cd] 96)) #[.int .i64 cd] 1 (Nat.zero_le _) (by decide) rfl) (by intro x hx; simp at hx; subst hx; rfl)
        simp only [World.size_alloc] at hsl
        have hwr := HG.out.size
        have HGAB := Lib.hid hgab
        have HO2 := Lib.hid hown2
        have HSL := Lib.hid hsl
        clear hga hgb hgab hown2 hsl hown
        go_wp2_with (at_builtin; refine wpList_append_sl _ rfl (.tmp 17) (.tmp 20) 36 rfl w1.heap.size 3 i0 _ 1 8 Tryd.underlying36 hi hz0 hz1 hz2 rfl (by decide) (.slice B j c) j _ rfl HO2.out (some ⟨wr.heap.size + 1, 0, none⟩) 1 1 [.int .i64 cd] rfl HSL.out (by unfold maxLen; omega) (by omega) (by simp; omega) ?_)
        rintro v' w' ⟨hown', hg', hat⟩
        obtain ⟨q', c', rfl, _⟩ := own_form hown' (by omega)
        have hgw : w1.grownBy w' none := grownBy_trans (grownBy_trans HG.out HGAB.out nofun) hg' (fun l hl => .inr (HO2.out.lt l hl).1)
        go_wp2_with fail
        go_roundw
        case rel =>
          refine ⟨j + 1, some ⟨q', 0, none⟩, c', by omega, by go_num, rfl, ?_, fun x hx => ?_, hgw⟩
          · have e : intCells ((U.map (·.2.2)).take (j + 1)) = intCells ((U.map (·.2.2)).take j) ++ [.int .i64 cd] := by
              rw [List.take_add_one, List.getElem?_map, HUU.out, ← HCD.out]; simp [intCells]
            rw [e]; exact hown'
          · rw [List.take_add_one, HUU.out] at hx
            rcases List.mem_append.1 hx with hx | hx
            · exact HALL.out x hx
            · simp at hx; subst hx; rw [HCD.out]; exact hpos
        case measure => first | (simp [intOf]; done) | (simp [intOf]; omega)
    · obtain rfl : j = U.length := by omega
      rw [List.take_length] at hall
      rw [List.take_of_length_le (by simp)] at hown
      have hsome := codes_some HU.out hall
      have HS := Lib.hid hsome
      have HOWN := Lib.hid hown
      have HG := Lib.hid hg
      clear hsome hown hall hg
      go_wp2_with fail
      go_ret2
      refine ⟨grownBy_trans HG1.out HG.out nofun, .inl ⟨_, B, c, HS.out, by rw [List.length_map]; rfl, ?_⟩⟩
      have h := HOWN.out
      have h2 : w1.heap.size ≥ w.heap.size := hsz1
      rw [List.length_map]
      obtain ⟨a1, a2⟩ := h
      refine ⟨a1, ?_⟩
      rcases a2 with a2 | ⟨g, cap, cur, hv, hg, r⟩
      · exact .inl a2
      · exact .inr ⟨g, cap, cur, hv, by omega, r⟩
end Go.Proofs.YtdcdhcgfhapbnaaDoor
