/-
  Package dawg: an automaton read: at, States, Start, Final, Next. No conditions beyond the automaton's.
-/
import Derived.Test.YtdcdhcgfhapbnaaDoorStrs
namespace Go.Proofs.YtdcdhcgfhapbnaaDoor
open Go Go.RowKit Go.Maps

/-- The state of a number; none of no such number. -/
def stAt (sts : List DSt) (i : Int) : DSt := if i < 0 then (false, []) else (sts[i.toNat]?).getD (false, [])

theorem stAt_in {sts : List DSt} {i : Nat} {s : DSt} (h : sts[i]? = some s) : stAt sts (i : Int) = s := by
  unfold stAt; rw [if_neg (by omega), Int.toNat_natCast, h]; rfl

theorem stAt_out {sts : List DSt} {i : Int} (h : i < 0 ∨ (sts.length : Int) ≤ i) : stAt sts i = (false, []) := by
  unfold stAt
  split
  · rfl
  · rw [List.getElem?_eq_none (by omega)]; rfl

theorem Bd.cells {w : World} {Y : Nat → Prop} {B M base : Nat} {lv : Value} {start : Int} {sts : List DSt} (h : Bd w Y B M base lv start sts) {i : Nat} {s : DSt} (hs : sts[i]? = some s) :
    ∃ q A n c lc, lv = .slice (some ⟨q, 0, none⟩) sts.length lc ∧ w.cell? ⟨q, i * 2, none⟩ = some (.bool s.1) ∧ w.cell? ⟨q, i * 2 + 1, none⟩ = some (.slice A n c) ∧ s.2.length = n ∧ Sl w 2 A n (edgeCells s.2) := by
  obtain ⟨vs, h1, h2⟩ := h.vs
  have hi := (List.getElem?_eq_some_iff.1 hs).1
  obtain ⟨q, lc, rfl, _⟩ := own_form h1 (by omega)
  obtain ⟨A, n, c, e1, e2, e3, e4, _⟩ := h2.2 i s hs
  have hone : ∀ x ∈ vs, x.oneCell' = true := by
    intro x hx
    obtain ⟨j, hj, rfl⟩ := List.getElem_of_mem hx
    have hl := h2.1
    obtain ⟨t, ht⟩ : ∃ t, sts[j / 2]? = some t := ⟨_, List.getElem?_eq_getElem (by omega)⟩
    obtain ⟨A', n', c', f1, f2, _⟩ := h2.2 _ _ ht
    rcases Nat.mod_two_eq_zero_or_one j with h0 | h0
    · have : vs[j]? = some (.bool t.1) := by rw [← f1]; congr 1; omega
      rw [List.getElem?_eq_getElem hj] at this; rw [Option.some.inj this]; rfl
    · have : vs[j]? = some (.slice A' n' c') := by rw [← f2]; congr 1; omega
      rw [List.getElem?_eq_getElem hj] at this; rw [Option.some.inj this]; rfl
  obtain ⟨b, o, eb, hc⟩ := (Sl.of_own h1 hone).2.2 (by omega)
  cases eb
  exact ⟨q, A, n, c, lc, rfl, by have := hc _ _ e1; rwa [Nat.zero_add] at this, by have := hc _ _ e2; rwa [Nat.zero_add] at this, e3, e4⟩

theorem results_cell1 {fn : Func} {p : Tmp} {ty : TypeId} (h : fn.results = #[.cell p ty]) {tmps : Array Value} {P : Program} {w : World} {a : Addr} {v : Value} (hp : tmps.getD p undef = .pointer (some a)) (hv : (loadVar ty a).run P w = .ok v w) : (results fn tmps).run P w = .ok v w := by
  have hp' : tmps[p]?.getD undef = .pointer (some a) := by rw [← hp]; simp [Array.getD_eq_getD_getElem?]
  simp only [results, h]
  simp [Sem.run_bind, hp', asAddr, hv, Result.andThen]

theorem load_state (w : World) (f : Bool) (A : Option Addr) (n c : Nat) : (loadVar 81 ⟨w.heap.size, 0, none⟩).run Tryd.prog (w.alloc (.cells #[.bool f, .slice A n c] 81)) = .ok (.agg #[.bool f, .slice A n c]) (w.alloc (.cells #[.bool f, .slice A n c] 81)) := by
  have c0 := cell_of_heap (heap_alloc_new w (.cells #[.bool f, .slice A n c] 81 (0, 0))) 0
  have c1 := cell_of_heap (heap_alloc_new w (.cells #[.bool f, .slice A n c] 81 (0, 0))) 1
  go_simp

theorem field0 (u : World) (f : Bool) (A : Option Addr) (n c : Nat) : (Instr.field 81 (.agg #[.bool f, .slice A n c]) 0).run Tryd.prog u = .ok (.bool f) u := by
  simp [Instr.field, asAgg, part, Result.andThen]
theorem field1 (u : World) (f : Bool) (A : Option Addr) (n c : Nat) : (Instr.field 81 (.agg #[.bool f, .slice A n c]) 1).run Tryd.prog u = .ok (.slice A n c) u := by
  simp [Instr.field, asAgg, part, Result.andThen]

def StRes (sts : List DSt) (i : Int) (w : World) (e : Ending) (w' : World) : Prop :=
  ∃ A n c, e = .returned (.agg #[.bool (stAt sts i).1, .slice A n c]) ∧ (stAt sts i).2.length = n ∧ Sl w' 2 A n (edgeCells (stAt sts i).2) ∧ w.grownBy w' none

set_option maxRecDepth 100000 in
set_option maxHeartbeats 1000000 in
theorem at_walk (Y : Nat → Prop) (B M base : Nat) (lv : Value) (start : Int) (sts : List DSt) (i : Int) (w : World) (h : Bd w Y B M base lv start sts) :
    Calls Tryd.prog 90 #[.pointer (some ⟨B, 0, none⟩), .int .i64 i] w (StRes sts i w) := by
  obtain ⟨LA, lc, rfl⟩ := h.form
  have hal := World.grownBy_alloc w (.cells #[.bool false, .slice none 0 0] 81) none
  have c0 := hal.cell (a := ⟨B, 0, none⟩) (v := .slice LA sts.length lc) (cell_of_heap h.hb 0) nofun
  have hsl := h.few
  have H := Lib.hid h
  clear h
  go_enter Tryd.func90, Tryd.ntmps90
  rcases (show i < 0 ∨ 0 ≤ i by omega) with hneg | hpos
  · have hs := stAt_out (sts := sts) (.inl hneg)
    go_wp2_with fail
    refine bodyPost_ret (results_cell1 rfl rfl (load_state _ _ _ _ _)) rfl ?_
    exact ⟨none, 0, 0, by rw [hs], by rw [hs]; rfl, by rw [hs]; exact Sl.nil _ _ _, hal⟩
  · obtain ⟨k, rfl⟩ : ∃ k : Nat, i = k := ⟨i.toNat, by omega⟩
    rcases Nat.lt_or_ge k sts.length with hlt | hge
    · obtain ⟨s, hs⟩ : ∃ s, sts[k]? = some s := ⟨_, List.getElem?_eq_getElem hlt⟩
      obtain ⟨q, A, n, c, lc', e1, e2, e3, e4, e5⟩ := H.out.cells hs
      cases e1
      have d0 := hal.cell e2 nofun
      have d1 := hal.cell e3 nofun
      go_wp2_with fail
      refine bodyPost_ret (results_cell1 rfl rfl (load_state _ _ _ _ _)) rfl ?_
      have es := stAt_in hs
      exact ⟨A, n, c, by rw [es], by rw [es]; exact e4, by rw [es]; exact e5.kept (World.grownBy_alloc _ _ none) nofun, World.grownBy_alloc _ _ _⟩
    · have hs := stAt_out (sts := sts) (i := k) (.inr (by omega))
      go_wp2_with fail
      refine bodyPost_ret (results_cell1 rfl rfl (load_state _ _ _ _ _)) rfl ?_
      exact ⟨none, 0, 0, by rw [hs], by rw [hs]; rfl, by rw [hs]; exact Sl.nil _ _ _, hal⟩

theorem start_walk (Y : Nat → Prop) (B M base : Nat) (lv : Value) (start : Int) (sts : List DSt) (w : World) (h : Bd w Y B M base lv start sts) :
    Calls Tryd.prog 73 #[.pointer (some ⟨B, 0, none⟩)] w fun e w' => e = .returned (.int .i64 start) ∧ w' = w := by
  have c0 : w.cell? ⟨B, 1, none⟩ = some (.int .i64 start) := cell_of_heap h.hb 1
  clear h
  go_enter Tryd.func73, Tryd.ntmps73
  go_wp2_with fail
  go_ret
  exact ⟨rfl, rfl⟩

set_option maxRecDepth 100000 in
theorem final_walk (Y : Nat → Prop) (B M base : Nat) (lv : Value) (start : Int) (sts : List DSt) (i : Int) (w : World) (h : Bd w Y B M base lv start sts) :
    Calls Tryd.prog 67 #[.pointer (some ⟨B, 0, none⟩), .int .i64 i] w fun e w' => e = .returned (.bool (stAt sts i).1) ∧ w.grownBy w' none := by
  have H := Lib.hid h
  clear h
  go_enter Tryd.func67, Tryd.ntmps67
  go_wp2_with fail
  refine (at_walk Y B M base lv start sts i w H.out).mono ?_
  rintro e w1 ⟨A, n, c, rfl, hn, hs, hg⟩
  have hf0 := field0 w1 (stAt sts i).1 A n c
  go_wp2_with fail
  go_ret
  exact ⟨rfl, hg⟩

/-- Where a byte leads. -/
def nextS (sts : List DSt) (i : Int) (c : UInt8) : Option Nat := ((stAt sts i).2.find? (fun e => e.1 == c)).map (·.2)

def NextRes (sts : List DSt) (i : Int) (b : UInt8) (w : World) (e : Ending) (w' : World) : Prop :=
  e = .returned (.tuple #[.int .i64 ((nextS sts i b).getD 0), .bool (nextS sts i b).isSome]) ∧ w.grownBy w' none

theorem find_take {es : List DEdge} {k : Nat} {e : DEdge} {b : UInt8} (h : es[k]? = some e) (hk : ∀ x ∈ es.take k, x.1 ≠ b) : (e.1 = b → es.find? (fun e => e.1 == b) = some e) ∧ (e.1 ≠ b → ∀ x ∈ es.take (k + 1), x.1 ≠ b) := by
  constructor
  · intro he
    have hl := (List.getElem?_eq_some_iff.1 h)
    obtain ⟨hl, hg⟩ := hl
    rw [← List.take_append_drop k es, List.find?_append, List.find?_eq_none.2 (fun x hx => by simpa using hk x hx), List.drop_eq_getElem_cons hl, hg]
    simp [he]
  · intro he x hx
    rw [List.take_add_one, h] at hx
    rcases List.mem_append.1 hx with hx | hx
    · exact hk x hx
    · simp at hx; subst hx; exact he

set_option maxRecDepth 100000 in
set_option maxHeartbeats 1000000 in
theorem next_walk (Y : Nat → Prop) (B M base : Nat) (lv : Value) (start : Int) (sts : List DSt) (i : Int) (b : UInt8) (w : World) (h : Bd w Y B M base lv start sts) :
    Calls Tryd.prog 69 #[.pointer (some ⟨B, 0, none⟩), .int .i64 i, .int .u8 b.toNat] w (NextRes sts i b w) := by
  have hsm : (stAt sts i).2.length ≤ 256 := by
    unfold stAt
    split
    · simp
    · rcases hh : sts[i.toNat]? with _ | s
      · simp
      · exact (h.small s (List.mem_of_getElem? hh)).1
  have H := Lib.hid h
  clear h
  go_enter Tryd.func69, Tryd.ntmps69
  go_wp2_with fail
  refine (at_walk Y B M base lv start sts i w H.out).mono ?_
  rintro e w1 ⟨A, n, c, rfl, hn, hs, hg⟩
  have HS := Lib.hid hs
  have HN := Lib.hid hn
  generalize hes : (stAt sts i).2 = es at *
  have HES := Lib.hid hes
  clear hes
  have hn2 : n ≤ 256 := by have := HN.out; omega
  clear hs hn
  have hf1 := field1 w1 (stAt sts i).1 A n c
  go_wp2_with fail
  go_loopw [15] (fun j wr => ∃ k : Nat, k ≤ n ∧ j = .int .i64 k ∧ w1.grownBy wr none ∧ ∀ x ∈ es.take k, x.1 ≠ b) (fun j _ => n - (intOf j).toNat)
  case atStart => exact ⟨0, Nat.zero_le _, rfl, grownBy_refl _ _, by simp⟩
  case round =>
    obtain ⟨k, hk, rfl, hgr, hno⟩ := hrel
    rcases Nat.lt_or_ge k n with hlt | hge
    · obtain ⟨e0, he0⟩ : ∃ e0, es[k]? = some e0 := ⟨_, List.getElem?_eq_getElem (by have := HN.out; omega)⟩
      obtain ⟨q, o, rfl, hc⟩ := (HS.out.kept hgr nofun).2.2 (by omega)
      obtain ⟨g0, g1⟩ := edgeCells_get he0
      have x0 := hc _ _ g0
      have x1 := hc _ _ g1
      rw [← Nat.add_assoc] at x1
      obtain ⟨f1, f2⟩ := find_take he0 hno
      clear hc g0 g1
      by_cases hb : e0.1 = b
      · have hf := f1 hb
        have hbt : e0.1.toNat = b.toNat := by rw [hb]
        go_wp2_with fail
        go_ret2
        have hnx : nextS sts i b = some e0.2 := by unfold nextS; rw [HES.out, hf]; rfl
        rw [NextRes, hnx]
        exact ⟨rfl, grownBy_trans hg (grownBy_alloc hgr _) nofun⟩
      · have hf := f2 hb
        have hbt : e0.1.toNat ≠ b.toNat := fun e => hb (UInt8.toNat_inj.1 e)
        go_wp2_with fail
        go_roundw
        case rel => exact ⟨k + 1, by omega, by go_num, grownBy_alloc hgr _, hf⟩
        case measure => simp [intOf]; omega
    · obtain rfl : k = n := by omega
      have hf : es.find? (fun e => e.1 == b) = none := List.find?_eq_none.2 (fun x hx => by
        have := hno x (by rw [List.take_of_length_le (by have := HN.out; omega)]; exact hx)
        simpa using this)
      go_wp2_with fail
      go_ret2
      have hnx : nextS sts i b = none := by unfold nextS; rw [HES.out, hf]; rfl
      rw [NextRes, hnx]
      exact ⟨rfl, grownBy_trans hg hgr nofun⟩
end Go.Proofs.YtdcdhcgfhapbnaaDoor
