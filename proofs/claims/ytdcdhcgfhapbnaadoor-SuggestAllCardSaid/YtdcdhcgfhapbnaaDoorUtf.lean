/-
  runes.At at a text's beginning; utf8.FullRuneInString: the walks. Conditions: unicode/utf8's two tables as they are laid.
-/
import Derived.Test.YtdcdhcgfhapbnaaDoorDawgL
import Derived.Lib.DecodeN
import Derived.Test.YtdcdhcgfhapbnaaDoorShelf
import Derived.Test.YtdcdhcgfhapbnaaDoorQuiet
import Derived.Deep.QuietTactic
import Derived.BigQuiet
namespace Go.Proofs.YtdcdhcgfhapbnaaDoor
open Go

/-- The unit that a text that is not empty begins with: its code point and its bytes. -/
def decB (s : Wd) : Nat × Nat := Lib.decodeN s.length (s.getD 0 0).toNat (s.getD 1 0).toNat (s.getD 2 0).toNat (s.getD 3 0).toNat

/-- Its code; below 0: a byte that is none. -/
def codeB (s : Wd) : Int := if decB s = (65533, 1) then -1 - ((s.getD 0 0).toNat : Int) else (decB s).1

/-- Does a text begin with a whole unit (or a wrong one)? -/
def fullB : Wd → Bool
  | [] => false
  | b0 :: t =>
    if Lib.firstT b0.toNat % 8 ≤ t.length + 1 then true
    else match t with
      | [] => false
      | b1 :: t2 =>
        if b1.toNat < Lib.accLo (Lib.firstT b0.toNat / 16) ∨ Lib.accHi (Lib.firstT b0.toNat / 16) < b1.toNat then true
        else match t2 with
          | [] => false
          | b2 :: _ => decide (b2.toNat < 128) || decide (191 < b2.toNat)

/-- Two codes that have changed places. -/
def turnS (codes : List Int) (last : Option (List Nat)) (before code : Int) (k d : Nat) : Nat :=
  match last with
  | none => d
  | some la => if 0 < k ∧ codes.getD (k - 1) 0 = code ∧ codes.getD k 0 = before then min d (la.getD (k - 1) 0 + 1) else d

/-- One number of a row. -/
def cellS (codes : List Int) (last : Option (List Nat)) (was : List Nat) (before code : Int) (left : Nat) (k : Nat) : Nat :=
  turnS codes last before code k (min (min (was.getD (k + 1) 0 + 1) (left + 1)) (was.getD k 0 + (if codes.getD k 0 = code then 0 else 1)))

theorem turnS_le {codes : List Int} {last : Option (List Nat)} {before code : Int} {k d : Nat} : turnS codes last before code k d ≤ d := by
  unfold turnS
  split
  · exact Nat.le_refl _
  · split
    · exact Nat.min_le_left _ _
    · exact Nat.le_refl _

/-- The first k + 1 numbers of a row. -/
def rowS (codes : List Int) (last : Option (List Nat)) (was : List Nat) (before code : Int) : Nat → List Nat
  | 0 => [was.getD 0 0 + 1]
  | k + 1 => rowS codes last was before code k ++ [cellS codes last was before code ((rowS codes last was before code k).getD k 0) k]

def leastS (row : List Nat) : Nat := row.foldl min (row.headD 0)

/-- What a walk has found. -/
structure Fi where
  l : List (Wd × Nat)
  steps : Nat

/-- The walk from a state on, behind a word. -/
def onS (sts : List DSt) (codes : List Int) (most : Nat) : Nat → Nat → Nat → Option (List Nat) → List Nat → Int → Wd → Fi → Fi
  | 0, _, _, _, _, _, _, f => f
  | fuel + 1, state, part, last, was, before, word, f =>
    (stAt sts state).2.foldl (fun g e =>
      let s := (word ++ [e.1]).drop (word.length - part)
      let g1 : Fi := ⟨g.l, g.steps + 1⟩
      if 0 ≤ codeB s then
        let row := rowS codes last was before (codeB s) codes.length
        if leastS row ≤ most then onS sts codes most fuel e.2 0 (some was) row (codeB s) (word ++ [e.1]) g1 else g1
      else if fullB s then g1
      else onS sts codes most fuel e.2 (part + 1) last was before (word ++ [e.1]) g1)
    (if part = 0 ∧ (stAt sts state).1 = true ∧ was.getD codes.length 0 ≤ most then ⟨f.l ++ [(word, was.getD codes.length 0)], f.steps⟩ else f)

/-- The whole walk. -/
def walkS (sts : List DSt) (start : Nat) (codes : List Int) (most : Nat) : Fi :=
  onS sts codes most (sts.length + 1) start 0 none (List.range (codes.length + 1)) 0 [] ⟨[], 0⟩
end Go.Proofs.YtdcdhcgfhapbnaaDoor

namespace Go.Proofs.YtdcdhcgfhapbnaaDoor
open Go Go.RowKit

theorem get_wd (s : Wd) (i : Nat) : (⟨s.toArray⟩ : ByteArray).get! i = s.getD i 0 := by
  show s.toArray[i]! = s.getD i 0
  rw [List.getD_eq_getElem?_getD]
  rcases Nat.lt_or_ge i s.length with h | h
  · rw [getElem!_pos s.toArray i (by simpa using h)]; simp [h]
  · rw [getElem!_neg s.toArray i (by simpa using h)]; simp [h]; rfl

theorem size_wd (s : Wd) : (⟨s.toArray⟩ : ByteArray).size = s.length := by simp [ByteArray.size]

theorem decodeGo_wd {s : Wd} (h : s ≠ []) : Lib.decodeGo ⟨s.toArray⟩ = decB s := by
  have h0 : ¬ (⟨s.toArray⟩ : ByteArray).size = 0 := by
    rw [size_wd]
    intro e; exact h (List.eq_nil_of_length_eq_zero e)
  unfold Lib.decodeGo decB
  rw [if_neg h0, Lib.decode_at, get_wd, get_wd, get_wd, get_wd, size_wd, Nat.sub_zero]

theorem below_grown {w w' : World} (h : Below w.heap.size w w') : w.grownBy w' none := ⟨h.os, h.tape, h.output, h.size, fun i hi _ => h.block i hi⟩

theorem tabs_kept {g3 g4 : Nat} {w w' : World} (h : Lib.Utf8Tabs g3 g4 w) (g : w.grownBy w' none) : Lib.Utf8Tabs g3 g4 w' :=
  ⟨fun c hc => g.cell (h.1 c hc) nofun, fun i hi => ⟨g.cell (h.2 i hi).1 nofun, g.cell (h.2 i hi).2 nofun⟩⟩

theorem results_cell_tmp {fn : Func} {p q : Tmp} {ty : TypeId} (h : fn.results = #[.cell p ty, .tmp q]) {tmps : Array Value} {P : Program} {w : World} {a : Addr} {v u : Value} (hp : tmps.getD p undef = .pointer (some a)) (hv : (loadVar ty a).run P w = .ok v w) (hq : tmps.getD q undef = u) : (results fn tmps).run P w = .ok (.tuple #[v, u]) w := by
  have hp' : tmps[p]?.getD undef = .pointer (some a) := by rw [← hp]; simp [Array.getD_eq_getD_getElem?]
  have hq' : tmps[q]?.getD undef = u := by rw [← hq]; simp [Array.getD_eq_getD_getElem?]
  simp only [results, h]
  simp [hp', hq', asAddr, hv, Result.andThen]

theorem load_unit {u : World} {k : Nat} {a b c : Int} {f : Nat × Nat} (h : u.heap[k]? = some (.cells #[.int .i64 a, .int .i64 b, .int .i64 c] 96 f)) : (loadVar 96 ⟨k, 0, none⟩).run Tryd.prog u = .ok (.agg #[.int .i64 a, .int .i64 b, .int .i64 c]) u := by
  have c0 := cell_of_heap h 0
  have c1 := cell_of_heap h 1
  have c2 := cell_of_heap h 2
  go_simp

theorem decB_le (s : Wd) : (decB s).1 ≤ 1114111 := by
  unfold decB
  have h := UInt8.toNat_lt (s.getD 0 0)
  generalize (s.getD 0 0).toNat = a at h ⊢
  generalize (s.getD 1 0).toNat = b
  generalize (s.getD 2 0).toNat = c
  generalize (s.getD 3 0).toNat = d
  unfold Lib.decodeN
  repeat' split
  all_goals simp only
  all_goals omega

def UnitRes (s : Wd) (w : World) (e : Ending) (w' : World) : Prop := ∃ n : Int, e = .returned (.tuple #[.agg #[.int .i64 0, .int .i64 n, .int .i64 (codeB s)], .bool true]) ∧ w.grownBy w' none

set_option maxRecDepth 100000 in
set_option maxHeartbeats 1000000 in
theorem at_unit (s : Wd) (hs : s ≠ []) (hl : s.length < 4611686018427387904) (w : World) (hT : Lib.Utf8Tabs 0 1 w) :
    Calls Tryd.prog 70 #[.string ⟨s.toArray⟩, .int .i64 0] w (UnitRes s w) := by
  have hsz := size_wd s
  have hpos : 0 < s.length := by rcases Nat.eq_zero_or_pos s.length with h | h; exact absurd (List.eq_nil_of_length_eq_zero h) hs; exact h
  obtain ⟨L, hL⟩ : ∃ L, s.length = L := ⟨_, rfl⟩
  rw [hL] at hsz hpos hl
  have hpi : (0 : Int) < (L : Int) := by omega
  have hex : (⟨s.toArray⟩ : ByteArray).extract 0 L = ⟨s.toArray⟩ := by
    apply ByteArray.ext
    simp [ByteArray.data_extract, ← hL]
  obtain ⟨b0, hb0⟩ : ∃ b0, s.getD 0 0 = b0 := ⟨_, rfl⟩
  have hx : ∀ h : 0 < (⟨s.toArray⟩ : ByteArray).size, (⟨s.toArray⟩ : ByteArray)[0] = b0 := by
    intro h
    rw [← hb0]
    cases s with
    | nil => exact absurd rfl hs
    | cons a t => rfl
  have hal := World.grownBy_alloc w (.cells #[.int .i64 0, .int .i64 0, .int .i64 0] 96) none
  have hT2 := tabs_kept hT hal
  have HT := Lib.hid hT2
  have hdec := decodeGo_wd hs
  obtain ⟨⟨dr, dn⟩, hd⟩ : ∃ d, decB s = d := ⟨_, rfl⟩
  rw [hd] at hdec
  have hcode : codeB s = if dr = 65533 ∧ dn = 1 then -1 - (b0.toNat : Int) else (dr : Int) := by
    unfold codeB
    rw [hd, hb0]
    simp
  have hdl := decB_le s
  rw [hd] at hdl
  simp only at hdl
  have HD := Lib.hid hdec
  have HC := Lib.hid hcode
  clear hT hT2 hdec hcode hd hb0 hL hs
  go_enter Tryd.func70, Tryd.ntmps70
  go_wp2_with fail
  refine (Tryd.utf8_DecodeRuneInString _ _ HT.out).mono ?_
  rintro e w1 ⟨rfl, hb⟩
  rw [HD.out]
  have hg1 := below_grown hb
  have hG := Lib.hid (grownBy_trans hal hg1 nofun)
  have hh := Lib.hid (grownBy_heap hg1 (heap_alloc_new w (.cells #[.int .i64 0, .int .i64 0, .int .i64 0] 96 (0, 0))) nofun)
  have hc0 := cell_of_heap hh.out 0
  have hc1 := cell_of_heap hh.out 1
  have hc2 := cell_of_heap hh.out 2
  have hf0 := frozen_of_heap hh.out 0
  have hf1 := frozen_of_heap hh.out 1
  have hf2 := frozen_of_heap hh.out 2
  have hset : ∀ a b c : Value, (((w1.setCell ⟨w.heap.size, 0, none⟩ a).setCell ⟨w.heap.size, 1, none⟩ b).setCell ⟨w.heap.size, 2, none⟩ c).heap[w.heap.size]? = some (.cells #[a, b, c] 96 (0, 0)) := fun a b c => heap_setCell (heap_setCell (heap_setCell hh.out 0 a) 1 b) 2 c
  have hgr : ∀ a b c : Value, w.grownBy (((w1.setCell ⟨w.heap.size, 0, none⟩ a).setCell ⟨w.heap.size, 1, none⟩ b).setCell ⟨w.heap.size, 2, none⟩ c) none := fun a b c => grownBy_setCell (grownBy_setCell (grownBy_setCell hG.out _ _ _ (.inr (Nat.le_refl _))) _ _ _ (.inr (Nat.le_refl _))) _ _ _ (.inr (Nat.le_refl _))
  have HSET := Lib.hid hset
  have HGR := Lib.hid hgr
  have hbl := UInt8.toNat_lt b0
  have hwb : wrap64 (b0.toNat : Int) = (b0.toNat : Int) := IntWalk.wrap64_in _ (by omega)
  have hwm : wrap64 (-1 - (b0.toNat : Int)) = -1 - (b0.toNat : Int) := IntWalk.wrap64_in _ (by omega)
  have hwr : wrap64 (dr : Int) = (dr : Int) := IntWalk.wrap64_in _ (by omega)
  clear hb hg1 hal hset hgr
  by_cases hbad : dr = 65533 ∧ dn = 1
  · have hcv := HC.out
    rw [if_pos hbad] at hcv
    have HCV := Lib.hid hcv
    clear hcv
    obtain ⟨rfl, rfl⟩ := hbad
    go_wp2_with fail
    refine bodyPost_ret (results_cell_tmp rfl rfl (load_unit (HSET.out _ _ _)) rfl) rfl ?_
    exact ⟨_, by rw [HCV.out]; rfl, HGR.out _ _ _⟩
  · have hcv := HC.out
    rw [if_neg hbad] at hcv
    have HCV := Lib.hid hcv
    clear hcv
    by_cases hr : dr = 65533
    · subst hr
      have hn1 : ((dn : Int) == 1) = false := by rw [beq_eq_false_iff_ne]; omega
      go_wp2_with fail
      refine bodyPost_ret (results_cell_tmp rfl rfl (load_unit (HSET.out _ _ _)) rfl) rfl ?_
      exact ⟨_, by rw [HCV.out]; rfl, HGR.out _ _ _⟩
    · have hr1 : ((dr : Int) == 65533) = false := by rw [beq_eq_false_iff_ne]; omega
      go_wp2_with fail
      refine bodyPost_ret (results_cell_tmp rfl rfl (load_unit (HSET.out _ _ _)) rfl) rfl ?_
      exact ⟨_, by rw [HCV.out]; rfl, HGR.out _ _ _⟩
end Go.Proofs.YtdcdhcgfhapbnaaDoor
