/-
  Layer 15's laws: all: the words that an automaton has: the walk. Conditions: few steps, a short beginning.
-/
import Derived.Test.YtdcdhcgfhapbnaaDoorDawgR
namespace Go.Proofs.YtdcdhcgfhapbnaaDoor
open Go Go.RowKit Go.Maps

/-- Is what is left of a word had behind a state? -/
def runS (sts : List DSt) : Int → Wd → Bool
  | i, [] => (stAt sts i).1
  | i, c :: s => match nextS sts i c with
    | some j => runS sts j s
    | none => false

theorem runS_drop {sts : List DSt} {i : Int} {s : Wd} {k : Nat} {b : UInt8} (h : s[k]? = some b) : runS sts i (s.drop k) = (match nextS sts i b with | some j => runS sts j (s.drop (k + 1)) | none => false) := by
  obtain ⟨hk, rfl⟩ := List.getElem?_eq_some_iff.1 h
  rw [List.drop_eq_getElem_cons hk]; rfl

def OutRes (es : List DEdge) (w : World) (e : Ending) (w' : World) : Prop :=
  ∃ A c, e = .returned (.slice A es.length c) ∧ w'.ownsRow w.heap.size 5 1 (.slice A es.length c) es.length (Lib.byteCells (es.map (·.1))) ∧ w.grownBy w' none

set_option maxRecDepth 100000 in
set_option maxHeartbeats 1000000 in
theorem out_walk (Y : Nat → Prop) (B M base : Nat) (lv : Value) (start : Int) (sts : List DSt) (i : Int) (w : World) (h : Bd w Y B M base lv start sts) :
    Calls Tryd.prog 68 #[.pointer (some ⟨B, 0, none⟩), .int .i64 i] w (OutRes (stAt sts i).2 w) := by
  have hsm : (stAt sts i).2.length ≤ 256 := by
    unfold stAt
    split
    · simp
    · rcases hh : sts[i.toNat]? with _ | s
      · simp
      · exact (h.small s (List.mem_of_getElem? hh)).1
  have H := Lib.hid h
  clear h
  go_enter Tryd.func68, Tryd.ntmps68
  go_wp2_with fail
  refine (at_walk Y B M base lv start sts i w H.out).mono ?_
  rintro e w1 ⟨A, n, c, rfl, hn, hs, hg⟩
  have HS := Lib.hid hs
  have HN := Lib.hid hn
  have hf1 := field1 w1 (stAt sts i).1 A n c
  generalize (stAt sts i).2 = es at *
  have hn2 : n ≤ 256 := by have := HN.out; omega
  have hw1 := hg.size
  obtain ⟨i0, hi, hz0, hz1, hz2⟩ := info_parts byte_info
  clear hs hn
  go_wp2_with fail
  go_loopw [5, 13] (fun l j wr => ∃ (k : Nat) (OA : Option Addr) (oc : Nat), k ≤ n ∧ j = .int .i64 k ∧ l = .slice OA k oc ∧ w1.grownBy wr none ∧ wr.ownsRow w1.heap.size 5 1 (.slice OA k oc) k (Lib.byteCells ((es.take k).map (·.1)))) (fun _ j _ => n - (intOf j).toNat)
  case atStart => exact ⟨0, none, 0, Nat.zero_le _, rfl, rfl, grownBy_refl _ _, World.ownsRow_nil _ _ _ _⟩
  case round =>
    obtain ⟨k, OA, oc, hk, rfl, rfl, hgr1, hown⟩ := hrel
    rcases Nat.lt_or_ge k n with hlt | hge
    · obtain ⟨e0, he0⟩ : ∃ e0, es[k]? = some e0 := ⟨_, List.getElem?_eq_getElem (by have := HN.out; omega)⟩
      obtain ⟨q, o, rfl, hc⟩ := (HS.out.kept hgr1 nofun).2.2 (by omega)
      obtain ⟨g0, g1⟩ := edgeCells_get he0
      have x0 := hc _ _ g0
      have x1 := hc _ _ g1
      rw [← Nat.add_assoc] at x1
      have etk : Lib.byteCells ((es.take (k + 1)).map (·.1)) = Lib.byteCells ((es.take k).map (·.1)) ++ [.int .u8 e0.1.toNat] := by
        rw [List.take_add_one, he0]; simp [Lib.byteCells]
      have HT := Lib.hid etk
      clear hc g0 g1 etk he0
      have hwr := hgr1.size
      have hX := World.grownBy_alloc wr (.cells #[.int .u8 e0.1.toNat, .int .i64 e0.2] 83) none
      have hY := grownBy_trans hX (World.grownBy_alloc _ (.cells #[.int .u8 e0.1.toNat] 5) none) nofun
      have hown2 := ownsRow_kept hown hY (own_none _)
      have hsl := Sl.of_own (World.ownsRow_lit (base := 0) (size := 1) (e := 5) (wr.alloc (.cells #[.int .u8 e0.1.toNat, .int .i64 e0.2] 83)) #[.int .u8 e0.1.toNat] 1 (Nat.zero_le _) (by decide) rfl) (by intro x hx; simp at hx; subst hx; rfl)
      simp only [World.size_alloc] at hsl
      have HO2 := Lib.hid hown2
      have HSL := Lib.hid hsl
      have HY := Lib.hid hY
      clear hown hown2 hsl hX hY
      go_wp2_with (at_builtin; refine wpList_append_sl _ rfl (.tmp 17) (.tmp 20) 74 rfl w1.heap.size 5 i0 _ 1 1 Tryd.underlying74 hi hz0 hz1 hz2 rfl (by decide) (.slice OA k oc) k _ rfl HO2.out (some ⟨wr.heap.size + 1, 0, none⟩) 1 1 [.int .u8 e0.1.toNat] rfl HSL.out (by unfold maxLen; omega) (by omega) (by simp; omega) ?_)
      rintro v' w' ⟨hown', hg', hat⟩
      obtain ⟨q', c', rfl, _⟩ := own_form hown' (by omega)
      have hgw : w1.grownBy w' none := grownBy_trans (grownBy_trans hgr1 HY.out nofun) hg' (fun l hl => .inr (HO2.out.lt l hl).1)
      go_wp2_with fail
      go_roundw
      case rel => exact ⟨k + 1, _, c', by omega, by go_num, rfl, hgw, by rw [HT.out, List.map_take]; exact hown'⟩
      case measure => simp [intOf]; omega
    · obtain rfl : k = n := by omega
      go_wp2_with fail
      go_ret
      have hl : es.length = k := HN.out
      rw [List.take_of_length_le (by omega)] at hown
      rw [OutRes, hl]
      exact ⟨OA, oc, rfl, ownsRow_base hown hw1, grownBy_trans hg hgr1 nofun⟩
end Go.Proofs.YtdcdhcgfhapbnaaDoor

namespace Go.Proofs.YtdcdhcgfhapbnaaDoor
open Go Go.RowKit Go.Maps

/-- The words behind a state, as far as steps go; no more when there are too many. -/
def allS (sts : List DSt) : Nat → Int → Wd → List Wd → List Wd
  | 0, i, head, out => if (stAt sts i).1 then out ++ [head] else out
  | k + 1, i, head, out =>
    let o := if (stAt sts i).1 then out ++ [head] else out
    if 100 < o.length then o
    else ((stAt sts i).2.map (·.1)).foldl (fun o c => match nextS sts i c with | some j => allS sts k j (head ++ [c]) o | none => o) o

theorem allS_many (sts : List DSt) : ∀ (k : Nat) (i : Int) (head : Wd) (out : List Wd), 100 < out.length → (allS sts k i head out).length ≤ out.length + 1
  | 0, i, head, out, h => by unfold allS; split <;> simp
  | k + 1, i, head, out, h => by
    unfold allS
    rw [if_pos (by split <;> (try simp) <;> omega)]
    split <;> simp

set_option maxRecDepth 10000 in
theorem allS_few (sts : List DSt) (hs : ∀ s ∈ sts, s.2.length ≤ 256) : ∀ (k : Nat) (i : Int) (head : Wd) (out : List Wd), out.length ≤ 100 → (allS sts k i head out).length ≤ 101 + 256 * k
  | 0, i, head, out, h => by unfold allS; split <;> (try simp) <;> omega
  | k + 1, i, head, out, h => by
    unfold allS
    generalize ho : (if (stAt sts i).1 = true then out ++ [head] else out) = o
    have hol : o.length ≤ 101 := by rw [← ho]; split <;> (try simp) <;> omega
    simp only
    split
    · omega
    · have key : ∀ (l : List UInt8) (o : List Wd), o.length ≤ 101 + 256 * k + (256 - l.length) → l.length ≤ 256 → (l.foldl (fun o c => match nextS sts i c with | some j => allS sts k j (head ++ [c]) o | none => o) o).length ≤ 101 + 256 * k + 256 := by
        intro l
        induction l with
        | nil => intro o h1 _; simp at h1 ⊢; omega
        | cons c l ih =>
          intro o h1 h2
          rw [List.foldl_cons]
          simp only [List.length_cons] at h1 h2
          refine ih _ ?_ (by omega)
          rcases nextS sts i c with _ | j
          · simp only; omega
          · simp only
            rcases Nat.lt_or_ge 100 o.length with h3 | h3
            · have := allS_many sts k j (head ++ [c]) o h3; omega
            · have := allS_few sts hs k j (head ++ [c]) o h3; omega
      have hst : (stAt sts i).2.length ≤ 256 := by
        unfold stAt
        split
        · simp
        · rcases hh : sts[i.toNat]? with _ | s
          · simp
          · exact hs s (List.mem_of_getElem? hh)
      have := key ((stAt sts i).2.map (·.1)) o (by simp; omega) (by simpa using hst)
      omega
end Go.Proofs.YtdcdhcgfhapbnaaDoor
