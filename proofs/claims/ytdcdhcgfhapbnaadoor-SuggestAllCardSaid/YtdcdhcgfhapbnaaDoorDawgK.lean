/-
  Package dawg: know: a state's number. Conditions: fewer than 2^31 states; a state has at most 256 edges.
-/
import Derived.Test.YtdcdhcgfhapbnaaDoorBuilder
import Derived.Test.YtdcdhcgfhapbnaaDoorKp
import Derived.Test.YtdcdhcgfhapbnaaDoorConv
import Derived.Test.YtdcdhcgfhapbnaaDoorShelf
import Derived.Deep.CutBlock
import Derived.Deep.RegionHeld3
import Derived.StillTailTactics
namespace Go.Proofs.YtdcdhcgfhapbnaaDoor
open Go Go.RowKit Go.Maps

/-- An edge's five bytes. -/
def edgeText (e : DEdge) : List UInt8 := [e.1, UInt8.ofNat e.2, UInt8.ofNat (e.2 / 256), UInt8.ofNat (e.2 / 65536), UInt8.ofNat (e.2 / 16777216)]

def outText (es : List DEdge) : List UInt8 := es.flatMap edgeText

theorem edgeText_inj {a b : DEdge} (ha : a.2 < 4294967296) (hb : b.2 < 4294967296) (h : edgeText a = edgeText b) : a = b := by
  obtain ⟨c, x⟩ := a
  obtain ⟨d, y⟩ := b
  simp only [edgeText, List.cons.injEq, and_true] at h
  obtain ⟨h0, h1, h2, h3, h4⟩ := h
  have g1 := congrArg UInt8.toNat h1
  have g2 := congrArg UInt8.toNat h2
  have g3 := congrArg UInt8.toNat h3
  have g4 := congrArg UInt8.toNat h4
  simp only [UInt8.toNat_ofNat'] at g1 g2 g3 g4
  simp only at ha hb
  rw [h0, show x = y by omega]

theorem edgeText_len (e : DEdge) : (edgeText e).length = 5 := rfl

theorem outText_len (es : List DEdge) : (outText es).length = es.length * 5 := by
  induction es with
  | nil => rfl
  | cons e es ih =>
    have : outText (e :: es) = edgeText e ++ outText es := rfl
    rw [this, List.length_append, ih, edgeText_len, List.length_cons]; omega

theorem outText_inj : ∀ {es fs : List DEdge}, (∀ e ∈ es, e.2 < 4294967296) → (∀ e ∈ fs, e.2 < 4294967296) → outText es = outText fs → es = fs
  | [], [], _, _, _ => rfl
  | [], f :: fs, _, _, h => by have := congrArg List.length h; simp [outText_len] at this
  | e :: es, [], _, _, h => by have := congrArg List.length h; simp [outText_len] at this
  | e :: es, f :: fs, he, hf, h => by
    have h' : edgeText e ++ outText es = edgeText f ++ outText fs := h
    obtain ⟨h1, h2⟩ := List.append_inj h' (by rw [edgeText_len, edgeText_len])
    rw [edgeText_inj (he e (by simp)) (hf f (by simp)) h1, outText_inj (fun x hx => he x (by simp [hx])) (fun x hx => hf x (by simp [hx])) h2]

theorem outText_take (es : List DEdge) (k : Nat) (e : DEdge) (h : es[k]? = some e) : outText (es.take (k + 1)) = outText (es.take k) ++ edgeText e := by
  rw [List.take_add_one, h]; simp [outText]

/-- A state as a key of the map. -/
def keyV (s : DSt) : Value := .agg #[.bool s.1, .string ⟨(outText s.2).toArray⟩]

theorem keyV_inj {s t : DSt} (hs : ∀ e ∈ s.2, e.2 < 4294967296) (ht : ∀ e ∈ t.2, e.2 < 4294967296) (h : keyV s = keyV t) : s = t := by
  simp only [keyV, Value.agg.injEq, Array.mk.injEq, List.cons.injEq, Value.bool.injEq, Value.string.injEq, ByteArray.mk.injEq, and_true] at h
  obtain ⟨h1, h2⟩ := h
  have h3 := outText_inj hs ht h2
  exact Prod.ext h1 h3

def kvOf (sts : List DSt) : List (Value × Value) := sts.mapIdx fun i s => (keyV s, .int .i64 i)

theorem key_laid : laidOutB Tryd.prog = true := by kernel_rfl
theorem key_law : Keyed Tryd.prog 118 := Keyed.of_law (deep_law_laid key_laid (m := 2) (by decide) (of_decide_eq_true (by kernel_rfl)) (by kernel_rfl) (by kernel_rfl))
theorem key_type : Tryd.prog.keyType 118 = true := by kernel_rfl
theorem key_cells : Tryd.prog.cellsOf 118 = 2 := by kernel_rfl
theorem bool_cells : Tryd.prog.cellsOf 4 = 1 := by kernel_rfl
theorem string_cells : Tryd.prog.cellsOf 9 = 1 := by kernel_rfl
theorem types_pos : decide (0 < Tryd.prog.types.size) = true := by kernel_rfl

theorem keyOf_keyV (s : DSt) (hs : s.2.length ≤ 1000) : ∃ l, keyOf Tryd.prog 118 (keyV s) = some l := by
  obtain ⟨m, hm⟩ : ∃ m, Tryd.prog.types.size = m + 1 := ⟨Tryd.prog.types.size - 1, by have := of_decide_eq_true types_pos; omega⟩
  have hsz : (⟨(outText s.2).toArray⟩ : ByteArray).size ≤ maxLen := by
    have := outText_len s.2
    simp only [ByteArray.size, List.size_toArray, this]
    unfold maxLen; omega
  have hf : (keyV s).formed Tryd.prog 118 = true := by
    simp only [Value.formed, keyV, Tryd.underlying118, key_cells]; rfl
  have hl : ∃ ls, Tryd.prog.keyLits (Tryd.prog.types.size + 1) 118 (keyV s).cells.toList = some ls := by
    rw [hm]
    simp only [keyV, Value.cells, Program.keyLits, Tryd.underlying118, key_cells]
    simp [Tryd.underlying4, Tryd.underlying9, bool_cells, string_cells, hsz]
  obtain ⟨ls, hl⟩ := hl
  unfold keyOf
  rw [Tryd.underlying118]
  simp only [key_type, hf, Bool.true_and, if_true, hl]
  exact ⟨_, rfl⟩

def edgeCells (es : List DEdge) : List Value := es.flatMap fun e => [Value.int .u8 e.1.toNat, .int .i64 e.2]

/-- The states' cells, and where their edges lie: in blocks that are none of X. -/
def Outs (w : World) (X : Nat → Prop) (vs : List Value) (sts : List DSt) : Prop :=
  vs.length = sts.length * 2 ∧ ∀ i s, sts[i]? = some s → ∃ A n c, vs[i * 2]? = some (.bool s.1) ∧ vs[i * 2 + 1]? = some (.slice A n c) ∧ s.2.length = n ∧ Sl w 2 A n (edgeCells s.2) ∧ ∀ k, X k → Off A n k

/-- A builder under way, at block B: its map is block M, its states lie in lv; Y are blocks that no state's edges lie in. -/
structure Bd (w : World) (Y : Nat → Prop) (B M base : Nat) (lv : Value) (start : Int) (sts : List DSt) : Prop where
  hb : w.heap[B]? = some (.cells #[lv, .int .i64 start, .map (some M)] 54 (0, 0))
  vs : ∃ vs, w.ownsRow base 81 2 lv sts.length vs ∧ Outs w (fun k => k = B ∨ k = M ∨ lv.ownBlock = some k ∨ Y k) vs sts
  lB : lv.ownBlock ≠ some B
  bB : base ≤ B
  bM : base ≤ M
  map : MapIs Tryd.prog 118 w M (kvOf sts)
  small : ∀ s ∈ sts, s.2.length ≤ 256 ∧ ∀ e ∈ s.2, e.2 < sts.length
  few : sts.length ≤ 2147483648
  nodup : sts.Nodup

theorem Outs.kept {w w' : World} {X : Nat → Prop} {vs : List Value} {sts : List DSt} (h : Outs w X vs sts) {r : Option Nat} (g : w.grownBy w' r) (hr : ∀ l, r = some l → X l ∨ w.heap.size ≤ l) : Outs w' X vs sts := by
  refine ⟨h.1, fun i s hs => ?_⟩
  obtain ⟨A, n, c, h1, h2, h3, h4, h5⟩ := h.2 i s hs
  exact ⟨A, n, c, h1, h2, h3, h4.kept g (fun l e => (hr l e).elim (h5 l) (h4.off_new (by omega))), h5⟩

theorem Bd.kept {w w' : World} {Y : Nat → Prop} {B M base : Nat} {lv : Value} {start : Int} {sts : List DSt} (h : Bd w Y B M base lv start sts) (g : w.grownBy w' none) : Bd w' Y B M base lv start sts := by
  obtain ⟨vs, h1, h2⟩ := h.vs
  exact ⟨grownBy_heap g h.hb nofun, ⟨vs, ownsRow_kept h1 g (own_none _), h2.kept g nofun⟩, h.lB, h.bB, h.bM, h.map.kept g nofun, h.small, h.few, h.nodup⟩

/-- Another block written: one that no state's edges lie in. -/
theorem Bd.keptY {w w' : World} {Y : Nat → Prop} {B M base : Nat} {lv : Value} {start : Int} {sts : List DSt} (h : Bd w Y B M base lv start sts) {r : Option Nat} (g : w.grownBy w' r) (hY : ∀ k, r = some k → Y k ∨ w.heap.size ≤ k) (hB : r ≠ some B) (hM : r ≠ some M) (hl : lv.ownBlock = none ∨ lv.ownBlock ≠ r) : Bd w' Y B M base lv start sts := by
  obtain ⟨vs, h1, h2⟩ := h.vs
  exact ⟨grownBy_heap g h.hb hB, ⟨vs, ownsRow_kept h1 g hl, h2.kept g (fun k hk => (hY k hk).imp_left (fun h => .inr (.inr (.inr h))))⟩, h.lB, h.bB, h.bM, h.map.kept g hM, h.small, h.few, h.nodup⟩

/-- Other blocks to keep off: fewer ones, or such as are not there yet. -/
theorem Bd.turn {w : World} {Y Z : Nat → Prop} {B M base : Nat} {lv : Value} {start : Int} {sts : List DSt} (h : Bd w Y B M base lv start sts) (hZ : ∀ k, Z k → Y k ∨ w.heap.size ≤ k) : Bd w Z B M base lv start sts := by
  obtain ⟨vs, h1, h2⟩ := h.vs
  refine ⟨h.hb, ⟨vs, h1, h2.1, fun i s hs => ?_⟩, h.lB, h.bB, h.bM, h.map, h.small, h.few, h.nodup⟩
  obtain ⟨A, n, c, e1, e2, e3, e4, e5⟩ := h2.2 i s hs
  refine ⟨A, n, c, e1, e2, e3, e4, fun k hk => ?_⟩
  rcases hk with hk | hk | hk | hk
  · exact e5 k (.inl hk)
  · exact e5 k (.inr (.inl hk))
  · exact e5 k (.inr (.inr (.inl hk)))
  · rcases hZ k hk with hk | hk
    · exact e5 k (.inr (.inr (.inr hk)))
    · exact e4.off_new (by decide) hk

theorem grownBy_on {a b c : World} {B : Nat} (h : a.grownBy b none) (k : Below B b c) (hB : a.heap.size ≤ B) : a.grownBy c none :=
  ⟨k.os.trans h.os, k.tape.trans h.tape, k.output.trans h.output, Nat.le_trans h.size k.size, fun i hi hr => by rw [k.block i (by omega), h.block i hi hr]⟩

/-- The slice of the states, written out. -/
theorem Bd.form {w : World} {Y : Nat → Prop} {B M base : Nat} {lv : Value} {start : Int} {sts : List DSt} (h : Bd w Y B M base lv start sts) : ∃ A c, lv = .slice A sts.length c := by
  obtain ⟨vs, h1, _⟩ := h.vs
  rcases h1.2 with ⟨rfl, h0⟩ | ⟨g, cap, _, hv, _⟩
  · exact ⟨none, 0, by rw [h0]⟩
  · exact ⟨_, _, hv⟩

theorem kv_mem {sts : List DSt} {p : Value × Value} : p ∈ kvOf sts ↔ ∃ (i : Nat) (s : DSt), sts[i]? = some s ∧ p = (keyV s, .int .i64 (i : Int)) := by
  simp only [kvOf, List.mem_mapIdx]
  constructor
  · rintro ⟨i, hi, rfl⟩; exact ⟨i, _, List.getElem?_eq_getElem hi, rfl⟩
  · rintro ⟨i, s, hs, rfl⟩
    obtain ⟨hi, rfl⟩ := List.getElem?_eq_some_iff.1 hs
    exact ⟨i, hi, rfl⟩

theorem kv_append (sts : List DSt) (s : DSt) : kvOf (sts ++ [s]) = kvOf sts ++ [(keyV s, .int .i64 (sts.length : Int))] := by
  simp [kvOf, List.mapIdx_append]

theorem find_at {sts : List DSt} {s : DSt} {i : Nat} (h : sts.findIdx? (· == s) = some i) : sts[i]? = some s := by
  rw [List.findIdx?_eq_some_iff_getElem] at h
  obtain ⟨hi, h1, _⟩ := h
  rw [List.getElem?_eq_getElem hi]
  simpa using h1

theorem find_not {sts : List DSt} {s : DSt} (h : sts.findIdx? (· == s) = none) : s ∉ sts := by
  rw [List.findIdx?_eq_none_iff] at h
  intro hs
  simpa using h s hs

theorem nodup_idx {sts : List DSt} (h : sts.Nodup) {i j : Nat} {s : DSt} (hi : sts[i]? = some s) (hj : sts[j]? = some s) : i = j := by
  obtain ⟨h1, e1⟩ := List.getElem?_eq_some_iff.1 hi
  obtain ⟨h2, e2⟩ := List.getElem?_eq_some_iff.1 hj
  exact (List.getElem_inj h).1 (e1.trans e2.symm)

theorem Bd.ne {w : World} {Y : Nat → Prop} {B M base : Nat} {lv : Value} {start : Int} {sts : List DSt} (h : Bd w Y B M base lv start sts) : B ≠ M ∧ lv.ownBlock ≠ some M ∧ M < w.heap.size ∧ B < w.heap.size ∧ ∀ k, lv.ownBlock = some k → base ≤ k ∧ k < w.heap.size := by
  obtain ⟨es, clock, hm, _⟩ := h.map
  obtain ⟨vs, h1, _⟩ := h.vs
  refine ⟨?_, ?_, heap_lt hm, heap_lt h.hb, fun k hk => h1.lt k hk⟩
  · rintro rfl
    have := h.hb
    rw [hm] at this; cases this
  · intro e
    rcases h1.2 with ⟨rfl, _⟩ | ⟨g, cap, cur, rfl, _, hh, _⟩
    · simp [Value.ownBlock] at e
    · have : g = M := by simpa [Value.ownBlock] using e
      subst this
      rw [hm] at hh; cases hh

theorem state_info : (Tryd.prog.info? 81).map (fun i => (i.zero, i.size, i.bytes)) = some (some (.agg #[.bool false, .slice none 0 0]), 2, 32) := by kernel_rfl

/-- A state more: what must hold of the world then. -/
theorem Bd.more {w w7 : World} {Y : Nat → Prop} {B M base : Nat} {lv lv2 : Value} {start : Int} {sts : List DSt} {s : DSt} {A : Option Addr} {n c : Nat} {vs : List Value} (h : Bd w Y B M base lv start sts) (hlt : sts.length < 2147483648)
    (hn : s.2.length = n) (hn2 : n ≤ 256) (hto : ∀ e ∈ s.2, e.2 < sts.length) (hs : Sl w 2 A n (edgeCells s.2)) (hoff : ∀ k, k = B ∨ k = M ∨ lv.ownBlock = some k ∨ Y k → Off A n k) (hnew : s ∉ sts)
    (hout : Outs w (fun k => k = B ∨ k = M ∨ lv.ownBlock = some k ∨ Y k) vs sts)
    (hkp : Kp (fun k => k = B ∨ k = M ∨ lv.ownBlock = some k) w w7) (hlv : lv2.ownBlock = lv.ownBlock ∨ ∀ k, lv2.ownBlock = some k → w.heap.size ≤ k)
    (hb : w7.heap[B]? = some (.cells #[lv2, .int .i64 start, .map (some M)] 54 (0, 0))) (hown : w7.ownsRow base 81 2 lv2 (sts.length + 1) (vs ++ [.bool s.1, .slice A n c]))
    (hmap : MapIs Tryd.prog 118 w7 M (kvOf (sts ++ [s]))) : Bd w7 Y B M base lv2 start (sts ++ [s]) := by
  have hne := h.ne
  have off : ∀ {A' : Option Addr} {n' : Nat} {cs : List Value}, Sl w 2 A' n' cs → (∀ k, k = B ∨ k = M ∨ lv.ownBlock = some k ∨ Y k → Off A' n' k) → Sl w7 2 A' n' cs ∧ ∀ k, k = B ∨ k = M ∨ lv2.ownBlock = some k ∨ Y k → Off A' n' k := by
    intro A' n' cs h1 h2
    refine ⟨hkp.sl h1 (fun k _ hk => h2 k (by rcases hk with h | h | h; exact .inl h; exact .inr (.inl h); exact .inr (.inr (.inl h)))), fun k hk => ?_⟩
    rcases hk with hk | hk | hk | hk
    · exact h2 k (.inl hk)
    · exact h2 k (.inr (.inl hk))
    · rcases hlv with e | e
      · exact h2 k (.inr (.inr (.inl (e ▸ hk))))
      · exact h1.off_new (by omega) (e k hk)
    · exact h2 k (.inr (.inr (.inr hk)))
  refine ⟨hb, ⟨vs ++ [.bool s.1, .slice A n c], by simpa using hown, ?_, ?_⟩, ?_, h.bB, h.bM, hmap, ?_, by simp; omega, ?_⟩
  · simp [hout.1]; omega
  · intro i t ht
    rcases Nat.lt_or_ge i sts.length with hi | hi
    · rw [List.getElem?_append_left hi] at ht
      obtain ⟨A', n', c', h1, h2, h3, h4, h5⟩ := hout.2 i t ht
      have h6 := off h4 h5
      have hl := hout.1
      exact ⟨A', n', c', by rw [List.getElem?_append_left (by omega)]; exact h1, by rw [List.getElem?_append_left (by omega)]; exact h2, h3, h6.1, h6.2⟩
    · have hi' : i = sts.length := by
        have := (List.getElem?_eq_some_iff.1 ht).1
        simp at this; omega
      subst hi'
      simp at ht
      subst ht
      have h6 := off hs hoff
      have hl := hout.1
      exact ⟨A, n, c, by rw [List.getElem?_append_right (by omega), show sts.length * 2 - vs.length = 0 by omega]; rfl, by rw [List.getElem?_append_right (by omega), show sts.length * 2 + 1 - vs.length = 1 by omega]; rfl, hn, h6.1, h6.2⟩
  · rcases hlv with e | e
    · rw [e]; exact h.lB
    · intro e'; have := e B e'; omega
  · intro t ht
    rcases List.mem_append.1 ht with ht | ht
    · have := h.small t ht
      exact ⟨this.1, fun e he => by have := this.2 e he; simp; omega⟩
    · simp at ht; subst ht
      exact ⟨by omega, fun e he => by have := hto e he; simp; omega⟩
  · rw [List.nodup_append]
    refine ⟨h.nodup, by simp, ?_⟩
    intro a ha b hb' e
    simp at hb'
    subst hb'
    exact hnew (e ▸ ha)
end Go.Proofs.YtdcdhcgfhapbnaaDoor
