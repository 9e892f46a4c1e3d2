/-
  Words as lists of bytes, rows of strings and of numbers: what the walks of this seat share. No conditions beyond those that each lemma names.
-/
import Derived.Test.YtlbbjcggjmaehaaDoorChecked
import Derived.Test.YtlbbjcggjmaehaaDoorDawgI
import Derived.Test.YtlbbjcggjmaehaaDoorKp
import Derived.Test.YtlbbjcggjmaehaaDoorTrue
import Derived.Lib.DecodeN
import Derived.Shelf.Unicode.DecodeAny
import Derived.Deep.QuietTactic
import Derived.BigQuiet
import Derived.Sort.OwnSorted
namespace Go.Proofs.YtlbbjcggjmaehaaDoor
open Go Go.RowKit Go.Maps

/-- The unit that a text that is not empty begins with: its code point and its bytes. -/
def decB (s : Wd) : Nat × Nat := Lib.decodeN s.length (s.getD 0 0).toNat (s.getD 1 0).toNat (s.getD 2 0).toNat (s.getD 3 0).toNat

/-- Its code; below 0: a byte that is none. -/
def codeB (s : Wd) : Int := if decB s = (65533, 1) then -1 - ((s.getD 0 0).toNat : Int) else (decB s).1

/-- Does a text begin with a whole unit (or a wrong one)? -/
def fullB : Wd → Bool
  | [] => false
  | b0 :: t =>
    if Lib.firstT b0.toNat % 8 ≤ t.length + 1 then true
    else match t with
      | [] => false
      | b1 :: t2 =>
        if b1.toNat < Lib.accLo (Lib.firstT b0.toNat / 16) ∨ Lib.accHi (Lib.firstT b0.toNat / 16) < b1.toNat then true
        else match t2 with
          | [] => false
          | b2 :: _ => decide (b2.toNat < 128) || decide (191 < b2.toNat)

def strCells (ss : List Wd) : List Value := ss.map fun s => .string ⟨s.toArray⟩

/-- Words that lie in a slice, off the blocks of X. -/
def WordsAt (w : World) (X : Nat → Prop) (A : Option Addr) (n c : Nat) (ss : List Wd) : Prop :=
  ss.length = n ∧ n ≤ c ∧ n ≤ 2147483648 ∧ Sl w 1 A n (strCells ss) ∧ ∀ k, X k → Off A n k

/-- Words that a call has laid in a row of its own. -/
theorem words_own {w : World} {base : Nat} {A : Option Addr} {n c : Nat} {ss : List Wd} (h : w.ownsRow base 9 1 (.slice A n c) n (strCells ss)) (hn : n ≤ 2147483648) : WordsAt w (fun _ => False) A n c ss := by
  have hl : ss.length = n := by have := h.1; simp [strCells] at this; omega
  refine ⟨hl, ?_, hn, Sl.of_own h (by intro x hx; simp only [strCells, List.mem_map] at hx; obtain ⟨_, _, rfl⟩ := hx; rfl), fun _ h => h.elim⟩
  rcases h.2 with ⟨e, h0⟩ | ⟨g, cap, _, hv, _, _, h1, _⟩
  · omega
  · cases hv; exact h1

/-- An owned row cut at its end. -/
theorem own_cut {w : World} {base : Nat} {e : TypeId} {A : Option Addr} {n c : Nat} {xs : List Value} (h : w.ownsRow base e 1 (.slice A n c) n xs) {m : Nat} (hm : m ≤ n) : w.ownsRow base e 1 (.slice A m c) m (xs.take m) := by
  obtain ⟨h1, h2⟩ := h
  refine ⟨by rw [List.length_take, h1]; omega, ?_⟩
  rcases h2 with ⟨hv, h0⟩ | ⟨g, cap, cur, hv, hg, hh, hn, hcap, hsz, ht⟩
  · cases hv
    exact .inl ⟨by rw [show m = 0 by omega], by omega⟩
  · cases hv
    refine .inr ⟨g, c, cur, rfl, hg, hh, by omega, hcap, hsz, ?_⟩
    rw [← ht, List.take_take]; congr 1; omega

theorem own_slice {w : World} {base : Nat} {e : TypeId} {size n : Nat} {v : Value} {xs : List Value} (h : w.ownsRow base e size v n xs) : ∃ A c, v = .slice A n c := by
  rcases h.2 with ⟨rfl, h0⟩ | ⟨g, cap, _, hv, _⟩
  · exact ⟨none, 0, by rw [h0]⟩
  · exact ⟨_, _, hv⟩

theorem str_info : (Tryd.prog.info? 9).map (fun i => (i.zero, i.size, i.bytes)) = some (some (.string ⟨#[]⟩), 1, 16) := by kernel_rfl

theorem str_eq {s t : Wd} : ((⟨s.toArray⟩ : ByteArray) = ⟨t.toArray⟩) ↔ s = t := by
  constructor
  · intro h
    have := congrArg ByteArray.data h
    simpa using this
  · rintro rfl; rfl

theorem ext_take (x : Wd) (k : Nat) : (⟨x.toArray⟩ : ByteArray).extract 0 k = ⟨(x.take k).toArray⟩ := by
  apply ByteArray.ext
  simp [ByteArray.data_extract]

theorem Sl.str {w : World} {A : Option Addr} {n : Nat} {ss : List Wd} (h : Sl w 1 A n (strCells ss)) {k : Nat} {s : Wd} (hs : ss[k]? = some s) : ∃ q o, A = some ⟨q, o, none⟩ ∧ w.cell? ⟨q, o + k, none⟩ = some (.string ⟨s.toArray⟩) := by
  have hk := (List.getElem?_eq_some_iff.1 hs).1
  have hl := h.1
  obtain ⟨q, o, rfl, hc⟩ := h.2.2 (by simp [strCells] at hl; omega)
  exact ⟨q, o, rfl, hc k _ (by rw [strCells, List.getElem?_map, hs]; rfl)⟩

theorem strCells_one' (ss : List Wd) : ∀ x ∈ strCells ss, x.oneCell' = true := by
  intro x hx
  simp only [strCells, List.mem_map] at hx
  obtain ⟨_, _, rfl⟩ := hx
  rfl

def natCells (l : List Nat) : List Value := l.map fun (d : Nat) => Value.int .i64 (d : Int)

def intCells (l : List Int) : List Value := l.map fun (d : Int) => Value.int .i64 d

theorem nat_cell {w : World} {A : Option Addr} {k : Nat} {l : List Nat} (h : Sl w 1 A k (natCells l)) (hl : l.length = k) (h0 : 0 < k) : ∃ b o, A = some ⟨b, o, none⟩ ∧ ∀ j, j < k → w.cell? ⟨b, o + j, none⟩ = some (.int .i64 (l.getD j 0 : Nat)) := by
  obtain ⟨b, o, rfl, hc⟩ := h.2.2 h0
  refine ⟨b, o, rfl, fun j hj => hc j _ ?_⟩
  unfold natCells
  rw [List.getElem?_map, List.getD_eq_getElem?_getD, List.getElem?_eq_getElem (by omega)]
  rfl

theorem int_cell {w : World} {A : Option Addr} {k : Nat} {l : List Int} (h : Sl w 1 A k (intCells l)) (hl : l.length = k) (h0 : 0 < k) : ∃ b o, A = some ⟨b, o, none⟩ ∧ ∀ j, j < k → w.cell? ⟨b, o + j, none⟩ = some (.int .i64 (l.getD j 0)) := by
  obtain ⟨b, o, rfl, hc⟩ := h.2.2 h0
  refine ⟨b, o, rfl, fun j hj => hc j _ ?_⟩
  unfold intCells
  rw [List.getElem?_map, List.getD_eq_getElem?_getD, List.getElem?_eq_getElem (by omega)]
  rfl

theorem int_info : (Tryd.prog.info? 3).map (fun i => (i.zero, i.size, i.bytes)) = some (some (.int .i64 0), 1, 8) := by kernel_rfl

theorem get_wd (s : Wd) (i : Nat) : (⟨s.toArray⟩ : ByteArray).get! i = s.getD i 0 := by
  show s.toArray[i]! = s.getD i 0
  rw [List.getD_eq_getElem?_getD]
  rcases Nat.lt_or_ge i s.length with h | h
  · rw [getElem!_pos s.toArray i (by simpa using h)]; simp [h]
  · rw [getElem!_neg s.toArray i (by simpa using h)]; simp [h]; rfl

theorem size_wd (s : Wd) : (⟨s.toArray⟩ : ByteArray).size = s.length := by simp [ByteArray.size]

theorem decodeGo_wd {s : Wd} (h : s ≠ []) : Lib.decodeGo ⟨s.toArray⟩ = decB s := by
  have h0 : ¬ (⟨s.toArray⟩ : ByteArray).size = 0 := by
    rw [size_wd]
    intro e; exact h (List.eq_nil_of_length_eq_zero e)
  unfold Lib.decodeGo decB
  rw [if_neg h0, Lib.decode_at, get_wd, get_wd, get_wd, get_wd, size_wd, Nat.sub_zero]

theorem below_grown {w w' : World} (h : Below w.heap.size w w') : w.grownBy w' none := ⟨h.os, h.tape, h.output, h.size, fun i hi _ => h.block i hi⟩

theorem tabs_kept {g3 g4 : Nat} {w w' : World} (h : Lib.Utf8Tabs g3 g4 w) (g : w.grownBy w' none) : Lib.Utf8Tabs g3 g4 w' :=
  ⟨fun c hc => g.cell (h.1 c hc) nofun, fun i hi => ⟨g.cell (h.2 i hi).1 nofun, g.cell (h.2 i hi).2 nofun⟩⟩

theorem results_cell_tmp {fn : Func} {p q : Tmp} {ty : TypeId} (h : fn.results = #[.cell p ty, .tmp q]) {tmps : Array Value} {P : Program} {w : World} {a : Addr} {v u : Value} (hp : tmps.getD p undef = .pointer (some a)) (hv : (loadVar ty a).run P w = .ok v w) (hq : tmps.getD q undef = u) : (results fn tmps).run P w = .ok (.tuple #[v, u]) w := by
  have hp' : tmps[p]?.getD undef = .pointer (some a) := by rw [← hp]; simp [Array.getD_eq_getD_getElem?]
  have hq' : tmps[q]?.getD undef = u := by rw [← hq]; simp [Array.getD_eq_getD_getElem?]
  simp only [results, h]
  simp [hp', hq', asAddr, hv, Result.andThen]

theorem decB_le (s : Wd) : (decB s).1 ≤ 1114111 := by
  unfold decB
  have h := UInt8.toNat_lt (s.getD 0 0)
  generalize (s.getD 0 0).toNat = a at h ⊢
  generalize (s.getD 1 0).toNat = b
  generalize (s.getD 2 0).toNat = c
  generalize (s.getD 3 0).toNat = d
  unfold Lib.decodeN
  repeat' split
  all_goals simp only
  all_goals omega

theorem results_cell1 {fn : Func} {p : Tmp} {ty : TypeId} (h : fn.results = #[.cell p ty]) {tmps : Array Value} {P : Program} {w : World} {a : Addr} {v : Value} (hp : tmps.getD p undef = .pointer (some a)) (hv : (loadVar ty a).run P w = .ok v w) : (results fn tmps).run P w = .ok v w := by
  have hp' : tmps[p]?.getD undef = .pointer (some a) := by rw [← hp]; simp [Array.getD_eq_getD_getElem?]
  simp only [results, h]
  simp [Sem.run_bind, hp', asAddr, hv, Result.andThen]

end Go.Proofs.YtlbbjcggjmaehaaDoor
