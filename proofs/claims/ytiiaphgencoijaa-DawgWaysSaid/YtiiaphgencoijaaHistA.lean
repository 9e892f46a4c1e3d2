/-
  Package history, told by lists: what can be undone and what can be redone are two lists of groups; each group is its edits' cells. Conditions: groups of at most 1000 edits.
-/
import Derived.Test.YtiiaphgencoijaaHistW
namespace Go.Proofs.Ytiiaphgencoijaa
open Go Go.RowKit

/-- A group as it lies in the ring: its own block, which is none of L. -/
def Grp (w : World) (L : List Nat) (v : Value) (g : List Value) : Prop :=
  ∃ p n c, v = .slice (some ⟨p, 0, none⟩) n c ∧ n ≤ 1000 ∧ p ∉ L ∧ w.ownsRow 0 31 3 v n g ∧ ∀ x ∈ g, x.oneCell' = true

/-- A history at block b: L: blocks that are none of its groups' (b among them). -/
def Hist (w : World) (b d : Nat) (L : List Nat) (U R : List (List Value)) : Prop :=
  b ∈ L ∧ (∀ l ∈ L, l < w.heap.size) ∧ d ≤ 50 ∧ U.length + R.length ≤ d ∧ ∃ fr ring, fr ≤ 50 ∧ HistIs w b ring fr U.length R.length d ∧
    ∀ i g, (U ++ R)[i]? = some g → ∃ v, ring[(fr + i) % 51]? = some v ∧ Grp w L v g

theorem Grp.kept {w w' : World} {L : List Nat} {v : Value} {g : List Value} (h : Grp w L v g) {s : Option Nat} (k : w.grownBy w' s) (hs : ∀ l, s = some l → l ∈ L ∨ w.heap.size ≤ l) : Grp w' L v g := by
  obtain ⟨p, n, c, rfl, hn, hp, ho, h1⟩ := h
  refine ⟨p, n, c, rfl, hn, hp, ownsRow_kept ho k (.inr ?_), h1⟩
  intro e
  have hlt := (ho.lt p rfl).2
  rcases hs p e.symm with h | h
  · exact hp h
  · omega

theorem Hist.kept {w w' : World} {b d : Nat} {L : List Nat} {U R : List (List Value)} (h : Hist w b d L U R) {s : Option Nat} (k : w.grownBy w' s) (hs : ∀ l, s = some l → l ≠ b ∧ l ∈ L) : Hist w' b d L U R := by
  obtain ⟨hb, hL, hd, hl, fr, ring, hfr, hi, hg⟩ := h
  refine ⟨hb, fun l hl => Nat.lt_of_lt_of_le (hL l hl) k.size, hd, hl, fr, ring, hfr, hi.kept k (fun e => (hs b e).1 rfl), fun i g hig => ?_⟩
  obtain ⟨v, hv, hgr⟩ := hg i g hig
  exact ⟨v, hv, hgr.kept k fun l e => .inl (hs l e).2⟩

/-- One block more that is none of the groups': one that is new. -/
theorem Hist.more {w w' : World} {b d : Nat} {L : List Nat} {U R : List (List Value)} (h : Hist w b d L U R) (k : w.grownBy w' none) {q : Nat} (hq : w.heap.size ≤ q) (hq' : q < w'.heap.size) : Hist w' b d (q :: L) U R := by
  obtain ⟨hb, hL, hd, hl, fr, ring, hfr, hi, hg⟩ := h
  refine ⟨List.mem_cons_of_mem _ hb, fun l hl => ?_, hd, hl, fr, ring, hfr, hi.kept k nofun, fun i g hig => ?_⟩
  · rcases List.mem_cons.1 hl with rfl | hl
    · exact hq'
    · exact Nat.lt_of_lt_of_le (hL l hl) k.size
  · obtain ⟨v, hv, p, n, c, rfl, hn, hp, ho, h1⟩ := hg i g hig
    refine ⟨_, hv, p, n, c, rfl, hn, ?_, ownsRow_kept ho k (.inr nofun), h1⟩
    have hlt := (ho.lt p rfl).2
    simp only [List.mem_cons, not_or]
    exact ⟨by omega, hp⟩

def pushU (d : Nat) (U : List (List Value)) (g : List Value) : List (List Value) := if U.length + 1 ≤ d then U ++ [g] else (U ++ [g]).tail

def HPushRes (b d : Nat) (L : List Nat) (U : List (List Value)) (g : List Value) (w : World) (e : Ending) (w' : World) : Prop :=
  e = .returned (.tuple #[]) ∧ w.grownBy w' (some b) ∧ Hist w' b d L (pushU d U g) []

theorem hist_push (b d : Nat) (L : List Nat) (U R : List (List Value)) (a : Addr) (n c : Nat) (g : List Value) (w : World) (h : Hist w b d L U R)
    (hn : 0 < n) (hn1 : n ≤ 1000) (hl : g.length = n * 3) (hc : ∀ j x, g[j]? = some x → w.cell? (a.add j) = some x) (h1 : ∀ x ∈ g, x.oneCell' = true) :
    Calls Try.prog 16 #[.pointer (some ⟨b, 0, none⟩), .slice (some a) n c] w (HPushRes b d L U g w) := by
  obtain ⟨hb, hL, hd, hlen, fr, ring, hfr, hi, hg⟩ := h
  refine (push_any b ring fr U.length R.length d a n c g w hi hfr (by omega) hn hn1 hl hc h1).mono ?_
  rintro e w' ⟨rfl, hgr, q, cap, v, rfl, hown, hA, hB⟩
  refine ⟨rfl, hgr, hb, fun l hl => Nat.lt_of_lt_of_le (hL l hl) hgr.size, hd, ?_, ?_⟩
  · simp only [pushU]; split <;> simp <;> omega
  have hq := hown.lt q rfl
  have hqL : q ∉ L := fun h => by have := hL q h; omega
  have hnew : Grp w' L (.slice (some ⟨q, 0, none⟩) n cap) g := ⟨q, n, cap, rfl, hn1, hqL, ownsRow_base hown (Nat.zero_le _), h1⟩
  have hrl : ring.length = 51 := hi.1
  by_cases hdu : U.length + 1 ≤ d
  · simp only [pushU, if_pos hdu]
    refine ⟨fr, _, hfr, by simpa using hA hdu, fun i g' hig => ?_⟩
    simp only [List.append_nil] at hig
    rcases Nat.lt_trichotomy i U.length with hlt | rfl | hgt
    · rw [List.getElem?_append_left hlt] at hig
      obtain ⟨v', hv', hgr'⟩ := hg i g' (by rw [List.getElem?_append_left hlt]; exact hig)
      refine ⟨v', ?_, hgr'.kept hgr (fun l e => .inl (by cases e; exact hb))⟩
      rw [List.getElem?_set_ne (by omega)]; exact hv'
    · rw [List.getElem?_append_right (Nat.le_refl _), Nat.sub_self] at hig
      simp only [List.getElem?_cons_zero, Option.some.injEq] at hig
      subst hig
      exact ⟨_, List.getElem?_set_self (by omega), hnew⟩
    · rw [List.getElem?_eq_none (by simp; omega)] at hig
      cases hig
  · have hdu' : d < U.length + 1 := by omega
    simp only [pushU, if_neg hdu]
    have hX := hB hdu'
    refine ⟨(fr + 1) % 51, _, by omega, by simpa using hX, fun i g' hig => ?_⟩
    simp only [List.append_nil, List.getElem?_tail] at hig
    rcases Nat.lt_trichotomy (i + 1) U.length with hlt | heq | hgt
    · rw [List.getElem?_append_left hlt] at hig
      obtain ⟨v', hv', hgr'⟩ := hg (i + 1) g' (by rw [List.getElem?_append_left hlt]; exact hig)
      refine ⟨v', ?_, hgr'.kept hgr (fun l e => .inl (by cases e; exact hb))⟩
      rw [List.getElem?_set_ne (by omega), List.getElem?_set_ne (by omega)]
      rw [show ((fr + 1) % 51 + i) % 51 = (fr + (i + 1)) % 51 by omega]; exact hv'
    · rw [List.getElem?_append_right (by omega), heq, Nat.sub_self] at hig
      simp only [List.getElem?_cons_zero, Option.some.injEq] at hig
      subst hig
      refine ⟨_, ?_, hnew⟩
      rw [List.getElem?_set_ne (by omega), show ((fr + 1) % 51 + i) % 51 = (fr + U.length) % 51 by omega]
      exact List.getElem?_set_self (by omega)
    · rw [List.getElem?_eq_none (by simp; omega)] at hig
      cases hig

def HTurnRes (b d : Nat) (L : List Nat) (U R : List (List Value)) (g : List Value) (w : World) (e : Ending) (w' : World) : Prop :=
  ∃ q n cap, e = .returned (.tuple #[.slice (some ⟨q, 0, none⟩) n cap, .bool true]) ∧ w.grownBy w' (some b) ∧ w'.ownsRow w.heap.size 31 3 (.slice (some ⟨q, 0, none⟩) n cap) n g ∧ Hist w' b d (q :: L) U R

theorem hist_turned {b d : Nat} {L : List Nat} {U R U' R' : List (List Value)} {w w' : World} {fr : Nat} {ring : List Value} {q : Nat} (hb : b ∈ L) (hL : ∀ l ∈ L, l < w.heap.size) (hd : d ≤ 50) (hlen : U.length + R.length ≤ d) (hfr : fr ≤ 50)
    (hg : ∀ i g, (U ++ R)[i]? = some g → ∃ v, ring[(fr + i) % 51]? = some v ∧ Grp w L v g) (he : U' ++ R' = U ++ R) (hgr : w.grownBy w' (some b)) (hq : w.heap.size ≤ q) (hq' : q < w'.heap.size)
    (hi : HistIs w' b ring fr U'.length R'.length d) : Hist w' b d (q :: L) U' R' := by
  refine ⟨List.mem_cons_of_mem _ hb, fun l hl => ?_, hd, ?_, fr, ring, hfr, hi, fun i g hig => ?_⟩
  · rcases List.mem_cons.1 hl with rfl | hl
    · exact hq'
    · exact Nat.lt_of_lt_of_le (hL l hl) hgr.size
  · have := congrArg List.length he
    simp only [List.length_append] at this
    omega
  · rw [he] at hig
    obtain ⟨v, hv, hG⟩ := hg i g hig
    obtain ⟨p, n, c, rfl, hn, hp, ho, h1⟩ := hG
    have hlt := (ho.lt p rfl).2
    have hpb : p ≠ b := fun e => hp (e ▸ hb)
    refine ⟨_, hv, p, n, c, rfl, hn, ?_, ownsRow_kept ho hgr (.inr (by simpa [Value.ownBlock] using hpb)), h1⟩
    simp only [List.mem_cons, not_or]
    exact ⟨by omega, hp⟩

theorem hist_undo (b d : Nat) (L : List Nat) (U R : List (List Value)) (g : List Value) (w : World) (h : Hist w b d L (U ++ [g]) R) :
    Calls Try.prog 18 #[.pointer (some ⟨b, 0, none⟩)] w (HTurnRes b d L U (g :: R) g w) := by
  obtain ⟨hb, hL, hd, hlen, fr, ring, hfr, hi, hg⟩ := h
  simp only [List.length_append, List.length_cons, List.length_nil, Nat.zero_add] at hlen hi
  obtain ⟨v, hv, p, n, c, rfl, hn, hp, ho, h1⟩ := hg U.length g (by simp)
  refine (undo_some b ring fr U.length R.length d p n c g w hi hfr (by omega) (by omega) hv hn ho (fun e => hp (e ▸ hb)) h1).mono ?_
  rintro e w' ⟨q, cap, rfl, hgr, hown, hi'⟩
  have hq := hown.lt q rfl
  exact ⟨q, n, cap, rfl, hgr, hown, hist_turned (U := U ++ [g]) (R := R) hb hL hd (by simpa using hlen) hfr hg (by simp) hgr hq.1 hq.2 hi'⟩

theorem hist_redo (b d : Nat) (L : List Nat) (U R : List (List Value)) (g : List Value) (w : World) (h : Hist w b d L U (g :: R)) :
    Calls Try.prog 21 #[.pointer (some ⟨b, 0, none⟩)] w (HTurnRes b d L (U ++ [g]) R g w) := by
  obtain ⟨hb, hL, hd, hlen, fr, ring, hfr, hi, hg⟩ := h
  simp only [List.length_cons] at hlen hi
  obtain ⟨v, hv, p, n, c, rfl, hn, hp, ho, h1⟩ := hg U.length g (by simp)
  refine (redo_some b ring fr U.length R.length d p n c g w hi hfr (by omega) (by omega) hv hn ho (fun e => hp (e ▸ hb)) h1).mono ?_
  rintro e w' ⟨q, cap, rfl, hgr, hown, hi'⟩
  have hq := hown.lt q rfl
  exact ⟨q, n, cap, rfl, hgr, hown, hist_turned (U := U) (R := g :: R) hb hL hd (by simpa using hlen) hfr hg (by simp) hgr hq.1 hq.2 (by simpa using hi')⟩

def HNewRes (d : Int) (L : List Nat) (w : World) (e : Ending) (w' : World) : Prop :=
  e = .returned (.pointer (some ⟨w.heap.size, 0, none⟩)) ∧ w.grownBy w' none ∧ w.heap.size < w'.heap.size ∧ ∃ D : Nat, D ≤ 50 ∧ (D : Int) = max 0 (min d 50) ∧ Hist w' w.heap.size D (w.heap.size :: L) [] []

theorem hist_new (d : Int) (L : List Nat) (w : World) (hL : ∀ l ∈ L, l < w.heap.size) : Calls Try.prog 12 #[.int .i64 d] w (HNewRes d L w) := by
  refine (new_any d w).mono ?_
  rintro e w' ⟨rfl, hgr, D, hD, hDe, hi⟩
  have hlt := heap_lt hi.2
  refine ⟨rfl, hgr, hlt, D, hD, hDe, by simp, fun l hl => ?_, hD, by simp, 0, _, by omega, hi, by simp⟩
  rcases List.mem_cons.1 hl with rfl | hl
  · exact hlt
  · exact Nat.lt_of_lt_of_le (hL l hl) hgr.size

def HLenRes (u r : Nat) (w : World) (e : Ending) (w' : World) : Prop := e = .returned (.tuple #[.int .i64 u, .int .i64 r]) ∧ w.grownBy w' none

theorem hist_len (b d : Nat) (L : List Nat) (U R : List (List Value)) (u r : Nat) (w : World) (h : Hist w b d L U R) (hu : U.length = u) (hr : R.length = r) :
    Calls Try.prog 23 #[.pointer (some ⟨b, 0, none⟩)] w (HLenRes u r w) := by
  subst hu hr
  obtain ⟨hb, hL, hd, hlen, fr, ring, hfr, hi, hg⟩ := h
  refine (len_any b ring fr _ _ d w hi).mono ?_
  rintro e w' ⟨rfl, n, rfl⟩
  exact ⟨rfl, grownBy_drewN (grownBy_refl w _) n⟩

theorem hist_undo_none (b d : Nat) (L : List Nat) (R : List (List Value)) (w : World) (h : Hist w b d L [] R) :
    Calls Try.prog 18 #[.pointer (some ⟨b, 0, none⟩)] w fun e w' => e = .returned (.tuple #[.slice none 0 0, .bool false]) ∧ w = w' := by
  obtain ⟨hb, hL, hd, hlen, fr, ring, hfr, hi, hg⟩ := h
  exact undo_none b ring fr _ d w hi

theorem hist_redo_none (b d : Nat) (L : List Nat) (U : List (List Value)) (w : World) (h : Hist w b d L U []) :
    Calls Try.prog 21 #[.pointer (some ⟨b, 0, none⟩)] w fun e w' => e = .returned (.tuple #[.slice none 0 0, .bool false]) ∧ w = w' := by
  obtain ⟨hb, hL, hd, hlen, fr, ring, hfr, hi, hg⟩ := h
  exact redo_none b ring fr _ d w hi
end Go.Proofs.Ytiiaphgencoijaa
