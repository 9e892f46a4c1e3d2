/-
  Package walk: what the walk's step leans on: rows under way, the edges. No conditions beyond those that each lemma names.
-/
import Derived.Test.YtdcdhcgfhapbnaaDoorWalkD
namespace Go.Proofs.YtdcdhcgfhapbnaaDoor
open Go Go.RowKit Go.Maps

/-- The two rows of a call under way. -/
structure RowsAt (w : World) (S : Nat → Prop) (n Mx : Nat) (lastv : Value) (last : Option (List Nat)) (WA : Option Addr) (was : List Nat) : Prop where
  la : LastIs w lastv (n + 1) last
  lo : ∀ A k c, lastv = .slice A k c → ∀ l, S l → Off A k l
  wa : Sl w 1 WA (n + 1) (natCells was)
  wo : ∀ l, S l → Off WA (n + 1) l
  wl : was.length = n + 1
  wb : ∀ j, was.getD j 0 ≤ Mx
  lb : ∀ la, last = some la → ∀ j, la.getD j 0 ≤ Mx

theorem RowsAt.next {w w' : World} {S T : Nat → Prop} {n Mx : Nat} {lastv : Value} {last : Option (List Nat)} {WA : Option Addr} {was : List Nat} (h : RowsAt w S n Mx lastv last WA was) (g : Kp S w w')
    (hT : ∀ k, T k → S k ∨ w.heap.size ≤ k) : RowsAt w' T n Mx lastv last WA was := by
  have hsl : ∀ A k c, lastv = .slice A k c → ∀ l, T l → Off A k l := by
    intro A k c e l hl
    rcases hT l hl with h1 | h1
    · exact h.lo A k c e l h1
    · rcases h.la with ⟨_, e2⟩ | ⟨la, b, c', _, _, e2, hs⟩
      · rw [e2] at e; cases e; exact fun h0 => absurd h0 (by omega)
      · rw [e2] at e; cases e; exact hs.off_new (by decide) h1
  refine ⟨?_, hsl, g.sl h.wa (fun k _ hk => h.wo k hk), ?_, h.wl, h.wb, h.lb⟩
  · rcases h.la with h1 | ⟨la, b, c, h1, h2, h3, h4⟩
    · exact .inl h1
    · exact .inr ⟨la, b, c, h1, h2, h3, g.sl h4 (fun k _ hk => h.lo _ _ _ h3 k hk)⟩
  · intro l hl
    rcases hT l hl with h1 | h1
    · exact h.wo l h1
    · exact h.wa.off_new (by decide) h1

theorem RowsAt.kept {w w' : World} {S : Nat → Prop} {n Mx : Nat} {lastv : Value} {last : Option (List Nat)} {WA : Option Addr} {was : List Nat} (h : RowsAt w S n Mx lastv last WA was) (g : w.grownBy w' none) : RowsAt w' S n Mx lastv last WA was :=
  ⟨h.la.kept g, h.lo, h.wa.kept g nofun, h.wo, h.wl, h.wb, h.lb⟩

/-- A row more. -/
theorem RowsAt.push {w w' : World} {S : Nat → Prop} {n Mx : Nat} {lastv : Value} {last : Option (List Nat)} {WA : Option Addr} {was row : List Nat} {wc q rc : Nat} (h : RowsAt w S n Mx lastv last WA was) (g : w.grownBy w' none)
    (hS : ∀ k, S k → k < w.heap.size) (ho : w'.ownsRow w.heap.size 3 1 (.slice (some ⟨q, 0, none⟩) (n + 1) rc) (n + 1) (natCells row)) (hl : row.length = n + 1) (hb : ∀ d ∈ row, d ≤ Mx + 1) :
    RowsAt w' S n (Mx + 1) (.slice WA (n + 1) wc) (some was) (some ⟨q, 0, none⟩) row := by
  obtain ⟨b, o, e, _⟩ := h.wa.2.2 (by omega)
  have hq : w.heap.size ≤ q := (own_ge' ho rfl).1
  refine ⟨.inr ⟨was, ⟨b, o, none⟩, wc, rfl, h.wl, by rw [e], by rw [← e]; exact h.wa.kept g nofun⟩, ?_, Sl.of_own ho (fun x hx => by obtain ⟨d, _, rfl⟩ := List.mem_map.1 hx; rfl), ?_, hl, ?_, ?_⟩
  · intro A k c e l hl
    cases e
    exact h.wo l hl
  · intro l hl h0 a ha e2
    cases ha
    have := hS l hl
    simp only at e2
    omega
  · intro j
    rcases Nat.lt_or_ge j row.length with h1 | h1
    · rw [List.getD_eq_getElem?_getD, List.getElem?_eq_getElem h1]
      exact hb _ (List.getElem_mem h1)
    · rw [List.getD_eq_getElem?_getD, List.getElem?_eq_none h1]
      exact Nat.zero_le _
  · intro la hla j
    cases hla
    have := h.wb j; omega

theorem edgeS_far {sts : List DSt} {codes : List Int} {most fuel part : Nat} {last : Option (List Nat)} {was : List Nat} {before : Int} {word s : Wd} {g : Fi} {e : DEdge} (hs : (word ++ [e.1]).drop (word.length - part) = s)
    (h0 : 0 ≤ codeB s) (h1 : ¬ leastS (rowS codes last was before (codeB s) codes.length) ≤ most) : edgeS sts codes most fuel part last was before word g e = ⟨g.l, g.steps + 1⟩ := by
  unfold edgeS
  simp only [hs]
  rw [if_pos h0, if_neg h1]

theorem edgeS_near {sts : List DSt} {codes : List Int} {most fuel part : Nat} {last : Option (List Nat)} {was : List Nat} {before : Int} {word s : Wd} {g : Fi} {e : DEdge} (hs : (word ++ [e.1]).drop (word.length - part) = s)
    (h0 : 0 ≤ codeB s) (h1 : leastS (rowS codes last was before (codeB s) codes.length) ≤ most) :
    edgeS sts codes most fuel part last was before word g e = onS sts codes most fuel e.2 0 (some was) (rowS codes last was before (codeB s) codes.length) (codeB s) (word ++ [e.1]) ⟨g.l, g.steps + 1⟩ := by
  unfold edgeS
  simp only [hs]
  rw [if_pos h0, if_pos h1]

theorem edgeS_full {sts : List DSt} {codes : List Int} {most fuel part : Nat} {last : Option (List Nat)} {was : List Nat} {before : Int} {word s : Wd} {g : Fi} {e : DEdge} (hs : (word ++ [e.1]).drop (word.length - part) = s)
    (h0 : codeB s < 0) (h1 : fullB s = true) : edgeS sts codes most fuel part last was before word g e = ⟨g.l, g.steps + 1⟩ := by
  unfold edgeS
  simp only [hs]
  rw [if_neg (by omega), if_pos h1]

theorem edgeS_part {sts : List DSt} {codes : List Int} {most fuel part : Nat} {last : Option (List Nat)} {was : List Nat} {before : Int} {word s : Wd} {g : Fi} {e : DEdge} (hs : (word ++ [e.1]).drop (word.length - part) = s)
    (h0 : codeB s < 0) (h1 : fullB s = false) : edgeS sts codes most fuel part last was before word g e = onS sts codes most fuel e.2 (part + 1) last was before (word ++ [e.1]) ⟨g.l, g.steps + 1⟩ := by
  unfold edgeS
  simp only [hs]
  rw [if_neg (by omega), if_neg (by rw [h1]; exact Bool.false_ne_true)]

/-- The word's last byte away. -/
theorem own_less {w : World} {base : Nat} {e : TypeId} {A : Option Addr} {k c : Nat} {word : Wd} {b : UInt8} (hk : (word ++ [b]).length = k + 1) (h : w.ownsRow base e 1 (.slice A (k + 1) c) (k + 1) (Lib.byteCells (word ++ [b]))) : w.ownsRow base e 1 (.slice A k c) word.length (Lib.byteCells word) := by
  have hl : word.length = k := by rw [List.length_append] at hk; simpa using hk
  have h2 := own_cut h (m := k) (by omega)
  have e2 : (Lib.byteCells (word ++ [b])).take k = Lib.byteCells word := by
    unfold Lib.byteCells
    rw [List.map_append, List.take_left' (by simpa using hl)]
  rw [e2] at h2
  rw [hl]; exact h2
end Go.Proofs.YtdcdhcgfhapbnaaDoor
