/-
  Package walk: the walk's own state as it lies in memory. No conditions beyond those that each lemma names.
-/
import Derived.Test.YtdcdhcgfhapbnaaDoorWalkR
import Derived.Test.YtdcdhcgfhapbnaaDoorFull
import Derived.Test.YtdcdhcgfhapbnaaDoorQuiet
import Derived.Test.YtdcdhcgfhapbnaaDoorDawgWp
import Derived.Test.YtdcdhcgfhapbnaaDoorConv
namespace Go.Proofs.YtdcdhcgfhapbnaaDoor
open Go Go.RowKit Go.Maps

def offCells (l : List (Wd × Nat)) : List Value := l.flatMap fun p => [Value.string ⟨p.1.toArray⟩, Value.int .i64 (p.2 : Int)]

/-- The walk's blocks that turn. -/
def Mut (F : Nat) (wv lv : Value) (k : Nat) : Prop := k = F ∨ wv.ownBlock = some k ∨ lv.ownBlock = some k

/-- A walk under way, as it lies in memory. -/
structure Wk (w : World) (F base : Nat) (aV cV : Value) (most : Nat) (wv lv : Value) (word : Wd) (f : Fi) : Prop where
  hF : w.heap[F]? = some (.cells #[aV, cV, .int .i64 (most : Int), wv, lv, .int .i64 (f.steps : Int)] 87 (0, 0))
  word : w.ownsRow base 5 1 wv word.length (Lib.byteCells word)
  offers : w.ownsRow base 41 2 lv f.l.length (offCells f.l)
  apart : wv.ownBlock = none ∨ wv.ownBlock ≠ lv.ownBlock
  small : F < base

/-- What stays: the automaton, the codes, the tables, the captured variables. -/
structure Fx (w0 : World) (pa pc pf po F base B M base0 : Nat) (lvb : Value) (start : Int) (sts : List DSt) (CA : Option Addr) (n cc : Nat) (codes : List Int) : Prop where
  bd : Bd w0 (fun _ => False) B M base0 lvb start sts
  all : ∀ (i : Nat) (s : DSt), sts[i]? = some s → s.2.Pairwise (fun a b => a.1 < b.1) ∧ ∀ e ∈ s.2, e.2 < i
  hn : codes.length = n
  hn2 : n ≤ 1000
  codes : Sl w0 1 CA n (intCells codes)
  tabs : Lib.Utf8Tabs 0 1 w0
  hF : w0.heap.size ≤ F
  hb : w0.heap.size ≤ base
  ne : pa ≠ F ∧ pc ≠ F ∧ pf ≠ F ∧ po ≠ F
  lt : pa < base ∧ pc < base ∧ pf < base ∧ po < base

/-- The captured variables' cells. -/
structure Cap (w : World) (pa pc pf po F B : Nat) (CA : Option Addr) (n cc : Nat) : Prop where
  a : w.cell? ⟨pa, 0, none⟩ = some (.pointer (some ⟨B, 0, none⟩))
  c : w.cell? ⟨pc, 0, none⟩ = some (.slice CA n cc)
  f : w.cell? ⟨pf, 0, none⟩ = some (.pointer (some ⟨F, 0, none⟩))
  o : w.cell? ⟨po, 0, none⟩ = some (.func (.func 66) #[] #[.pointer (some ⟨pa, 0, none⟩), .pointer (some ⟨pc, 0, none⟩), .pointer (some ⟨pf, 0, none⟩), .pointer (some ⟨po, 0, none⟩)])

theorem Cap.kept {w w' : World} {pa pc pf po F B : Nat} {CA : Option Addr} {n cc : Nat} (h : Cap w pa pc pf po F B CA n cc) {S : Nat → Prop} (g : Kp S w w') (hS : ¬ S pa ∧ ¬ S pc ∧ ¬ S pf ∧ ¬ S po) : Cap w' pa pc pf po F B CA n cc :=
  ⟨g.cell h.a hS.1, g.cell h.c hS.2.1, g.cell h.f hS.2.2.1, g.cell h.o hS.2.2.2⟩

theorem own_ge' {w : World} {base : Nat} {e : TypeId} {size n : Nat} {v : Value} {xs : List Value} (h : w.ownsRow base e size v n xs) {k : Nat} (hk : v.ownBlock = some k) : base ≤ k ∧ k < w.heap.size := by
  rcases h.2 with ⟨hv, _⟩ | ⟨q, cap, _, hv, hb, hh, _⟩
  · rw [hv] at hk; simp [Value.ownBlock] at hk
  · rw [hv] at hk; simp [Value.ownBlock] at hk; subst hk; exact ⟨hb, heap_lt hh⟩

theorem Wk.kept {w w' : World} {F base most : Nat} {aV cV wv lv : Value} {word : Wd} {f : Fi} (h : Wk w F base aV cV most wv lv word f) (g : w.grownBy w' none) : Wk w' F base aV cV most wv lv word f :=
  ⟨grownBy_heap g h.hF nofun, ownsRow_kept h.word g (own_none _), ownsRow_kept h.offers g (own_none _), h.apart, h.small⟩

/-- The captured variables are none of the blocks that turn. -/
theorem Wk.off {w : World} {F base most : Nat} {aV cV wv lv : Value} {word : Wd} {f : Fi} (h : Wk w F base aV cV most wv lv word f) {k : Nat} (h1 : k ≠ F) (h2 : k < base) : ¬ Mut F wv lv k := by
  rintro (e | e | e)
  · exact h1 e
  · have := (own_ge' h.word e).1; omega
  · have := (own_ge' h.offers e).1; omega

theorem Wk.mut {w : World} {F base most : Nat} {aV cV wv lv : Value} {word : Wd} {f : Fi} (h : Wk w F base aV cV most wv lv word f) {k : Nat} (hk : Mut F wv lv k) : k < w.heap.size := by
  rcases hk with rfl | e | e
  · exact heap_lt h.hF
  · exact (own_ge' h.word e).2
  · exact (own_ge' h.offers e).2

theorem kp_grown {w0 a b : World} {S : Nat → Prop} (h : w0.grownBy a none) (k : Kp S a b) (hS : ∀ i, S i → w0.heap.size ≤ i) : w0.grownBy b none :=
  ⟨k.os.trans h.os, k.tape.trans h.tape, k.output.trans h.output, Nat.le_trans h.size k.size, fun i hi _ => by
    rw [k.block i (Nat.lt_of_lt_of_le hi h.size) (fun s => by have := hS i s; omega), h.block i hi nofun]⟩

theorem Wk.low {w w0 : World} {F base most : Nat} {aV cV wv lv : Value} {word : Wd} {f : Fi} (h : Wk w F base aV cV most wv lv word f) (h1 : w0.heap.size ≤ F) (h2 : w0.heap.size ≤ base) : ∀ i, Mut F wv lv i → w0.heap.size ≤ i := by
  rintro i (e | e | e)
  · omega
  · have := (own_ge' h.word e).1; omega
  · have := (own_ge' h.offers e).1; omega

/-- Where the loop over the edges stands. -/
structure LoopAt (w : World) (F base : Nat) (aV cV : Value) (most : Nat) (wv lv : Value) (word : Wd) (es : List DEdge) (step : Fi → DEdge → Fi) (f1 : Fi) (OA : Option Addr) (t : Nat) (wv' lv' : Value) (wr : World) : Prop where
  le : t ≤ es.length
  wk : Wk wr F base aV cV most wv' lv' word ((es.take t).foldl step f1)
  kp : Kp (Mut F wv lv) w wr
  old : ∀ k, Mut F wv' lv' k → Mut F wv lv k ∨ w.heap.size ≤ k
  out : Sl wr 1 OA es.length (Lib.byteCells (es.map (·.1)))
  off : ∀ l, Mut F wv' lv' l → Off OA es.length l

def LoopRel (w : World) (F base : Nat) (aV cV : Value) (most : Nat) (wv lv : Value) (word : Wd) (es : List DEdge) (step : Fi → DEdge → Fi) (f1 : Fi) (OA : Option Addr) (iv : Value) (wr : World) : Prop :=
  ∃ t wv' lv', iv = .int .i64 (t : Nat) ∧ LoopAt w F base aV cV most wv lv word es step f1 OA t wv' lv' wr

/-- What a call of 'on' leaves. -/
def OnRes (F base : Nat) (aV cV : Value) (most : Nat) (wv lv : Value) (word : Wd) (f' : Fi) (w : World) (e : Ending) (w' : World) : Prop :=
  ∃ wv' lv', e = .returned (.tuple #[]) ∧ Wk w' F base aV cV most wv' lv' word f' ∧ Kp (Mut F wv lv) w w' ∧ ∀ k, Mut F wv' lv' k → Mut F wv lv k ∨ w.heap.size ≤ k

/-- 'on' does what onS says. -/
def OnDoes (fuel : Nat) : Prop := ∀ (w0 : World) (pa pc pf po F base B M base0 : Nat) (lvb : Value) (start : Int) (sts : List DSt) (CA : Option Addr) (n cc : Nat) (codes : List Int), Fx w0 pa pc pf po F base B M base0 lvb start sts CA n cc codes →
  ∀ (w : World) (state part most Mx : Nat) (last : Option (List Nat)) (was : List Nat) (before : Int) (lastv wv lv : Value) (WA : Option Addr) (wc : Nat) (word : Wd) (f : Fi),
  w0.grownBy w none → base ≤ w.heap.size → Cap w pa pc pf po F B CA n cc → Wk w F base (.pointer (some ⟨B, 0, none⟩)) (.slice CA n cc) most wv lv word f →
  LastIs w lastv (n + 1) last → (∀ A k c, lastv = .slice A k c → ∀ l, Mut F wv lv l → Off A k l) → Sl w 1 WA (n + 1) (natCells was) → (∀ l, Mut F wv lv l → Off WA (n + 1) l) → was.length = n + 1 →
  (∀ j, was.getD j 0 ≤ Mx) → (∀ la, last = some la → ∀ j, la.getD j 0 ≤ Mx) → Mx + fuel ≤ 1000000 → state < fuel → word.length + fuel ≤ 1000000 → part ≤ word.length →
  (onS sts codes most fuel state part last was before word f).steps ≤ 1000000 → (onS sts codes most fuel state part last was before word f).l.length ≤ 1000000 →
  Calls Tryd.prog 66 #[.int .i64 state, .int .i64 part, lastv, .slice WA (n + 1) wc, .int .i64 before, .pointer (some ⟨pa, 0, none⟩), .pointer (some ⟨pc, 0, none⟩), .pointer (some ⟨pf, 0, none⟩), .pointer (some ⟨po, 0, none⟩)] w
    (OnRes F base (.pointer (some ⟨B, 0, none⟩)) (.slice CA n cc) most wv lv word (onS sts codes most fuel state part last was before word f) w)

/-! ### The numbers only grow -/
theorem fold_grows {α : Type} (g : Fi → α → Fi) (hg : ∀ f e, f.steps ≤ (g f e).steps ∧ f.l.length ≤ (g f e).l.length) : ∀ (es : List α) (f : Fi), f.steps ≤ (es.foldl g f).steps ∧ f.l.length ≤ (es.foldl g f).l.length
  | [], f => ⟨Nat.le_refl _, Nat.le_refl _⟩
  | e :: es, f => by
    have h1 := hg f e
    have h2 := fold_grows g hg es (g f e)
    exact ⟨Nat.le_trans h1.1 h2.1, Nat.le_trans h1.2 h2.2⟩

/-- One edge of the walk. -/
def edgeS (sts : List DSt) (codes : List Int) (most fuel part : Nat) (last : Option (List Nat)) (was : List Nat) (before : Int) (word : Wd) (g : Fi) (e : DEdge) : Fi :=
  let s := (word ++ [e.1]).drop (word.length - part)
  let g1 : Fi := ⟨g.l, g.steps + 1⟩
  if 0 ≤ codeB s then
    let row := rowS codes last was before (codeB s) codes.length
    if leastS row ≤ most then onS sts codes most fuel e.2 0 (some was) row (codeB s) (word ++ [e.1]) g1 else g1
  else if fullB s then g1
  else onS sts codes most fuel e.2 (part + 1) last was before (word ++ [e.1]) g1

def beginS (sts : List DSt) (codes : List Int) (most state part : Nat) (was : List Nat) (word : Wd) (f : Fi) : Fi :=
  if part = 0 ∧ (stAt sts state).1 = true ∧ was.getD codes.length 0 ≤ most then ⟨f.l ++ [(word, was.getD codes.length 0)], f.steps⟩ else f

theorem onS_succ (sts : List DSt) (codes : List Int) (most fuel state part : Nat) (last : Option (List Nat)) (was : List Nat) (before : Int) (word : Wd) (f : Fi) :
    onS sts codes most (fuel + 1) state part last was before word f = (stAt sts state).2.foldl (edgeS sts codes most fuel part last was before word) (beginS sts codes most state part was word f) := rfl

theorem onS_grows (sts : List DSt) (codes : List Int) (most : Nat) : ∀ (fuel state part : Nat) (last : Option (List Nat)) (was : List Nat) (before : Int) (word : Wd) (f : Fi),
    f.steps ≤ (onS sts codes most fuel state part last was before word f).steps ∧ f.l.length ≤ (onS sts codes most fuel state part last was before word f).l.length
  | 0, _, _, _, _, _, _, f => ⟨Nat.le_refl _, Nat.le_refl _⟩
  | fuel + 1, state, part, last, was, before, word, f => by
    rw [onS_succ]
    have hb : f.steps ≤ (beginS sts codes most state part was word f).steps ∧ f.l.length ≤ (beginS sts codes most state part was word f).l.length := by
      unfold beginS; split
      · simp
      · exact ⟨Nat.le_refl _, Nat.le_refl _⟩
    have he := fold_grows (edgeS sts codes most fuel part last was before word) (fun g e => by
      have h0 : g.steps ≤ (⟨g.l, g.steps + 1⟩ : Fi).steps := Nat.le_succ _
      unfold edgeS
      simp only
      split
      · split
        · have := onS_grows sts codes most fuel e.2 0 (some was) (rowS codes last was before (codeB ((word ++ [e.1]).drop (word.length - part))) codes.length) (codeB ((word ++ [e.1]).drop (word.length - part))) (word ++ [e.1]) ⟨g.l, g.steps + 1⟩
          exact ⟨Nat.le_trans h0 this.1, this.2⟩
        · exact ⟨h0, Nat.le_refl _⟩
      · split
        · exact ⟨h0, Nat.le_refl _⟩
        · have := onS_grows sts codes most fuel e.2 (part + 1) last was before (word ++ [e.1]) ⟨g.l, g.steps + 1⟩
          exact ⟨Nat.le_trans h0 this.1, this.2⟩) (stAt sts state).2 (beginS sts codes most state part was word f)
    exact ⟨Nat.le_trans hb.1 he.1, Nat.le_trans hb.2 he.2⟩

theorem edgeS_grows (sts : List DSt) (codes : List Int) (most fuel part : Nat) (last : Option (List Nat)) (was : List Nat) (before : Int) (word : Wd) (g : Fi) (e : DEdge) :
    g.steps ≤ (edgeS sts codes most fuel part last was before word g e).steps ∧ g.l.length ≤ (edgeS sts codes most fuel part last was before word g e).l.length := by
  have h0 : g.steps ≤ (⟨g.l, g.steps + 1⟩ : Fi).steps := Nat.le_succ _
  unfold edgeS
  simp only
  split
  · split
    · have := onS_grows sts codes most fuel e.2 0 (some was) (rowS codes last was before (codeB ((word ++ [e.1]).drop (word.length - part))) codes.length) (codeB ((word ++ [e.1]).drop (word.length - part))) (word ++ [e.1]) ⟨g.l, g.steps + 1⟩
      exact ⟨Nat.le_trans h0 this.1, this.2⟩
    · exact ⟨h0, Nat.le_refl _⟩
  · split
    · exact ⟨h0, Nat.le_refl _⟩
    · have := onS_grows sts codes most fuel e.2 (part + 1) last was before (word ++ [e.1]) ⟨g.l, g.steps + 1⟩
      exact ⟨Nat.le_trans h0 this.1, this.2⟩
end Go.Proofs.YtdcdhcgfhapbnaaDoor
