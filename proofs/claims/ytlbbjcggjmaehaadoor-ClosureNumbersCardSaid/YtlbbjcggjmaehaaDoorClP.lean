/-
  Conditions, rules, entries as plain data; how they lie in memory; what a rule makes of a word. No conditions beyond those that each lemma names.
-/
import Derived.Test.YtlbbjcggjmaehaaDoorUnits
namespace Go.Proofs.YtlbbjcggjmaehaaDoor
open Go Go.RowKit Go.Maps

/-- An item: any, not, its codes (and where they lie). -/
structure It where
  any : Bool
  neg : Bool
  S : Option Addr
  cap : Nat
  set : List Int

/-- A rule (and where its condition lies). -/
structure Ru where
  pre : Bool
  flag : Int
  cross : Bool
  strip : Wd
  add : Wd
  C : Option Addr
  cap : Nat
  cond : List It

/-- An entry (and where its flags lie). -/
structure En where
  word : Wd
  F : Option Addr
  cap : Nat
  flags : List Int

def strV (s : Wd) : Value := .string ⟨s.toArray⟩
def It.row (x : It) : List Value := [.bool x.any, .bool x.neg, .slice x.S x.set.length x.cap]
def itCells (l : List It) : List Value := l.flatMap It.row
def Ru.row (r : Ru) : List Value := [.bool r.pre, .int .i64 r.flag, .bool r.cross, .string ⟨r.strip.toArray⟩, .string ⟨r.add.toArray⟩, .slice r.C r.cond.length r.cap]
def Ru.val (r : Ru) : Value := .agg #[.bool r.pre, .int .i64 r.flag, .bool r.cross, .string ⟨r.strip.toArray⟩, .string ⟨r.add.toArray⟩, .slice r.C r.cond.length r.cap]
def ruCells (l : List Ru) : List Value := l.flatMap Ru.row
def En.row (e : En) : List Value := [.string ⟨e.word.toArray⟩, .slice e.F e.flags.length e.cap]
def En.val (e : En) : Value := .agg #[.string ⟨e.word.toArray⟩, .slice e.F e.flags.length e.cap]
def enCells (l : List En) : List Value := l.flatMap En.row

/-- Items as they lie. -/
def CondAt (w : World) (C : Option Addr) (l : List It) : Prop := Sl w 3 C l.length (itCells l) ∧ ∀ x ∈ l, Sl w 1 x.S x.set.length (intCells x.set)

/-- A rule's parts are not too long. -/
structure RuSmall (r : Ru) : Prop where
  cond : r.cond.length ≤ 100000
  set : ∀ x ∈ r.cond, x.set.length ≤ 100000
  strip : r.strip.length ≤ 100000
  add : r.add.length ≤ 100000

def RuAt (w : World) (r : Ru) : Prop := CondAt w r.C r.cond ∧ RuSmall r
def RusAt (w : World) (A : Option Addr) (l : List Ru) : Prop := Sl w 6 A l.length (ruCells l) ∧ ∀ r ∈ l, RuAt w r
def EnAt (w : World) (e : En) : Prop := Sl w 1 e.F e.flags.length (intCells e.flags) ∧ e.word.length ≤ 100000 ∧ e.flags.length ≤ 100000

theorem CondAt.kept {w w' : World} {C : Option Addr} {l : List It} (h : CondAt w C l) (g : w.grownBy w' none) : CondAt w' C l := ⟨h.1.kept g nofun, fun x hx => (h.2 x hx).kept g nofun⟩
theorem RuAt.kept {w w' : World} {r : Ru} (h : RuAt w r) (g : w.grownBy w' none) : RuAt w' r := ⟨h.1.kept g, h.2⟩
theorem RusAt.kept {w w' : World} {A : Option Addr} {l : List Ru} (h : RusAt w A l) (g : w.grownBy w' none) : RusAt w' A l := ⟨h.1.kept g nofun, fun r hr => (h.2 r hr).kept g⟩
theorem EnAt.kept {w w' : World} {e : En} (h : EnAt w e) (g : w.grownBy w' none) : EnAt w' e := ⟨h.1.kept g nofun, h.2⟩

theorem flat_get {α : Type} {f : α → List Value} {k : Nat} (hf : ∀ a, (f a).length = k) : ∀ {l : List α} {i : Nat} {a : α}, l[i]? = some a → ∀ j, j < k → (l.flatMap f)[i * k + j]? = (f a)[j]?
  | [], i, a, h, _, _ => by simp at h
  | b :: l, 0, a, h, j, hj => by
    simp at h; subst h
    rw [List.flatMap_cons, Nat.zero_mul, Nat.zero_add, List.getElem?_append_left (by rw [hf]; exact hj)]
  | b :: l, i + 1, a, h, j, hj => by
    have e : (i + 1) * k + j = (f b).length + (i * k + j) := by rw [hf, Nat.add_mul]; omega
    rw [List.flatMap_cons, e, List.getElem?_append_right (by omega), Nat.add_sub_cancel_left]
    exact flat_get hf (l := l) (by simpa using h) j hj

theorem flat_len {α : Type} {f : α → List Value} {k : Nat} (hf : ∀ a, (f a).length = k) : ∀ l : List α, (l.flatMap f).length = l.length * k
  | [] => by simp
  | b :: l => by rw [List.flatMap_cons, List.length_append, hf, flat_len hf l, List.length_cons, Nat.add_mul]; omega

theorem it_cell {w : World} {C : Option Addr} {l : List It} (h : CondAt w C l) {i : Nat} {x : It} (hx : l[i]? = some x) :
    ∃ q o, C = some ⟨q, o, none⟩ ∧ w.cell? ⟨q, o + i * 3, none⟩ = some (.bool x.any) ∧ w.cell? ⟨q, o + i * 3 + 1, none⟩ = some (.bool x.neg) ∧ w.cell? ⟨q, o + i * 3 + 2, none⟩ = some (.slice x.S x.set.length x.cap) := by
  have hi := (List.getElem?_eq_some_iff.1 hx).1
  obtain ⟨q, o, rfl, hc⟩ := h.1.2.2 (by omega)
  have hg := flat_get (f := It.row) (k := 3) (fun _ => rfl) hx
  refine ⟨q, o, rfl, hc _ _ (hg 0 (by omega)), ?_, ?_⟩
  · rw [Nat.add_assoc]; exact hc _ _ (hg 1 (by omega))
  · rw [Nat.add_assoc]; exact hc _ _ (hg 2 (by omega))

theorem ru_cell {w : World} {A : Option Addr} {l : List Ru} (h : RusAt w A l) {i : Nat} {r : Ru} (hr : l[i]? = some r) :
    ∃ q o, A = some ⟨q, o, none⟩ ∧ w.cell? ⟨q, o + i * 6, none⟩ = some (.bool r.pre) ∧ w.cell? ⟨q, o + i * 6 + 1, none⟩ = some (.int .i64 r.flag) ∧ w.cell? ⟨q, o + i * 6 + 2, none⟩ = some (.bool r.cross) ∧
      w.cell? ⟨q, o + i * 6 + 3, none⟩ = some (.string ⟨r.strip.toArray⟩) ∧ w.cell? ⟨q, o + i * 6 + 4, none⟩ = some (.string ⟨r.add.toArray⟩) ∧ w.cell? ⟨q, o + i * 6 + 5, none⟩ = some (.slice r.C r.cond.length r.cap) := by
  have hi := (List.getElem?_eq_some_iff.1 hr).1
  obtain ⟨q, o, rfl, hc⟩ := h.1.2.2 (by omega)
  have hg := flat_get (f := Ru.row) (k := 6) (fun _ => rfl) hr
  refine ⟨q, o, rfl, hc _ _ (hg 0 (by omega)), ?_, ?_, ?_, ?_, ?_⟩
  · rw [Nat.add_assoc]; exact hc _ _ (hg 1 (by omega))
  · rw [Nat.add_assoc]; exact hc _ _ (hg 2 (by omega))
  · rw [Nat.add_assoc]; exact hc _ _ (hg 3 (by omega))
  · rw [Nat.add_assoc]; exact hc _ _ (hg 4 (by omega))
  · rw [Nat.add_assoc]; exact hc _ _ (hg 5 (by omega))

theorem int_at {w : World} {A : Option Addr} {l : List Int} (h : Sl w 1 A l.length (intCells l)) {i : Nat} {c : Int} (hc : l[i]? = some c) :
    ∃ q o, A = some ⟨q, o, none⟩ ∧ w.cell? ⟨q, o + i, none⟩ = some (.int .i64 c) := by
  have hi := (List.getElem?_eq_some_iff.1 hc).1
  obtain ⟨q, o, rfl, hk⟩ := h.2.2 (by omega)
  exact ⟨q, o, rfl, hk _ _ (by rw [intCells, List.getElem?_map, hc]; rfl)⟩

/-! ### What they say -/
def hasI (x : It) (c : Int) : Bool := x.any || (x.set.contains c != x.neg)

def startsS : List It → List Int → Bool
  | [], _ => true
  | _ :: _, [] => false
  | x :: l, c :: cs => hasI x c && startsS l cs

def endsS (l : List It) (cs : List Int) : Bool := decide (l.length ≤ cs.length) && startsS l (cs.drop (cs.length - l.length))

theorem startsS_short : ∀ {l : List It} {cs : List Int}, cs.length < l.length → startsS l cs = false
  | [], _, h => by simp at h
  | _ :: _, [], _ => rfl
  | x :: l, c :: cs, h => by
    unfold startsS
    rw [startsS_short (l := l) (cs := cs) (by simpa using h), Bool.and_false]

theorem startsS_iff : ∀ {l : List It} {cs : List Int}, l.length ≤ cs.length → (startsS l cs = true ↔ ∀ (i : Nat) (x : It) (c : Int), l[i]? = some x → cs[i]? = some c → hasI x c = true)
  | [], _, _ => by simp [startsS]
  | _ :: _, [], h => by simp at h
  | x :: l, c :: cs, h => by
    unfold startsS
    rw [Bool.and_eq_true, startsS_iff (l := l) (cs := cs) (by simpa using h)]
    constructor
    · rintro ⟨h1, h2⟩ i y d hy hd
      rcases i with _ | i
      · simp at hy hd; subst hy hd; exact h1
      · exact h2 i y d (by simpa using hy) (by simpa using hd)
    · intro h1
      exact ⟨h1 0 x c (by simp) (by simp), fun i y d hy hd => h1 (i + 1) y d (by simpa using hy) (by simpa using hd)⟩

def appliesS (r : Ru) (word : Wd) : Bool :=
  match codesB word with
  | none => false
  | some cs => if r.pre then r.strip.isPrefixOf word && startsS r.cond cs else r.strip.isSuffixOf word && endsS r.cond cs

def applyTo (r : Ru) (word : Wd) : Wd := if r.pre then r.add ++ word.drop r.strip.length else word.take (word.length - r.strip.length) ++ r.add

def applyS (r : Ru) (word : Wd) : Option Wd := if appliesS r word = true ∧ applyTo r word ≠ [] then some (applyTo r word) else none

def bothTo (p x : Ru) (word : Wd) : Wd := p.add ++ (word.take (word.length - x.strip.length)).drop p.strip.length ++ x.add

def bothS (p x : Ru) (word : Wd) : Option Wd :=
  if (applyS p word).isSome ∧ (applyS x word).isSome ∧ p.pre = true ∧ x.pre = false ∧ p.cross = true ∧ x.cross = true ∧ p.strip.length + x.strip.length ≤ word.length ∧ bothTo p x word ≠ [] then some (bothTo p x word) else none

/-- What an Apply answers. -/
def OptRes (o : Option Wd) (w : World) (e : Ending) (w' : World) : Prop :=
  w.grownBy w' none ∧ ((∃ s, o = some s ∧ e = .returned (.tuple #[.string ⟨s.toArray⟩, .bool true])) ∨ (∃ s : Wd, s = [] ∧ o = none ∧ e = .returned (.tuple #[.string ⟨s.toArray⟩, .bool false])))

/-- .. as a value. -/
def optV (o : Option Wd) : Value := .tuple #[.string ⟨(o.getD []).toArray⟩, .bool o.isSome]

theorem OptRes.val {o : Option Wd} {w : World} {e : Ending} {w' : World} (h : OptRes o w e w') : e = .returned (optV o) ∧ w.grownBy w' none := by
  obtain ⟨hg, ⟨s, rfl, rfl⟩ | ⟨s, rfl, rfl, rfl⟩⟩ := h
  · exact ⟨rfl, hg⟩
  · exact ⟨rfl, hg⟩

/-- The rules that play a part for an entry. -/
def mine (e : En) (l : List Ru) : List Ru := l.filter fun r => e.flags.contains r.flag

/-- An entry's forms, in the order in which put finds them. -/
def formsP (rules : List Ru) (e : En) : List Wd :=
  [e.word] ++ (mine e rules).filterMap (fun r => applyS r e.word) ++ (mine e rules).flatMap (fun p => (mine e rules).filterMap fun x => bothS p x e.word)
end Go.Proofs.YtlbbjcggjmaehaaDoor
