/-
  A region that draws its order and whose operations and callees leave what was there alone (they may make memory): one walk in the text's order. No conditions beyond those that each law names.
-/
import Derived.Test.YtlbbjcggjmaehaaDoorHeap
import Derived.Deep.QuietTactic
namespace Go.Proofs.YtlbbjcggjmaehaaDoor
open Go Go.RowKit

/-- The class of worlds: whatever has been made since w, w's own memory as it was. -/
def Since (w w' : World) : Prop := w.grownBy w' none

/-- The lexical walk, shut (so that nothing lays it open unasked). -/
structure QW (P : Program) (ops : Array Oper) (C : World → Prop) (Q : Act → Prop) (l : List Oper) (a : Act) : Prop where
  out : wpQuiet P ops C Q l a

theorem region_since {P : Program} {id : Nat} {Q : Exit → Act → World → Prop} {a : Act} {w : World} {l : List Oper} (hm : P.follows .mixedOrders = true) (hB : Region.lexB .any l.toArray = true)
    (h : QW P l.toArray (Since w) (fun a' => ∀ w', Since w w' → Q .normal a' w') l a) : (Code.region id l.toArray true).wp P Q a w :=
  wp_region_quiet hm hB (show w.grownBy w.drew none from grownBy_drew (grownBy_refl w none)) (by simpa using h.out)

variable {P : Program} {ops : Array Oper} {C : World → Prop} {Q : Act → Prop} {o : Oper} {rest : List Oper} {a : Act}

theorem quiet_un (hw : Region.wanted o (yielded ops a.tmps) = false) (h : QW P ops C Q rest (a.put o.dst undef)) : QW P ops C Q (o :: rest) a :=
  ⟨by unfold wpQuiet; rw [if_neg (by rw [hw]; exact Bool.false_ne_true)]; exact h.out⟩

theorem quiet_val {v : Value} (hw : Region.wanted o (yielded ops a.tmps) = true) (hq : ∀ w, C w → o.quietAt P a C w v) (h : QW P ops C Q rest (a.put o.dst v)) : QW P ops C Q (o :: rest) a :=
  ⟨by unfold wpQuiet; rw [if_pos hw]; exact ⟨v, hq, h.out⟩⟩

theorem quiet_end (h : Q a) : QW P ops C Q [] a := ⟨h⟩
end Go.Proofs.YtlbbjcggjmaehaaDoor
