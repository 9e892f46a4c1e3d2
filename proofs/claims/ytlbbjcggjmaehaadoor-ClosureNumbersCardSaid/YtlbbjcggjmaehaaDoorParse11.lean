/-
  ref11.Parse: the walk, by shape: no more rules than lines. Conditions: a text of at most 100000 bytes.
-/
import Derived.Test.YtlbbjcggjmaehaaDoorPair
import Derived.Test.YtlbbjcggjmaehaaDoorTail
import Derived.Deep.CutBlock
namespace Go.Proofs.YtlbbjcggjmaehaaDoor
open Go Go.RowKit Go.Maps

/-- A row's own block is not the other's. -/
def Df (v1 v2 : Value) : Prop := v1.ownBlock = none ∨ v1.ownBlock ≠ v2.ownBlock

theorem Df.left {v v' v2 : Value} {N : Nat} (h : Df v v2) (ha : v'.ownBlock = v.ownBlock ∨ v'.ownBlock = some N) (hl : ∀ b, v2.ownBlock = some b → b < N) : Df v' v2 := by
  rcases ha with e | e
  · unfold Df; rw [e]; exact h
  · refine .inr fun e2 => ?_
    rw [e] at e2
    exact absurd (hl N e2.symm) (Nat.lt_irrefl _)

theorem Df.right {v v' v2 : Value} {N : Nat} (h : Df v2 v) (ha : v'.ownBlock = v.ownBlock ∨ v'.ownBlock = some N) (hl : ∀ b, v2.ownBlock = some b → b < N) : Df v2 v' := by
  rcases ha with e | e
  · unfold Df; rw [e]; exact h
  · refine .inr fun e2 => ?_
    rw [e] at e2
    exact absurd (hl N e2) (Nat.lt_irrefl _)

/-- A rule's condition lies elsewhere than in block b. -/
def RuOff (r : Ru) (b : Nat) : Prop := Off r.C r.cond.length b ∧ ∀ x ∈ r.cond, Off x.S x.set.length b
def RuOffV (r : Ru) (v : Value) : Prop := ∀ b, v.ownBlock = some b → RuOff r b

theorem RuAt.keptR {w w' : World} {r : Ru} {o : Option Nat} (h : RuAt w r) (g : w.grownBy w' o) (ho : ∀ b, o = some b → RuOff r b) : RuAt w' r :=
  ⟨⟨h.1.1.kept g (fun l hl => (ho l hl).1), fun x hx => (h.1.2 x hx).kept g (fun l hl => (ho l hl).2 x hx)⟩, h.2⟩

theorem RuAt.off {w : World} {r : Ru} (h : RuAt w r) {b : Nat} (hb : w.heap.size ≤ b) : RuOff r b :=
  ⟨h.1.1.off_new (by decide) hb, fun x hx => (h.1.2 x hx).off_new (by decide) hb⟩

theorem RuOffV.next {u : World} {r : Ru} {v v' : Value} (h : RuOffV r v) (hr : RuAt u r) (ha : v'.ownBlock = v.ownBlock ∨ v'.ownBlock = some u.heap.size) : RuOffV r v' := by
  intro b hb
  rcases ha with e | e
  · exact h b (by rw [← e]; exact hb)
  · exact hr.off (Nat.le_of_eq (Option.some.inj (e.symm.trans hb)))

/-- The three rows. -/
structure R11 (AB : Nat) (wr : World) (rv pv tv : Value) (rn pn tn : Nat) (rs : List Ru) (ps : List (Int × Int)) (ts : List Int) : Prop where
  rlen : rs.length = rn
  plen : ps.length = pn
  tlen : ts.length = tn
  rown : wr.ownsRow (AB + 1) 51 6 rv rn (ruCells rs)
  pown : wr.ownsRow (AB + 1) 71 2 pv pn (prCells ps)
  town : wr.ownsRow (AB + 1) 3 1 tv tn (intCells ts)
  rp : Df rv pv
  pr : Df pv rv
  rt : Df rv tv
  tr : Df tv rv
  pt : Df pv tv
  tp : Df tv pv
  ats : ∀ r ∈ rs, RuAt wr r
  offA : ∀ r ∈ rs, ∀ b, b ≤ AB → RuOff r b
  offR : ∀ r ∈ rs, RuOffV r rv
  offP : ∀ r ∈ rs, RuOffV r pv
  offT : ∀ r ∈ rs, RuOffV r tv

variable {AB : Nat} {wr u w' : World} {rv pv tv v' : Value} {rn pn tn : Nat} {rs : List Ru} {ps : List (Int × Int)} {ts : List Int}

theorem own_off {w : World} {AB e size n : Nat} {v : Value} {xs : List Value} {o : Option Nat} (h : w.ownsRow (AB + 1) e size v n xs) (ho : o = none ∨ o = some AB) : v.ownBlock = none ∨ v.ownBlock ≠ o := by
  rcases ho with rfl | rfl
  · exact own_none v
  · refine .inr fun e => ?_
    have := (h.lt AB e).1
    omega

theorem R11.start (AB : Nat) (w : World) : R11 AB w (.slice none 0 0) (.slice none 0 0) (.slice none 0 0) 0 0 0 [] [] [] := by
  refine ⟨rfl, rfl, rfl, World.ownsRow_nil _ _ _ _, World.ownsRow_nil _ _ _ _, World.ownsRow_nil _ _ _ _, .inl rfl, .inl rfl, .inl rfl, .inl rfl, .inl rfl, .inl rfl, ?_, ?_, ?_, ?_, ?_⟩ <;> simp

theorem R11.grow {o : Option Nat} (h : R11 AB wr rv pv tv rn pn tn rs ps ts) (g : wr.grownBy u o) (ho : o = none ∨ o = some AB) : R11 AB u rv pv tv rn pn tn rs ps ts :=
  { h with
    rown := ownsRow_kept h.rown g (own_off h.rown ho)
    pown := ownsRow_kept h.pown g (own_off h.pown ho)
    town := ownsRow_kept h.town g (own_off h.town ho)
    ats := fun r hr => (h.ats r hr).keptR g (fun b hb => by
      rcases ho with rfl | rfl
      · cases hb
      · cases hb; exact h.offA r hr _ (Nat.le_refl _)) }

theorem prCells_snoc (l : List (Int × Int)) (x : Int × Int) : prCells (l ++ [x]) = prCells l ++ [.int .i64 x.1, .int .i64 x.2] := by simp [prCells]
theorem ruCells_snoc (l : List Ru) (x : Ru) : ruCells (l ++ [x]) = ruCells l ++ x.row := by simp [ruCells]
theorem intCells_snoc (l : List Int) (x : Int) : intCells (l ++ [x]) = intCells l ++ [.int .i64 x] := by simp [intCells]
theorem len_snoc {α : Type} {l : List α} {n : Nat} (h : l.length = n) (x : α) : (l ++ [x]).length = n + 1 := by rw [List.length_append, h]; rfl

theorem R11.addP (h : R11 AB u rv pv tv rn pn tn rs ps ts) {x : Int × Int} (ha : Appended (AB + 1) 71 2 pv (pn + 1) (prCells ps ++ [.int .i64 x.1, .int .i64 x.2]) u v' w') :
    R11 AB w' rv v' tv rn (pn + 1) tn rs (ps ++ [x]) ts := by
  obtain ⟨hown, hg, hat⟩ := ha
  exact { h with
    plen := len_snoc h.plen x
    rown := ownsRow_kept h.rown hg h.rp
    pown := by rw [prCells_snoc]; exact hown
    town := ownsRow_kept h.town hg h.tp
    rp := h.rp.right hat (fun b hb => (h.rown.lt b hb).2)
    pr := h.pr.left hat (fun b hb => (h.rown.lt b hb).2)
    pt := h.pt.left hat (fun b hb => (h.town.lt b hb).2)
    tp := h.tp.right hat (fun b hb => (h.town.lt b hb).2)
    ats := fun r hr => (h.ats r hr).keptR hg (h.offP r hr)
    offP := fun r hr => (h.offP r hr).next (h.ats r hr) hat }

theorem R11.addT (h : R11 AB u rv pv tv rn pn tn rs ps ts) {x : Int} (ha : Appended (AB + 1) 3 1 tv (tn + 1) (intCells ts ++ [.int .i64 x]) u v' w') :
    R11 AB w' rv pv v' rn pn (tn + 1) rs ps (ts ++ [x]) := by
  obtain ⟨hown, hg, hat⟩ := ha
  exact { h with
    tlen := len_snoc h.tlen x
    rown := ownsRow_kept h.rown hg h.rt
    pown := ownsRow_kept h.pown hg h.pt
    town := by rw [intCells_snoc]; exact hown
    rt := h.rt.right hat (fun b hb => (h.rown.lt b hb).2)
    tr := h.tr.left hat (fun b hb => (h.rown.lt b hb).2)
    pt := h.pt.right hat (fun b hb => (h.pown.lt b hb).2)
    tp := h.tp.left hat (fun b hb => (h.pown.lt b hb).2)
    ats := fun r hr => (h.ats r hr).keptR hg (h.offT r hr)
    offT := fun r hr => (h.offT r hr).next (h.ats r hr) hat }

/-- A rule that is off all that is under way. -/
structure RuFresh (u : World) (AB : Nat) (rv pv tv : Value) (x : Ru) : Prop where
  ru : RuAt u x
  a : ∀ b, b ≤ AB → RuOff x b
  r : RuOffV x rv
  p : RuOffV x pv
  t : RuOffV x tv

theorem R11.addR (h : R11 AB u rv pv tv rn pn tn rs ps ts) {x : Ru} (hx : RuFresh u AB rv pv tv x) (ha : Appended (AB + 1) 51 6 rv (rn + 1) (ruCells rs ++ x.row) u v' w') :
    R11 AB w' v' pv tv (rn + 1) pn tn (rs ++ [x]) ps ts := by
  obtain ⟨hown, hg, hat⟩ := ha
  have hall : ∀ y ∈ rs ++ [x], RuFresh u AB rv pv tv y := by
    intro y hy
    rcases List.mem_append.1 hy with hy | hy
    · exact ⟨h.ats y hy, h.offA y hy, h.offR y hy, h.offP y hy, h.offT y hy⟩
    · rw [List.mem_singleton.1 hy]; exact hx
  exact { h with
    rlen := len_snoc h.rlen x
    rown := by rw [ruCells_snoc]; exact hown
    pown := ownsRow_kept h.pown hg h.pr
    town := ownsRow_kept h.town hg h.tr
    rp := h.rp.left hat (fun b hb => (h.pown.lt b hb).2)
    pr := h.pr.right hat (fun b hb => (h.pown.lt b hb).2)
    rt := h.rt.left hat (fun b hb => (h.town.lt b hb).2)
    tr := h.tr.right hat (fun b hb => (h.town.lt b hb).2)
    ats := fun r hr => (hall r hr).ru.keptR hg (hall r hr).r
    offA := fun r hr => (hall r hr).a
    offR := fun r hr => (hall r hr).r.next (hall r hr).ru hat
    offP := fun r hr => (hall r hr).p
    offT := fun r hr => (hall r hr).t }

/-- A rule in memory that is newer than all rows. -/
theorem R11.fresh {o : World} (h : R11 AB o rv pv tv rn pn tn rs ps ts) (hAB : AB < o.heap.size) {x : Ru} (hx : RuNew u o.heap.size x) : RuFresh u AB rv pv tv x :=
  ⟨hx.1, fun b hb => hx.2 b (by omega), fun b hb => hx.2 b (h.rown.lt b hb).2, fun b hb => hx.2 b (h.pown.lt b hb).2, fun b hb => hx.2 b (h.town.lt b hb).2⟩

theorem RuFresh.kept {u u' : World} {x : Ru} (h : RuFresh u AB rv pv tv x) (g : u.grownBy u' none) : RuFresh u' AB rv pv tv x := ⟨h.ru.kept g, h.a, h.r, h.p, h.t⟩

/-- A value that is a row: a slice. -/
theorem own_slice2 {w : World} {base : Nat} {e : TypeId} {size n : Nat} {v : Value} {xs : List Value} (h : w.ownsRow base e size v n xs) : ∃ A c, v = .slice A n c ∧ n ≤ c := by
  rcases h.2 with ⟨rfl, rfl⟩ | ⟨q, cap, _, hv, _, _, hc, _⟩
  · exact ⟨none, 0, rfl, Nat.le_refl _⟩
  · exact ⟨_, cap, hv, hc⟩

theorem ruCells_one2 (l : List Ru) : ∀ x ∈ ruCells l, x.oneCell' = true := by
  intro v hv
  obtain ⟨x, _, hx⟩ := List.mem_flatMap.1 hv
  simp only [Ru.row, List.mem_cons, List.not_mem_nil, or_false] at hx
  rcases hx with rfl | rfl | rfl | rfl | rfl | rfl <;> rfl

theorem prCells_one2 (l : List (Int × Int)) : ∀ x ∈ prCells l, x.oneCell' = true := by
  intro v hv
  obtain ⟨x, _, hx⟩ := List.mem_flatMap.1 hv
  simp only [List.mem_cons, List.not_mem_nil, or_false] at hx
  rcases hx with rfl | rfl <;> rfl

theorem R11.rus (h : R11 AB wr rv pv tv rn pn tn rs ps ts) {A : Option Addr} {c : Nat} (hv : rv = .slice A rn c) : RusAt wr A rs := by
  have ho := h.rown
  rw [hv] at ho
  have := Sl.of_own ho (ruCells_one2 _)
  rw [← h.rlen] at this
  exact ⟨this, h.ats⟩

theorem R11.rusB (h : R11 AB wr rv pv tv rn pn tn rs ps ts) {A : Option Addr} {c b : Nat} (hv : rv = .slice A rn c) (g : wr.grownBy u (some b)) (hb : b ≤ AB) : RusAt u A rs := by
  have ho := ownsRow_kept h.rown g (.inr (fun e => by have := (h.rown.lt b e).1; omega))
  rw [hv] at ho
  have := Sl.of_own ho (ruCells_one2 _)
  rw [← h.rlen] at this
  exact ⟨this, fun r hr => (h.ats r hr).keptR g (fun b' e => by cases e; exact h.offA r hr _ hb)⟩

theorem R11.at_ (h : R11 AB wr rv pv tv rn pn tn rs ps ts) {A : Option Addr} {c k : Nat} (hv : tv = .slice A tn c) (hk : k < tn) : ∃ q o v, A = some ⟨q, o, none⟩ ∧ wr.cell? ⟨q, o + k, none⟩ = some (.int .i64 v) ∧ AB < q := by
  have ho := h.town
  rw [hv] at ho
  have hs := Sl.of_own ho (by intro x hx; obtain ⟨d, _, rfl⟩ := List.mem_map.1 hx; rfl)
  rw [← h.tlen] at hs
  obtain ⟨v, hts⟩ : ∃ x, ts[k]? = some x := ⟨_, List.getElem?_eq_getElem (by rw [h.tlen]; exact hk)⟩
  obtain ⟨q, o, eA, hc⟩ := int_at hs hts
  obtain ⟨q2, cap, e2, _, hb, _⟩ := own_form ho (by omega)
  cases e2
  cases eA
  exact ⟨q, 0, v, rfl, hc, by omega⟩

theorem R11.prs (h : R11 AB wr rv pv tv rn pn tn rs ps ts) {A : Option Addr} {c : Nat} (hv : pv = .slice A pn c) : Sl wr 2 A pn (prCells ps) := by
  have ho := h.pown
  rw [hv] at ho
  exact Sl.of_own ho (prCells_one2 _)

theorem ru_info : (Tryd.prog.info? 51).map (fun i => (i.zero, i.size, i.bytes)) = some (some (.agg #[.bool false, .int .i64 0, .bool false, .string ⟨#[]⟩, .string ⟨#[]⟩, .slice none 0 0]), 6, 80) := by kernel_rfl
theorem pair_info : (Tryd.prog.info? 71).map (fun i => (i.zero, i.size, i.bytes)) = some (some (.agg #[.int .i64 0, .int .i64 0]), 2, 16) := by kernel_rfl

theorem load_affixes {u : World} {k : Nat} {a b : Option Addr} {n c m d : Nat} {fz : Nat × Nat} (h : u.heap[k]? = some (.cells #[.slice a n c, .slice b m d] 34 fz)) :
    (loadVar 34 ⟨k, 0, none⟩).run Tryd.prog u = .ok (.agg #[.slice a n c, .slice b m d]) u := by
  have c0 := cell_of_heap h 0
  have c1 := cell_of_heap h 1
  go_simp

theorem results_cell_tmp2 {fn : Func} {p q q2 : Tmp} {ty : TypeId} (h : fn.results = #[.cell p ty, .tmp q, .tmp q2]) {tmps : Array Value} {P : Program} {w : World} {a : Addr} {v u u2 : Value} (hp : tmps.getD p undef = .pointer (some a)) (hv : (loadVar ty a).run P w = .ok v w) (hq : tmps.getD q undef = u) (hq2 : tmps.getD q2 undef = u2) : (results fn tmps).run P w = .ok (.tuple #[v, u, u2]) w := by
  have hp' : tmps[p]?.getD undef = .pointer (some a) := by rw [← hp]; simp [Array.getD_eq_getD_getElem?]
  have hq' : tmps[q]?.getD undef = u := by rw [← hq]; simp [Array.getD_eq_getD_getElem?]
  have hq2' : tmps[q2]?.getD undef = u2 := by rw [← hq2]; simp [Array.getD_eq_getD_getElem?]
  simp only [results, h]
  simp [hp', hq', hq2', asAddr, hv, Result.andThen]

section
variable {P : Program} {ops : Array Oper} {Q : Exit → Act → World → Prop} {S : World → Prop}

/-- Whatever order is picked, S behind each operation; shut. -/
structure HW (P : Program) (ops : Array Oper) (Q : Exit → Act → World → Prop) (S : World → Prop) (f : Nat) (l : Array Bool) (a : Act) (w : World) : Prop where
  out : wpAnyH P .any ops Q S f l a w

theorem region_hw (S : World → Prop) {id : Nat} {a : Act} {w : World} (hm : P.follows .mixedOrders = true) (hS : S w.drew) (h : S w.drew → HW P ops Q S ops.size (Array.replicate ops.size false) a w.drew) : (Code.region id ops true).wp P Q a w :=
  wp_region_any hm (wpAny_of_held _ _ _ _ (h hS).out)

/-- An operation that yields in each world that meets S is taken first. -/
theorem hw_take (i : Nat) {oi : Oper} {v : Value} {f : Nat} {l : Array Bool} {a : Act} {w : World} (hi : ops[i]? = some oi) (hs : Region.noSelect ops = true)
    (hf : Region.free .any ops l i = true) (hr : (Region.ready .any ops l).contains i = true)
    (hQ : ∀ c a w, Q (.panic c) (a.put oi.dst v) w → Q (.panic c) a w) (hw : Region.wanted oi (yielded ops a.tmps) = true) (hy : ∀ u, S u → (execOp a.eval oi).run P u = .ok (.value v) u) (hS : S w)
    (h : HW P ops Q S f (l.setIfInBounds i true) (a.put oi.dst v) w) : HW P ops Q S (f + 1) l a w :=
  ⟨wpAnyH_take hi hs hf hr hQ (.inl ⟨hw, hy⟩) hS h.out⟩

/-- One that is not wanted is passed by. -/
theorem hw_skip (i : Nat) {oi : Oper} {f : Nat} {l : Array Bool} {a : Act} {w : World} (hi : ops[i]? = some oi) (hs : Region.noSelect ops = true)
    (hf : Region.free .any ops l i = true) (hr : (Region.ready .any ops l).contains i = true)
    (hQ : ∀ c a w, Q (.panic c) (a.put oi.dst undef) w → Q (.panic c) a w) (hw : Region.wanted oi (yielded ops a.tmps) = false) (hS : S w)
    (h : HW P ops Q S f (l.setIfInBounds i true) (a.put oi.dst undef) w) : HW P ops Q S (f + 1) l a w :=
  ⟨wpAnyH_take hi hs hf hr hQ (.inr ⟨hw, rfl⟩) hS h.out⟩

/-- The one operation that may come up. -/
theorem hw_one (i : Nat) {o : Oper} {f : Nat} {l : Array Bool} {a : Act} {w : World} (hr : Region.ready .any ops l = [i]) (ho : ops[i]? = some o)
    (h : ∀ K' : Act → World → Prop, Shut (∀ a w, S w → (S w → HW P ops Q S f (l.setIfInBounds i true) a w) → K' a w) → if Region.wanted o (yielded ops a.tmps) = true then Oper.wp P o a w K' Q else K' (a.put o.dst undef) w) :
    HW P ops Q S (f + 1) l a w := by
  refine ⟨⟨fun h0 => (by rw [h0] at hr; cases hr), fun j hj => ?_⟩⟩
  rw [hr, List.mem_singleton] at hj
  subst hj
  exact wpOp_step ho (fun K' hK => h K' (fun a w hS hW => hK a w ⟨hS, (hW hS).out⟩))

/-- Two that may come up. -/
theorem hw_two (i j : Nat) {oi oj : Oper} {f : Nat} {l : Array Bool} {a : Act} {w : World} (hr : Region.ready .any ops l = [i, j]) (hi : ops[i]? = some oi) (hj : ops[j]? = some oj)
    (h1 : ∀ K' : Act → World → Prop, Shut (∀ a w, S w → (S w → HW P ops Q S f (l.setIfInBounds i true) a w) → K' a w) → if Region.wanted oi (yielded ops a.tmps) = true then Oper.wp P oi a w K' Q else K' (a.put oi.dst undef) w)
    (h2 : ∀ K' : Act → World → Prop, Shut (∀ a w, S w → (S w → HW P ops Q S f (l.setIfInBounds j true) a w) → K' a w) → if Region.wanted oj (yielded ops a.tmps) = true then Oper.wp P oj a w K' Q else K' (a.put oj.dst undef) w) :
    HW P ops Q S (f + 1) l a w := by
  refine ⟨⟨fun h0 => (by rw [h0] at hr; cases hr), fun k hk => ?_⟩⟩
  rw [hr, List.mem_cons, List.mem_singleton] at hk
  rcases hk with rfl | rfl
  · exact wpOp_step hi (fun K' hK => h1 K' (fun a w hS hW => hK a w ⟨hS, (hW hS).out⟩))
  · exact wpOp_step hj (fun K' hK => h2 K' (fun a w hS hW => hK a w ⟨hS, (hW hS).out⟩))

theorem hw_done {f : Nat} {l : Array Bool} {a : Act} {w : World} (hr : Region.ready .any ops l = []) (h : Q .normal a w) : HW P ops Q S f l a w := by
  cases f with
  | zero => exact ⟨hr, h⟩
  | succ f => exact ⟨fun _ => h, by rw [hr]; simp⟩
end
end Go.Proofs.YtlbbjcggjmaehaaDoor

namespace Go.Proofs.YtlbbjcggjmaehaaDoor
open Go Go.RowKit Go.Maps

/-- A line that says nothing. -/
def skipB : Wd → Bool
  | [] => true
  | b :: _ => b == 35

theorem skip_cons (b : UInt8) (t : Wd) : ((b.toNat : Int) == 35) = skipB (b :: t) := by
  show _ = (b == 35)
  rw [Bool.eq_iff_iff, beq_iff_eq, beq_iff_eq]
  constructor
  · intro h
    have h2 : b.toNat = 35 := by omega
    exact UInt8.toNat_inj.1 h2
  · intro h; subst h; rfl

def apartB (l : List (Int × Int)) (a b : Int) : Bool := l.all fun x => !(x.1 == a) && !(x.1 == b) && !(x.2 == a) && !(x.2 == b)

theorem apartB_iff {l : List (Int × Int)} {a b : Int} (h : apartB l a b = true) : ApartP l a b := by
  intro x hx
  have := List.all_eq_true.1 h x hx
  simpa [Bool.and_eq_true, and_assoc] using this

abbrev St11 := List (Int × Int) × List (Int × Bool)

/-- What a line adds. -/
def step11 (x : Wd) (st : St11) : Option St11 :=
  if skipB x = true then some st
  else if caseB x = true then (pairF x).bind fun p => if apartB st.1 p.1 p.2 = true then some (st.1 ++ [p], st.2) else none
  else (ruleF x).map fun f => (st.1, st.2 ++ [f])

def fold11 : List Wd → St11 → Option St11
  | [], st => some st
  | x :: xs, st => (step11 x st).bind (fold11 xs)

def noConf (l : List (Int × Bool)) : Bool := l.all fun x => l.all fun y => !(x.1 == y.1 && x.2 != y.2)

def ok11 (r : St11) : Bool := decide (r.1.length ≤ 200) && decide (r.2.length ≤ 200) && noConf r.2

/-- A rule's flag and side. -/
def fpR (r : Ru) : Int × Bool := (r.flag, r.pre)

theorem drop_consW {l : List Wd} {i : Nat} {b : Wd} (h : l[i]? = some b) : l.drop i = b :: l.drop (i + 1) := by
  have hl := (List.getElem?_eq_some_iff.1 h).1
  rw [List.drop_eq_getElem_cons hl]
  rw [List.getElem?_eq_getElem hl] at h
  rw [Option.some.inj h]

/-- The state of the reading: if all is well, so far and from here on. -/
def Well (G : Option St11) (W : List Wd) (i bad : Nat) (ps : List (Int × Int)) (rs : List Ru) : Prop :=
  ∀ r, G = some r → bad = 0 ∧ fold11 (W.drop i) (ps, rs.map fpR) = some r

theorem Well.skip {G : Option St11} {W : List Wd} {i bad : Nat} {ps : List (Int × Int)} {rs : List Ru} (h : Well G W i bad ps rs) {x : Wd} (hx : W[i]? = some x) (hs : skipB x = true) : Well G W (i + 1) bad ps rs := by
  intro r hr
  obtain ⟨h1, h2⟩ := h r hr
  rw [drop_consW hx] at h2
  refine ⟨h1, ?_⟩
  rw [← h2]
  show _ = (step11 x _).bind _
  unfold step11
  rw [if_pos hs]; rfl

theorem Well.pair {G : Option St11} {W : List Wd} {i bad : Nat} {ps : List (Int × Int)} {rs : List Ru} (h : Well G W i bad ps rs) {x : Wd} (hx : W[i]? = some x) (hs : skipB x = false) {g s : Int}
    (hp : ∀ a b, pairF x = some (a, b) → ApartP ps a b → true = true ∧ g = a ∧ s = b) (hc : caseB x = false → true = false) : Well G W (i + 1) bad (ps ++ [(g, s)]) rs := by
  intro r hr
  obtain ⟨h1, h2⟩ := h r hr
  rw [drop_consW hx] at h2
  refine ⟨h1, ?_⟩
  have hcb : caseB x = true := by cases e : caseB x; exact absurd (hc e) (by decide); rfl
  have h3 : (step11 x (ps, rs.map fpR)).bind (fold11 (W.drop (i + 1))) = some r := h2
  unfold step11 at h3
  rw [if_neg (by rw [hs]; decide), if_pos hcb] at h3
  cases hpf : pairF x with
  | none => rw [hpf] at h3; cases h3
  | some q =>
    obtain ⟨a, b⟩ := q
    rw [hpf] at h3
    by_cases hap : apartB ps a b = true
    · obtain ⟨_, rfl, rfl⟩ := hp a b hpf (apartB_iff hap)
      simp only [Option.bind_some, hap, if_true] at h3
      exact h3
    · simp only [Option.bind_some, if_neg hap] at h3
      cases h3

theorem Well.rule {G : Option St11} {W : List Wd} {i bad : Nat} {ps : List (Int × Int)} {rs : List Ru} (h : Well G W i bad ps rs) {x : Wd} (hx : W[i]? = some x) (hs : skipB x = false) {g s : Int}
    (hp : ∀ a b, pairF x = some (a, b) → ApartP ps a b → false = true ∧ g = a ∧ s = b) {ru : Ru} {ok : Bool} (hr10 : ∀ f p, ruleF x = some (f, p) → ok = true ∧ ru.flag = f ∧ ru.pre = p) :
    ∀ r, G = some r → bad = 0 ∧ ok = true ∧ fold11 (W.drop (i + 1)) (ps, (rs ++ [ru]).map fpR) = some r := by
  intro r hr
  obtain ⟨h1, h2⟩ := h r hr
  rw [drop_consW hx] at h2
  have h3 : (step11 x (ps, rs.map fpR)).bind (fold11 (W.drop (i + 1))) = some r := h2
  unfold step11 at h3
  rw [if_neg (by rw [hs]; decide)] at h3
  by_cases hcb : caseB x = true
  · rw [if_pos hcb] at h3
    cases hpf : pairF x with
    | none => rw [hpf] at h3; cases h3
    | some q =>
      obtain ⟨a, b⟩ := q
      rw [hpf] at h3
      by_cases hap : apartB ps a b = true
      · exact absurd (hp a b hpf (apartB_iff hap)).1 (by decide)
      · simp only [Option.bind_some, if_neg hap] at h3
        cases h3
  · rw [if_neg hcb] at h3
    cases hrf : ruleF x with
    | none => rw [hrf] at h3; cases h3
    | some q =>
      obtain ⟨f, p⟩ := q
      rw [hrf] at h3
      obtain ⟨ho, hf, hpr⟩ := hr10 f p hrf
      refine ⟨h1, ho, ?_⟩
      rw [List.map_append]
      show fold11 _ (ps, rs.map fpR ++ [(ru.flag, ru.pre)]) = _
      rw [hf, hpr]
      exact h3

theorem Well.bad2 {G : Option St11} {W : List Wd} {i j bad bad' : Nat} {ps ps' : List (Int × Int)} {rs rs' : List Ru} (h : ∀ r, G = some r → bad = 0 ∧ false = true ∧ fold11 (W.drop i) (ps, rs.map fpR) = some r) : Well G W j bad' ps' rs' := fun r hr => by
  cases (h r hr).2.1

theorem Well.done {G : Option St11} {W : List Wd} {i bad : Nat} {ps : List (Int × Int)} {rs : List Ru} (h : Well G W i bad ps rs) (hi : W.length ≤ i) : ∀ r, G = some r → bad = 0 ∧ r = (ps, rs.map fpR) := by
  intro r hr
  obtain ⟨h1, h2⟩ := h r hr
  rw [List.drop_of_length_le hi] at h2
  exact ⟨h1, (Option.some.inj h2).symm⟩

/-- What ref11.Parse answers. -/
def P11Res (s : Wd) (k : Nat) (w : World) (e : Ending) (w' : World) : Prop :=
  w.grownBy w' none ∧ ∃ (A B : Option Addr) (n c m d : Nat) (rules : List Ru) (line err : Int), e = .returned (.tuple #[.agg #[.slice A n c, .slice B m d], .int .i64 line, .int .i64 err]) ∧ rules.length = n ∧ n ≤ k ∧ n ≤ c ∧ RusAt w' A rules ∧ (s.length ≤ 65536 → ∀ r, fold11 (linesF s []) ([], []) = some r → ok11 r = true → n = r.2.length)

theorem P11Res.nothing {s : Wd} {k : Nat} {w w' : World} (h : w.grownBy w' none) (hf : s.length ≤ 65536 → ∀ r, fold11 (linesF s []) ([], []) = some r → ok11 r = true → False) {e : Ending} {line err : Int} (he : e = .returned (.tuple #[.agg #[.slice none 0 0, .slice none 0 0], .int .i64 line, .int .i64 err])) : P11Res s k w e w' :=
  ⟨h, none, none, 0, 0, 0, 0, [], line, err, he, rfl, Nat.zero_le _, Nat.le_refl _, ⟨Sl.nil _ _ _, by simp⟩, fun h0 r h1 h2 => (hf h0 r h1 h2).elim⟩

/-- The state of the first loop. -/
def Rel11 (G : Option St11) (W : List Wd) (w1 : World) (ln : Nat) (tv bv iv : Value) (wr : World) : Prop :=
  ∃ (i bad rn pn rk pk tk : Nat) (RA PA TA : Option Addr) (rs : List Ru) (ps : List (Int × Int)) (ts : List Int), iv = .int .i64 (i : Int) ∧ i ≤ ln ∧ bv = .int .i64 (bad : Int) ∧ bad ≤ ln ∧ tv = .slice TA rn tk ∧ rn ≤ i ∧ pn ≤ i ∧
    wr.heap[w1.heap.size]? = some (.cells #[.slice RA rn rk, .slice PA pn pk] 34 (0, 0)) ∧ R11 w1.heap.size wr (.slice RA rn rk) (.slice PA pn pk) (.slice TA rn tk) rn pn rn rs ps ts ∧ w1.grownBy wr none ∧ Well G W i bad ps rs

/-- What a line tells of a pair. -/
def PairX (x : Wd) (ps : List (Int × Int)) (g s : Int) (ok : Bool) : Prop := (∀ a b, pairF x = some (a, b) → ApartP ps a b → ok = true ∧ g = a ∧ s = b) ∧ (caseB x = false → ok = false)

theorem Well.pairX {G : Option St11} {W : List Wd} {i bad : Nat} {ps : List (Int × Int)} {rs : List Ru} (h : Well G W i bad ps rs) {x : Wd} (hx : W[i]? = some x) (hs : skipB x = false) {g s : Int}
    (hp : PairX x ps g s true) : Well G W (i + 1) bad (ps ++ [(g, s)]) rs := h.pair hx hs hp.1 hp.2

/-- A pair's line, tried. -/
def PairCut (x : Wd) (ps : List (Int × Int)) (wr : World) (v10 v11 : Value) (wx : World) : Prop :=
  ∃ (k : Nat) (g s : Int) (ok : Bool), v10 = .pointer (some ⟨k, 0, none⟩) ∧ v11 = .bool ok ∧ wx.heap[k]? = some (.cells #[.int .i64 g, .int .i64 s] 71 (0, 0)) ∧ wr.grownBy wx none ∧ PairX x ps g s ok

set_option maxRecDepth 100000 in
set_option maxHeartbeats 4000000 in
theorem parse11_walk (s : Wd) (w : World) (hl : s.length ≤ 100000) : Calls Tryd.prog 13 #[.string ⟨s.toArray⟩] w (P11Res s (s.count 10 + 1) w) := by
  obtain ⟨i0, hi, hz0, hz1, hz2⟩ := info_parts ru_info
  obtain ⟨j0, hj, hy0, hy1, hy2⟩ := info_parts pair_info
  obtain ⟨ki, hk, hx0, hx1, hx2⟩ := info_parts int_info
  have hsz := size_wd s
  have hal := World.grownBy_alloc w (.cells #[.slice none 0 0, .slice none 0 0] 34) none
  have hbl := heap_alloc_new w (.cells #[.slice none 0 0, .slice none 0 0] 34 (0, 0))
  obtain ⟨L, hL⟩ : ∃ L, s.length = L := ⟨_, rfl⟩
  rw [hL] at hsz
  have HAL := Lib.hid hal
  have HBL := Lib.hid hbl
  clear hal hbl
  rcases Nat.lt_or_ge 65536 L with hbig | hbig
  · have d1 : decide ((65536 : Int) < (L : Int)) = true := decide_eq_true (by omega)
    have gz0 := frozen_of_heap HBL.out 0
    have fz0 := cell_of_heap HBL.out 0
    have gz1 := frozen_of_heap HBL.out 1
    have fz1 := cell_of_heap HBL.out 1
    go_enter Tryd.func13, Tryd.ntmps13
    go_wp2_with fail
    refine bodyPost_ret (results_cell_tmp2 rfl rfl (load_affixes HBL.out) rfl rfl) rfl ?_
    exact P11Res.nothing HAL.out (fun h0 => absurd h0 (by omega)) rfl
  · have d1 : decide ((65536 : Int) < (L : Int)) = false := decide_eq_false (by omega)
    go_enter Tryd.func13, Tryd.ntmps13
    go_wp2_with fail
    refine (lines_walk s _ hl).mono ?_
    rintro e w1 ⟨LA, ln, lc, W, rfl, hWn, hown, hlo, hg1, hWe⟩
    obtain ⟨G, hG⟩ : ∃ G, fold11 (linesF s []) ([], []) = G := ⟨_, rfl⟩
    have HWL := Lib.hid (show Well G W 0 0 [] [] from fun r hr => ⟨rfl, by rw [← hr, ← hG, hWe]; rfl⟩)
    have HGG := Lib.hid hG
    clear hG hWe
    have hlnk : ln ≤ s.count 10 + 1 := by rw [← hWn]; exact hlo.1
    have hln : ln ≤ 100001 := by have := List.count_le_length (a := (10 : UInt8)) (l := s); omega
    have hsl := Sl.of_own hown (strCells_one' _)
    have HW := Lib.hid hlo.2
    have HWN := Lib.hid hWn
    have HSL := Lib.hid hsl
    have HB1 := Lib.hid (grownBy_heap hg1 HBL.out nofun)
    have HG1 := Lib.hid (grownBy_trans HAL.out hg1 nofun)
    have HK := Lib.hid hlnk
    clear hlo hWn hsl hg1 hown hlnk
    have hset := heap_alloc_new w1 (.cells #[.slice none 0 0, .slice none 0 0] 34 (0, 0))
    have hgr := World.grownBy_alloc w1 (.cells #[.slice none 0 0, .slice none 0 0] 34) none
    have HSET := Lib.hid hset
    have HGR := Lib.hid hgr
    clear hset hgr
    go_wp2_with fail
    go_loopw [7, 8, 9] (fun tv bv iv wr => Rel11 G W w1 ln tv bv iv wr) (fun _ _ iv _ => ln - (RowKit.intOf iv).toNat)
    case atStart => exact ⟨0, 0, 0, 0, 0, 0, 0, none, none, none, [], [], [], rfl, Nat.zero_le _, rfl, Nat.zero_le _, rfl, Nat.le_refl _, Nat.le_refl _, HSET.out, R11.start _ _, HGR.out, HWL.out⟩
    case round =>
      obtain ⟨i, bad, rn, pn, rk, pk, tk, RA, PA, TA, rs, ps, ts, rfl, hin, rfl, hbn, rfl, hrn, hpn, hcell, hrow, hgr, hwell⟩ := hrel
      have HWE := Lib.hid hwell
      clear hwell
      have HC := Lib.hid hcell
      have HR := Lib.hid hrow
      have HGW := Lib.hid hgr
      have HABS := Lib.hid (show w1.heap.size < wr.heap.size from heap_lt hcell)
      clear hcell hrow hgr
      rcases Nat.lt_or_ge i ln with hlt | hge
      · have hlti : (i : Int) < (ln : Int) := by omega
        obtain ⟨x, hx⟩ : ∃ x, W[i]? = some x := ⟨_, List.getElem?_eq_getElem (by rw [HWN.out]; exact hlt)⟩
        have hxl : x.length ≤ 100000 := by have := HW.out x (List.mem_of_getElem? hx); omega
        obtain ⟨q, o, eA, hq⟩ := HSL.out.2.2 (by omega)
        have c0 : wr.cell? ⟨q, o + i, none⟩ = some (.string ⟨x.toArray⟩) := HGW.out.cell (hq i _ (by rw [strCells, List.getElem?_map, hx]; rfl)) nofun
        subst eA
        have HXI := Lib.hid hx
        obtain ⟨sk, hsk⟩ : ∃ v, skipB x = v := ⟨_, rfl⟩
        have HSK := Lib.hid hsk
        clear hq hx hsk
        have C0 := Lib.hid c0
        go_upto_region 10 with (fail)
        go_cut [41] (fun v wx => v = .bool sk ∧ wx = wr)
        case first =>
          cases x with
          | nil =>
            have hxs : (⟨([] : Wd).toArray⟩ : ByteArray).toList.isEmpty = true := by rw [ByteArray.toList_eq]; rfl
            go_wp2_with fail
            go_meet
            exact ⟨by rw [← HSK.out]; first | rfl | simp [skipB], rfl⟩
          | cons b t =>
            have hsz2 := size_wd (b :: t)
            have hgb := get_byte (s := b :: t) (i := 0) (b := b) rfl
            have hxe : (⟨(b :: t).toArray⟩ : ByteArray).toList.isEmpty = false := wd_full (by simp)
            have hbl := UInt8.toNat_lt b
            obtain ⟨S, hS⟩ : ∃ S, (⟨(b :: t).toArray⟩ : ByteArray) = S := ⟨_, rfl⟩
            rw [hS] at hsz2 hxe c0
            simp only [hS] at hgb
            have hp : (0 : Nat) < S.size := by rw [hsz2]; simp
            have he35 : ((b.toNat : Int) == 35) = sk := (skip_cons b t).trans HSK.out
            go_wp2_with fail
            go_meet
            exact ⟨by first | rfl | trivial, rfl⟩
        case rest =>
          obtain ⟨rfl, ewc⟩ := hcut
          have ewc := ewc.symm
          subst ewc
          cases sk with
          | true =>
            go_wp2_with fail
            go_roundw
            case rel => exact ⟨i + 1, bad, rn, pn, rk, pk, tk, RA, PA, TA, rs, ps, ts, by go_num, by omega, rfl, hbn, rfl, by omega, by omega, HC.out, HR.out, HGW.out, HWE.out.skip HXI.out HSK.out⟩
            case measure => simp [RowKit.intOf]; omega
          | false =>
            have CP := Lib.hid (cell_of_heap HC.out 1)
            have gd : wr.grownBy wr.drew none := grownBy_drew (grownBy_refl wr none)
            have GD := Lib.hid gd
            clear gd
            have hpr : ∀ u, wr.grownBy u none → Sl u 2 PA pn (prCells ps) := fun u hu => (HR.out.prs rfl).kept hu nofun
            have hpl := HR.out.plen
            have hrl := hpl
            have HPR := Lib.hid hpr
            have HPL := Lib.hid hpl
            clear hpr hpl hrl
            go_upto_region 11 with (fail)
            go_cut [10, 11] (fun v10 v11 wx => PairCut x ps wr v10 v11 wx)
            case first =>
              refine region_hw (fun u => wr.grownBy u none) (by kernel_rfl) GD.out (fun hHeld => ?_)
              refine hw_take 0 (v := ?_) rfl (by kernel_rfl) (by kernel_rfl) (by kernel_rfl) (fun _ _ _ h => h) (by rfl) (fun u hu => ?_) (by assumption) ?_
              rotate_left
              focus ((try dsimp only at hu); have u0 := hu.cell C0.out nofun; have u1 := hu.cell CP.out nofun; go_simp; (try with_reducible rfl); done)
              try simp only [Act.put]
              refine hw_take 1 (v := ?_) rfl (by kernel_rfl) (by kernel_rfl) (by kernel_rfl) (fun _ _ _ h => h) (by rfl) (fun u hu => ?_) (by assumption) ?_
              rotate_left
              focus ((try dsimp only at hu); have u0 := hu.cell C0.out nofun; have u1 := hu.cell CP.out nofun; go_simp; (try with_reducible rfl); done)
              try simp only [Act.put]
              refine hw_take 2 (v := ?_) rfl (by kernel_rfl) (by kernel_rfl) (by kernel_rfl) (fun _ _ _ h => h) (by rfl) (fun u hu => ?_) (by assumption) ?_
              rotate_left
              focus ((try dsimp only at hu); have u0 := hu.cell C0.out nofun; have u1 := hu.cell CP.out nofun; go_simp; (try with_reducible rfl); done)
              try simp only [Act.put]
              refine hw_take 3 (v := ?_) rfl (by kernel_rfl) (by kernel_rfl) (by kernel_rfl) (fun _ _ _ h => h) (by rfl) (fun u hu => ?_) (by assumption) ?_
              rotate_left
              focus ((try dsimp only at hu); have u0 := hu.cell C0.out nofun; have u1 := hu.cell CP.out nofun; go_simp; (try with_reducible rfl); done)
              try simp only [Act.put]
              refine hw_take 4 (v := ?_) rfl (by kernel_rfl) (by kernel_rfl) (by kernel_rfl) (fun _ _ _ h => h) (by rfl) (fun u hu => ?_) (by assumption) ?_
              rotate_left
              focus ((try dsimp only at hu); have u0 := hu.cell C0.out nofun; have u1 := hu.cell CP.out nofun; go_simp; (try with_reducible rfl); done)
              try simp only [Act.put]
              refine hw_take 5 (v := ?_) rfl (by kernel_rfl) (by kernel_rfl) (by kernel_rfl) (fun _ _ _ h => h) (by rfl) (fun u hu => ?_) (by assumption) ?_
              rotate_left
              focus ((try dsimp only at hu); have u0 := hu.cell C0.out nofun; have u1 := hu.cell CP.out nofun; go_simp; (try with_reducible rfl); done)
              try simp only [Act.put]
              refine hw_two 6 10 (by kernel_rfl) rfl rfl (fun K hK => ?_) (fun K hK => ?_)
              · go_simp
                go_at_call 30
                refine (pair_walk x ps PA pn pk _ hxl HPL.out (by omega) (HPR.out _ GD.out)).mono ?_
                rintro e1 u1 ⟨hgu1, g, s2, ok, rfl, hpx1, hpx2⟩
                have HPX := Lib.hid (show PairX x ps g s2 ok from And.intro hpx1 hpx2)
                clear hpx1 hpx2
                have G1 := Lib.hid (grownBy_trans GD.out hgu1 nofun)
                clear hgu1
                try go_simp
                refine hK.out _ _ (by exact G1.out) (fun hHeld2 => ?_)
                clear hK K
                try simp only [Act.put]
                refine hw_take 7 (v := ?_) rfl (by kernel_rfl) (by kernel_rfl) (by kernel_rfl) (fun _ _ _ h => h) (by rfl) (fun u hu => ?_) (by assumption) ?_
                rotate_left
                focus ((try dsimp only at hu); go_simp; (try with_reducible rfl); done)
                try simp only [Act.put]
                refine hw_take 8 (v := ?_) rfl (by kernel_rfl) (by kernel_rfl) (by kernel_rfl) (fun _ _ _ h => h) (by rfl) (fun u hu => ?_) (by assumption) ?_
                rotate_left
                focus ((try dsimp only at hu); go_simp; (try with_reducible rfl); done)
                try simp only [Act.put]
                refine hw_take 9 (v := ?_) rfl (by kernel_rfl) (by kernel_rfl) (by kernel_rfl) (fun _ _ _ h => h) (by rfl) (fun u hu => ?_) (by assumption) ?_
                rotate_left
                focus ((try dsimp only at hu); go_simp; (try with_reducible rfl); done)
                try simp only [Act.put]
                refine hw_one 10 (by kernel_rfl) rfl (fun K hK => ?_)
                go_simp
                refine hK.out _ _ (by exact (grownBy_trans G1.out (World.grownBy_alloc u1 _ none) nofun)) (fun hHeld3 => ?_)
                clear hK K
                try simp only [Act.put]
                have hset := heap_alloc_new u1 (.cells #[.int .i64 g, .int .i64 s2] 71 (0, 0))
                have hgr := grownBy_trans G1.out (World.grownBy_alloc u1 (.cells #[.int .i64 g, .int .i64 s2] 71) none) nofun
                have HSET2 := Lib.hid hset
                have HGR2 := Lib.hid hgr
                clear hset hgr
                refine hw_one 11 (by kernel_rfl) rfl (fun K hK => ?_)
                go_simp
                refine hK.out _ _ (by exact HGR2.out) (fun hHeld4 => ?_)
                clear hK K
                try simp only [Act.put]
                refine hw_one 12 (by kernel_rfl) rfl (fun K hK => ?_)
                go_simp
                refine hK.out _ _ (by exact HGR2.out) (fun hHeld5 => ?_)
                clear hK K
                try simp only [Act.put]
                refine hw_done (by kernel_rfl) ?_
                go_wp2_with fail
                go_meet
                exact ⟨u1.heap.size, g, s2, ok, rfl, rfl, HSET2.out, HGR2.out, HPX.out⟩
              · go_simp
                refine hK.out _ _ (by exact (grownBy_trans GD.out (World.grownBy_alloc wr.drew _ none) nofun)) (fun hHeld3 => ?_)
                clear hK K
                try simp only [Act.put]
                refine hw_one 6 (by kernel_rfl) rfl (fun K hK => ?_)
                have GA := Lib.hid (grownBy_trans GD.out (World.grownBy_alloc wr.drew (.cells #[.int .i64 0, .int .i64 0] 71) none) nofun)
                go_simp
                go_at_call 30
                refine (pair_walk x ps PA pn pk _ hxl HPL.out (by omega) (HPR.out _ GA.out)).mono ?_
                rintro e1 u1 ⟨hgu1, g, s2, ok, rfl, hpx1, hpx2⟩
                have HPX := Lib.hid (show PairX x ps g s2 ok from And.intro hpx1 hpx2)
                clear hpx1 hpx2
                have G1 := Lib.hid (grownBy_trans GA.out hgu1 nofun)
                have GX := Lib.hid hgu1
                clear hgu1
                try go_simp
                refine hK.out _ _ (by exact G1.out) (fun hHeld2 => ?_)
                clear hK K
                try simp only [Act.put]
                refine hw_take 7 (v := ?_) rfl (by kernel_rfl) (by kernel_rfl) (by kernel_rfl) (fun _ _ _ h => h) (by rfl) (fun u hu => ?_) (by assumption) ?_
                rotate_left
                focus ((try dsimp only at hu); go_simp; (try with_reducible rfl); done)
                try simp only [Act.put]
                refine hw_take 8 (v := ?_) rfl (by kernel_rfl) (by kernel_rfl) (by kernel_rfl) (fun _ _ _ h => h) (by rfl) (fun u hu => ?_) (by assumption) ?_
                rotate_left
                focus ((try dsimp only at hu); go_simp; (try with_reducible rfl); done)
                try simp only [Act.put]
                refine hw_take 9 (v := ?_) rfl (by kernel_rfl) (by kernel_rfl) (by kernel_rfl) (fun _ _ _ h => h) (by rfl) (fun u hu => ?_) (by assumption) ?_
                rotate_left
                focus ((try dsimp only at hu); go_simp; (try with_reducible rfl); done)
                try simp only [Act.put]
                have hk2 := heap_alloc_new wr.drew (.cells #[.int .i64 0, .int .i64 0] 71 (0, 0))
                have hk3 : u1.heap[wr.heap.size]? = some (.cells #[.int .i64 0, .int .i64 0] 71 (0, 0)) := grownBy_heap GX.out hk2 nofun
                have gz0 := frozen_of_heap hk3 0
                have fz0 := cell_of_heap hk3 0
                have gz1 := frozen_of_heap hk3 1
                have fz1 := cell_of_heap hk3 1
                have hset := set_two hk3 (.int .i64 g) (.int .i64 s2)
                have hgr := grown_set2 G1.out wr.heap.size (.inr (Nat.le_refl _)) (.int .i64 g) (.int .i64 s2)
                have HSET2 := Lib.hid hset
                have HGR2 := Lib.hid hgr
                clear hset hgr hk2 hk3
                refine hw_one 11 (by kernel_rfl) rfl (fun K hK => ?_)
                go_simp
                refine hK.out _ _ (by exact HGR2.out) (fun hHeld4 => ?_)
                clear hK K
                try simp only [Act.put]
                refine hw_one 12 (by kernel_rfl) rfl (fun K hK => ?_)
                go_simp
                refine hK.out _ _ (by exact HGR2.out) (fun hHeld5 => ?_)
                clear hK K
                try simp only [Act.put]
                refine hw_done (by kernel_rfl) ?_
                go_wp2_with fail
                go_meet
                exact ⟨wr.heap.size, g, s2, ok, rfl, rfl, HSET2.out, HGR2.out, HPX.out⟩
            case rest =>
              obtain ⟨pk2, g, s2, ok, rfl, rfl, hpk, hgx, hpx⟩ := hcut
              have HPX := Lib.hid hpx
              clear hpx
              cases ok with
              | true =>
                have hrx := HR.out.grow hgx (.inl rfl)
                have hcx := grownBy_heap hgx HC.out nofun
                have hal := World.grownBy_alloc wc (.cells #[.int .i64 g, .int .i64 s2] 71) none
                have hra := hrx.grow hal (.inl rfl)
                have hca := grownBy_heap hal hcx nofun
                have hsl := Sl.of_own (World.ownsRow_lit (base := 0) (size := 2) (e := 71) wc #[.int .i64 g, .int .i64 s2] 1 (Nat.zero_le _) (by decide) rfl) (by intro x hx; simp at hx; rcases hx with rfl | rfl <;> rfl)
                have hgw := grownBy_trans (grownBy_trans HGW.out hgx nofun) hal nofun
                have c0 := cell_of_heap hcx 0
                have c1 := cell_of_heap hcx 1
                have p0 := cell_of_heap hpk 0
                have p1 := cell_of_heap hpk 1
                have hab := Nat.lt_of_lt_of_le HABS.out hgx.size
                have HRA := Lib.hid hra
                have HCA := Lib.hid hca
                have HSLA := Lib.hid hsl
                have HGA := Lib.hid hgw
                have HABX := Lib.hid hab
                clear hrx hcx hal hra hca hsl hgw hpk hgx hab
                go_wp2_with (at_builtin; refine wpList_append_sl _ rfl (.tmp 54) (.tmp 56) 32 rfl (w1.heap.size + 1) 71 j0 _ 2 16 Tryd.underlying32 hj hy0 hy1 hy2 rfl (by decide) (.slice PA pn pk) pn _ rfl HRA.out.pown (some ⟨wc.heap.size, 0, none⟩) 1 1 [.int .i64 g, .int .i64 s2] rfl HSLA.out (by unfold maxLen; omega) (by omega) (by have := HABX.out; simp; omega) ?_)
                rintro v' w' hap
                have hr' := HRA.out.addP (x := (g, s2)) hap
                obtain ⟨q', c', rfl, _⟩ := own_form hr'.pown (by omega)
                have hpl := HRA.out.pown.lt
                have hcw := grownBy_heap hap.2.1 HCA.out (fun e => by have := (hpl _ e).1; omega)
                have hgw' := grownBy_trans HGA.out hap.2.1 (fun l hl => .inr (by have := (hpl l hl).1; omega))
                have hst := heap_setCell hcw 1 (.slice (some ⟨q', 0, none⟩) (pn + 1) c')
                have hsg := grownBy_setCell (grownBy_refl w' (some w1.heap.size)) w1.heap.size 1 (.slice (some ⟨q', 0, none⟩) (pn + 1) c') (.inl rfl)
                have hsw := grownBy_setCell hgw' w1.heap.size 1 (.slice (some ⟨q', 0, none⟩) (pn + 1) c') (.inr (Nat.le_refl _))
                have hrn := hr'.grow hsg (.inr rfl)
                have g1 := frozen_of_heap hcw 1
                have f1 := cell_of_heap hcw 1
                have HST := Lib.hid hst
                have HRN := Lib.hid hrn
                have HSW := Lib.hid hsw
                clear hap hr' hpl hcw hgw' hst hsg hsw hrn
                go_wp2_with fail
                go_roundw
                case rel => exact ⟨i + 1, bad, rn, pn + 1, rk, c', tk, RA, some ⟨q', 0, none⟩, TA, rs, ps ++ [(g, s2)], ts, by go_num, by omega, rfl, hbn, rfl, by omega, by omega, HST.out, HRN.out, HSW.out, HWE.out.pairX HXI.out HSK.out HPX.out⟩
                case measure => simp [RowKit.intOf]; omega
              | false =>
                have hrx := HR.out.grow hgx (.inl rfl)
                have hcx := grownBy_heap hgx HC.out nofun
                have c0 := hgx.cell C0.out nofun
                have hgw := grownBy_trans HGW.out hgx nofun
                have hab := Nat.lt_of_lt_of_le HABS.out hgx.size
                have HRX := Lib.hid hrx
                have HCX := Lib.hid hcx
                have HGX := Lib.hid hgw
                have HABX := Lib.hid hab
                clear hrx hcx hgw hpk hgx hab
                go_wp2_with fail
                refine (parse10_walk x _ hxl).mono ?_
                rintro e w3 ⟨hg3, r, ok, rfl, hnew, hr10⟩
                have HRW := Lib.hid (HWE.out.rule HXI.out HSK.out HPX.out.1 hr10)
                clear hr10
                have hru := HRX.out.grow hg3 (.inl rfl)
                have hcu := grownBy_heap hg3 HCX.out nofun
                have hgu := grownBy_trans HGX.out hg3 nofun
                have hal := World.grownBy_alloc w3 (.cells #[.bool r.pre, .int .i64 r.flag, .bool r.cross, .string ⟨r.strip.toArray⟩, .string ⟨r.add.toArray⟩, .slice r.C r.cond.length r.cap] 51) none
                have hbk := heap_alloc_new w3 (.cells #[.bool r.pre, .int .i64 r.flag, .bool r.cross, .string ⟨r.strip.toArray⟩, .string ⟨r.add.toArray⟩, .slice r.C r.cond.length r.cap] 51 (0, 0))
                have hra := hru.grow hal (.inl rfl)
                have hca := grownBy_heap hal hcu nofun
                have hga := grownBy_trans hgu hal nofun
                have hab := Nat.lt_of_lt_of_le HABX.out (Nat.le_trans hg3.size hal.size)
                have hfr : ok = true → RuFresh (w3.alloc (.cells #[.bool r.pre, .int .i64 r.flag, .bool r.cross, .string ⟨r.strip.toArray⟩, .string ⟨r.add.toArray⟩, .slice r.C r.cond.length r.cap] 51)) w1.heap.size (.slice RA rn rk) (.slice PA pn pk) (.slice TA rn tk) r := fun h => (HRX.out.fresh HABX.out (hnew h)).kept hal
                have HRA := Lib.hid hra
                have HCA := Lib.hid hca
                have HGA := Lib.hid hga
                have HAB3 := Lib.hid hab
                have HFR := Lib.hid hfr
                have HBK := Lib.hid hbk
                clear hru hcu hgu hal hra hca hga hab hfr hnew hg3 hbk
                simp only [Ru.val]
                cases ok with
                | false =>
                  by_cases hb0 : bad = 0
                  · subst hb0
                    go_wp2_with fail
                    go_roundw
                    case rel => exact ⟨i + 1, i + 1, rn, pn, rk, pk, tk, RA, PA, TA, rs, ps, ts, by go_num, by omega, by go_num, by omega, rfl, by omega, by omega, HCA.out, HRA.out, HGA.out, Well.bad2 HRW.out⟩
                    case measure => simp [RowKit.intOf]; omega
                  · have d2 : ((bad : Int) == 0) = false := by rw [beq_eq_false_iff_ne]; omega
                    go_wp2_with fail
                    go_roundw
                    case rel => exact ⟨i + 1, bad, rn, pn, rk, pk, tk, RA, PA, TA, rs, ps, ts, by go_num, by omega, rfl, hbn, rfl, by omega, by omega, HCA.out, HRA.out, HGA.out, Well.bad2 HRW.out⟩
                    case measure => simp [RowKit.intOf]; omega
                | true =>
                  have hf := HFR.out rfl
                  have hal := World.grownBy_alloc (w3.alloc (.cells #[.bool r.pre, .int .i64 r.flag, .bool r.cross, .string ⟨r.strip.toArray⟩, .string ⟨r.add.toArray⟩, .slice r.C r.cond.length r.cap] 51)) (.cells #[.bool r.pre, .int .i64 r.flag, .bool r.cross, .string ⟨r.strip.toArray⟩, .string ⟨r.add.toArray⟩, .slice r.C r.cond.length r.cap] 51) none
                  obtain ⟨w4, hw4⟩ : ∃ w4, w3.alloc (.cells #[.bool r.pre, .int .i64 r.flag, .bool r.cross, .string ⟨r.strip.toArray⟩, .string ⟨r.add.toArray⟩, .slice r.C r.cond.length r.cap] 51) = w4 := ⟨_, rfl⟩
                  have hra := HRA.out
                  have hca := HCA.out
                  have hga := HGA.out
                  have hbk := HBK.out
                  have hab := HAB3.out
                  rw [hw4] at hf hal hra hca hga hbk hab
                  have HW4 := Lib.hid hw4
                  clear hw4
                  go_upto_region 18 with (fail)
                  rw [HW4.out]
                  have c0 := cell_of_heap hca 0
                  have c1 := cell_of_heap hca 1
                  have k0 := cell_of_heap hbk 0
                  have k1 := cell_of_heap hbk 1
                  have k2 := cell_of_heap hbk 2
                  have k3 := cell_of_heap hbk 3
                  have k4 := cell_of_heap hbk 4
                  have k5 := cell_of_heap hbk 5
                  have hra5 := hra.grow hal (.inl rfl)
                  have hca5 := grownBy_heap hal hca nofun
                  have hga5 := grownBy_trans hga hal nofun
                  have hf5 := hf.kept hal
                  have hsl := Sl.of_own (World.ownsRow_lit (base := 0) (size := 6) (e := 51) w4 #[.bool r.pre, .int .i64 r.flag, .bool r.cross, .string ⟨r.strip.toArray⟩, .string ⟨r.add.toArray⟩, .slice r.C r.cond.length r.cap] 1 (Nat.zero_le _) (by decide) rfl) (by intro x hx; simp at hx; rcases hx with rfl | rfl | rfl | rfl | rfl | rfl <;> rfl)
                  have HRA5 := Lib.hid hra5
                  have HCA5 := Lib.hid hca5
                  have HGA5 := Lib.hid hga5
                  have HF5 := Lib.hid hf5
                  have HSL5 := Lib.hid hsl
                  have HAB5 := Lib.hid hab
                  clear hra5 hca5 hga5 hf5 hsl hra hca hga hf hal hbk HW4 HFR HRA HCA HGA HBK HAB3 hab
                  go_wp2_with (at_builtin; refine wpList_append_sl _ rfl (.tmp 74) (.tmp 76) 22 rfl (w1.heap.size + 1) 51 i0 _ 6 80 Tryd.underlying22 hi hz0 hz1 hz2 rfl (by decide) (.slice RA rn rk) rn _ rfl HRA5.out.rown (some ⟨w4.heap.size, 0, none⟩) 1 1 r.row rfl HSL5.out (by unfold maxLen; omega) (by omega) (by have := HAB5.out; simp; omega) ?_)
                  rintro v' w5 hap
                  have hr' := HRA5.out.addR HF5.out hap
                  obtain ⟨q', c', rfl, _⟩ := own_form hr'.rown (by omega)
                  have hpl := HRA5.out.rown.lt
                  have hcw := grownBy_heap hap.2.1 HCA5.out (fun e => by have := (hpl _ e).1; omega)
                  have hgw' := grownBy_trans HGA5.out hap.2.1 (fun l hl => .inr (by have := (hpl l hl).1; omega))
                  have hal2 := World.grownBy_alloc w5 (.cells #[.int .i64 ((i : Int) + 1)] 3) none
                  have hr5 := hr'.grow hal2 (.inl rfl)
                  have hc5 := grownBy_heap hal2 hcw nofun
                  have hg5 := grownBy_trans hgw' hal2 nofun
                  have hsl := Sl.of_own (World.ownsRow_lit (base := 0) (size := 1) (e := 3) w5 #[.int .i64 ((i : Int) + 1)] 1 (Nat.zero_le _) (by decide) rfl) (by intro x hx; simp at hx; subst hx; rfl)
                  have hab := Nat.lt_of_lt_of_le HAB5.out (Nat.le_trans (World.grownBy_alloc w4 (.cells #[.bool r.pre, .int .i64 r.flag, .bool r.cross, .string ⟨r.strip.toArray⟩, .string ⟨r.add.toArray⟩, .slice r.C r.cond.length r.cap] 51) none).size hap.2.1.size)
                  have HR5 := Lib.hid hr5
                  have HC5 := Lib.hid hc5
                  have HG5 := Lib.hid hg5
                  have HSL6 := Lib.hid hsl
                  have HAB6 := Lib.hid hab
                  clear hap hr' hpl hcw hgw' hal2 hr5 hc5 hg5 hsl hab
                  go_wp2_with (at_builtin; refine wpList_append_sl _ rfl (.tmp 78) (.tmp 81) 23 rfl (w1.heap.size + 1) 3 ki _ 1 8 Tryd.underlying23 hk hx0 hx1 hx2 rfl (by decide) (.slice TA rn tk) rn _ rfl HR5.out.town (some ⟨w5.heap.size, 0, none⟩) 1 1 [.int .i64 ((i : Int) + 1)] rfl HSL6.out (by unfold maxLen; omega) (by omega) (by have := HAB6.out; simp; omega) ?_)
                  rintro v' w6 hap
                  have hr' := HR5.out.addT hap
                  obtain ⟨q2, c2, rfl, _⟩ := own_form hr'.town (by omega)
                  have hpl := HR5.out.town.lt
                  have hcw := grownBy_heap hap.2.1 HC5.out (fun e => by have := (hpl _ e).1; omega)
                  have hgw' := grownBy_trans HG5.out hap.2.1 (fun l hl => .inr (by have := (hpl l hl).1; omega))
                  have hst := heap_setCell hcw 0 (.slice (some ⟨q', 0, none⟩) (rn + 1) c')
                  have hsg := grownBy_setCell (grownBy_refl w6 (some w1.heap.size)) w1.heap.size 0 (.slice (some ⟨q', 0, none⟩) (rn + 1) c') (.inl rfl)
                  have hsw := grownBy_setCell hgw' w1.heap.size 0 (.slice (some ⟨q', 0, none⟩) (rn + 1) c') (.inr (Nat.le_refl _))
                  have hrn2 := hr'.grow hsg (.inr rfl)
                  have g0 := frozen_of_heap hcw 0
                  have f0 := cell_of_heap hcw 0
                  have HST := Lib.hid hst
                  have HRN := Lib.hid hrn2
                  have HSW := Lib.hid hsw
                  clear hap hr' hpl hcw hgw' hst hsg hsw hrn2
                  go_wp2_with fail
                  go_roundw
                  case rel => exact ⟨i + 1, bad, rn + 1, pn, c', pk, c2, some ⟨q', 0, none⟩, PA, some ⟨q2, 0, none⟩, rs ++ [r], ps, ts ++ [(i : Int) + 1], by go_num, by omega, rfl, hbn, rfl, by omega, by omega, HST.out, HRN.out, HSW.out, fun r0 h0 => ⟨(HRW.out r0 h0).1, (HRW.out r0 h0).2.2⟩⟩
                  case measure => simp [RowKit.intOf]; omega
      · have ei : i = ln := by omega
        subst ei
        clear hge
        have HDN := Lib.hid (HWE.out.done (Nat.le_of_eq HWN.out))
        obtain ⟨wo, hwo⟩ : ∃ wo, wo = wr := ⟨_, rfl⟩
        subst hwo
        have hbo := grownBy_heap HGW.out HB1.out nofun
        have hgo := grownBy_trans HG1.out HGW.out nofun
        have gz0 := frozen_of_heap hbo 0
        have fz0 := cell_of_heap hbo 0
        have gz1 := frozen_of_heap hbo 1
        have fz1 := cell_of_heap hbo 1
        have c0 := cell_of_heap HC.out 0
        have c1 := cell_of_heap HC.out 1
        have HBO := Lib.hid hbo
        have HGO := Lib.hid hgo
        clear hbo hgo
        rcases Nat.lt_or_ge 200 rn with h200 | h200
        · have HNO := Lib.hid (show s.length ≤ 65536 → ∀ r, fold11 (linesF s []) ([], []) = some r → ok11 r = true → False from fun _ r h0 h1 => by
            rw [HGG.out] at h0
            have h2 := (HDN.out r h0).2
            subst h2
            simp only [ok11, Bool.and_eq_true, decide_eq_true_eq, List.length_map, HR.out.rlen] at h1
            omega)
          have d2 : decide ((200 : Int) < (rn : Int)) = true := decide_eq_true (by omega)
          go_wp2_with fail
          have hset := set_two HBO.out (.slice none 0 0) (.slice none 0 0)
          have hgr := grown_set2 HGO.out w.heap.size (.inr (Nat.le_refl _)) (.slice none 0 0) (.slice none 0 0)
          refine bodyPost_ret (results_cell_tmp2 rfl rfl (load_affixes hset) rfl rfl) rfl ?_
          exact P11Res.nothing hgr HNO.out rfl
        · have d2 : decide ((200 : Int) < (rn : Int)) = false := decide_eq_false (by omega)
          rcases Nat.lt_or_ge 200 pn with h201 | h201
          · have HNO := Lib.hid (show s.length ≤ 65536 → ∀ r, fold11 (linesF s []) ([], []) = some r → ok11 r = true → False from fun _ r h0 h1 => by
              rw [HGG.out] at h0
              have h2 := (HDN.out r h0).2
              subst h2
              simp only [ok11, Bool.and_eq_true, decide_eq_true_eq, List.length_map, HR.out.plen] at h1
              omega)
            have d3 : decide ((200 : Int) < (pn : Int)) = true := decide_eq_true (by omega)
            go_wp2_with fail
            have hset := set_two HBO.out (.slice none 0 0) (.slice none 0 0)
            have hgr := grown_set2 HGO.out w.heap.size (.inr (Nat.le_refl _)) (.slice none 0 0) (.slice none 0 0)
            refine bodyPost_ret (results_cell_tmp2 rfl rfl (load_affixes hset) rfl rfl) rfl ?_
            exact P11Res.nothing hgr HNO.out rfl
          · have d3 : decide ((200 : Int) < (pn : Int)) = false := decide_eq_false (by omega)
            rcases Nat.eq_zero_or_pos bad with hb0 | hb0
            rotate_left
            · have HNO := Lib.hid (show s.length ≤ 65536 → ∀ r, fold11 (linesF s []) ([], []) = some r → ok11 r = true → False from fun _ r h0 h1 => by
                rw [HGG.out] at h0
                have h2 := (HDN.out r h0).1
                omega)
              have d4 : decide ((0 : Int) < (bad : Int)) = true := decide_eq_true (by omega)
              go_wp2_with fail
              have hset := set_two HBO.out (.slice none 0 0) (.slice none 0 0)
              have hgr := grown_set2 HGO.out w.heap.size (.inr (Nat.le_refl _)) (.slice none 0 0) (.slice none 0 0)
              refine bodyPost_ret (results_cell_tmp2 rfl rfl (load_affixes hset) rfl rfl) rfl ?_
              exact P11Res.nothing hgr HNO.out rfl
            · subst hb0
              go_wp2_with fail
              go_loopw [14] (fun kv wr => ∃ k : Nat, k ≤ rn ∧ kv = .int .i64 (k : Int) ∧ wo.grownBy wr none) (fun kv _ => rn - (RowKit.intOf kv).toNat)
              case atStart => exact ⟨0, Nat.zero_le _, rfl, grownBy_refl _ none⟩
              case round =>
                obtain ⟨k, hkn, rfl, hg2⟩ := hrel
                have HG2 := Lib.hid hg2
                have hc2 := grownBy_heap hg2 HC.out nofun
                have c0 := cell_of_heap hc2 0
                have c1 := cell_of_heap hc2 1
                have HC2 := Lib.hid hc2
                clear hg2 hc2
                rcases Nat.lt_or_ge k rn with hkl | hkl
                · have hkli : (k : Int) < (rn : Int) := by omega
                  obtain ⟨wk, hwk⟩ : ∃ wk, wk = wr := ⟨_, rfl⟩
                  subst hwk
                  go_wp2_with fail
                  go_loopw [15] (fun jv wr => ∃ j : Nat, j ≤ k ∧ jv = .int .i64 (j : Int) ∧ wo.grownBy wr none) (fun jv _ => k - (RowKit.intOf jv).toNat)
                  case atStart => exact ⟨0, Nat.zero_le _, rfl, HG2.out⟩
                  case round =>
                    obtain ⟨j, hjk, rfl, hg3⟩ := hrel
                    have HG3 := Lib.hid hg3
                    have hc3 := grownBy_heap hg3 HC.out nofun
                    have HC3 := Lib.hid hc3
                    have c0 := cell_of_heap hc3 0
                    have c1 := cell_of_heap hc3 1
                    clear hg3 hc3
                    rcases Nat.lt_or_ge j k with hjl | hjl
                    · have hjli : (j : Int) < (k : Int) := by omega
                      have hjri : (j : Int) < (rn : Int) := by omega
                      have hru := (HR.out.rus rfl).kept HG3.out
                      obtain ⟨rj, hrj⟩ : ∃ x, rs[j]? = some x := ⟨_, List.getElem?_eq_getElem (by rw [HR.out.rlen]; omega)⟩
                      obtain ⟨ri, hri⟩ : ∃ x, rs[k]? = some x := ⟨_, List.getElem?_eq_getElem (by rw [HR.out.rlen]; omega)⟩
                      obtain ⟨rq, ro, eA, j0', j1', _⟩ := ru_cell hru hrj
                      obtain ⟨rq2, ro2, eA2, i0', i1', _⟩ := ru_cell hru hri
                      rw [eA] at eA2
                      cases eA2
                      subst eA
                      obtain ⟨e1, he1⟩ : ∃ v, (rj.flag == ri.flag) = v := ⟨_, rfl⟩
                      obtain ⟨e2, he2⟩ : ∃ v, (rj.pre != ri.pre) = v := ⟨_, rfl⟩
                      have HMJ := Lib.hid (And.intro (List.mem_of_getElem? hrj) (And.intro (List.mem_of_getElem? hri) (And.intro he1 he2)))
                      clear hru hrj hri
                      go_upto_region 29 with (fail)
                      go_cut [138] (fun v wx => ∃ (nq : Nat), v = .bool (e1 && e2) ∧ wx = wr.drewN nq)
                      case first =>
                        cases e1
                        all_goals
                          go_quiet (fail)
                          go_wp2_with fail
                          go_meet
                          exact ⟨nq, by first | rfl | trivial | (rw [Bool.true_and, ← HMJ.out.2.2.2]; rfl), rfl⟩
                      case rest =>
                        obtain ⟨nq, rfl, rfl⟩ := hcut
                        obtain ⟨b, hb12⟩ : ∃ x, (e1 && e2) = x := ⟨_, rfl⟩
                        rw [hb12]
                        have HB12 := Lib.hid hb12
                        clear hb12
                        cases b with
                        | true =>
                          have HNO := Lib.hid (show s.length ≤ 65536 → ∀ r, fold11 (linesF s []) ([], []) = some r → ok11 r = true → False from fun _ r h0 h1 => by
                            rw [HGG.out] at h0
                            have h2 := (HDN.out r h0).2
                            subst h2
                            rw [ok11, Bool.and_eq_true] at h1
                            have h3 := List.all_eq_true.1 (List.all_eq_true.1 h1.2 (fpR rj) (List.mem_map_of_mem HMJ.out.1)) (fpR ri) (List.mem_map_of_mem HMJ.out.2.1)
                            have h4 := HB12.out
                            rw [← HMJ.out.2.2.1, ← HMJ.out.2.2.2] at h4
                            rw [show (fpR rj).1 == (fpR ri).1 && (fpR rj).2 != (fpR ri).2 from h4] at h3
                            cases h3)
                          obtain ⟨tq, tof, tat, eT, ct, htq⟩ := HR.out.at_ rfl (by omega : k < rn)
                          subst eT
                          have ct2 : (wr.drewN (nq + 1)).cell? ⟨tq, tof + k, none⟩ = some (.int .i64 tat) := HG3.out.cell ct nofun
                          have hb4 : (wr.drewN (nq + 1)).heap[w.heap.size]? = _ := grownBy_heap HG3.out HBO.out nofun
                          have hg4 : w.grownBy (wr.drewN (nq + 1)) none := grownBy_trans HGO.out (grownBy_drewN HG3.out (nq + 1)) nofun
                          have gz0 := frozen_of_heap hb4 0
                          have fz0 := cell_of_heap hb4 0
                          have gz1 := frozen_of_heap hb4 1
                          have fz1 := cell_of_heap hb4 1
                          have hset := set_two hb4 (.slice none 0 0) (.slice none 0 0)
                          have hgr := grown_set2 hg4 w.heap.size (.inr (Nat.le_refl _)) (.slice none 0 0) (.slice none 0 0)
                          have hqn : tq ≠ w.heap.size := by have := HG1.out.size; omega
                          have hcs := (grown_set2 (grownBy_refl (wr.drewN (nq + 1)) (some w.heap.size)) w.heap.size (.inl rfl) (.slice none 0 0) (.slice none 0 0)).cell ct2 (fun e => hqn (by cases e; rfl))
                          have HSET2 := Lib.hid hset
                          have HGR2 := Lib.hid hgr
                          have HCS := Lib.hid hcs
                          have CT2 := Lib.hid ct2
                          clear hset hgr hcs hb4 hg4
                          go_upto_region 30 with (fail)
                          refine region_hw (fun u => u.cell? ⟨tq, tof + k, none⟩ = some (.int .i64 tat)) (by kernel_rfl) CT2.out (fun hHeld => ?_)
                          refine hw_take 0 (v := ?_) rfl (by kernel_rfl) (by kernel_rfl) (by kernel_rfl) (fun _ _ _ h => h) (by rfl) (fun u hu => ?_) (by assumption) ?_
                          rotate_left
                          focus ((try dsimp only at hu); go_simp; (try with_reducible rfl); done)
                          try simp only [Act.put]
                          refine hw_take 1 (v := ?_) rfl (by kernel_rfl) (by kernel_rfl) (by kernel_rfl) (fun _ _ _ h => h) (by rfl) (fun u hu => ?_) (by assumption) ?_
                          rotate_left
                          focus ((try dsimp only at hu); go_simp; (try with_reducible rfl); done)
                          try simp only [Act.put]
                          refine hw_take 2 (v := ?_) rfl (by kernel_rfl) (by kernel_rfl) (by kernel_rfl) (fun _ _ _ h => h) (by rfl) (fun u hu => ?_) (by assumption) ?_
                          rotate_left
                          focus ((try dsimp only at hu); go_simp; (try with_reducible rfl); done)
                          try simp only [Act.put]
                          refine hw_take 3 (v := ?_) rfl (by kernel_rfl) (by kernel_rfl) (by kernel_rfl) (fun _ _ _ h => h) (by rfl) (fun u hu => ?_) (by assumption) ?_
                          rotate_left
                          focus ((try dsimp only at hu); go_simp; (try with_reducible rfl); done)
                          try simp only [Act.put]
                          refine hw_take 4 (v := ?_) rfl (by kernel_rfl) (by kernel_rfl) (by kernel_rfl) (fun _ _ _ h => h) (by rfl) (fun u hu => ?_) (by assumption) ?_
                          rotate_left
                          focus ((try dsimp only at hu); go_simp; (try with_reducible rfl); done)
                          try simp only [Act.put]
                          refine hw_one 5 (by kernel_rfl) rfl (fun K hK => ?_)
                          go_simp
                          refine hK.out _ _ (by exact HCS.out) (fun hHeld4 => ?_)
                          clear hK K
                          try simp only [Act.put]
                          refine hw_one 6 (by kernel_rfl) rfl (fun K hK => ?_)
                          go_simp
                          refine hK.out _ _ (by exact HCS.out) (fun hHeld5 => ?_)
                          clear hK K
                          try simp only [Act.put]
                          refine hw_one 7 (by kernel_rfl) rfl (fun K hK => ?_)
                          go_simp
                          refine hK.out _ _ (by exact HCS.out) (fun hHeld6 => ?_)
                          clear hK K
                          try simp only [Act.put]
                          refine hw_done (by kernel_rfl) ?_
                          go_wp2_with fail
                          refine bodyPost_ret (results_cell_tmp2 rfl rfl (load_affixes HSET2.out) rfl rfl) rfl ?_
                          exact P11Res.nothing HGR2.out HNO.out rfl
                        | false =>
                          go_wp2_with fail
                          go_roundw
                          case rel => exact ⟨j + 1, by omega, by go_num, grownBy_drewN HG3.out nq⟩
                          case measure => simp [RowKit.intOf]; omega
                    · have ej : j = k := by omega
                      subst ej
                      have hjl : ¬ (j : Int) < (j : Int) := by omega
                      go_wp2_with fail
                      go_roundw
                      case rel => exact ⟨j + 1, by omega, by go_num, HG3.out⟩
                      case measure => simp [RowKit.intOf]; omega
                · have ek : k = rn := by omega
                  subst ek
                  have hkl2 : ¬ (k : Int) < (k : Int) := by omega
                  have hb4 := grownBy_heap HG2.out HBO.out nofun
                  have hg4 := grownBy_trans HGO.out HG2.out nofun
                  have gz0 := frozen_of_heap hb4 0
                  have fz0 := cell_of_heap hb4 0
                  have gz1 := frozen_of_heap hb4 1
                  have fz1 := cell_of_heap hb4 1
                  have hset := set_two hb4 (.slice RA k rk) (.slice PA pn pk)
                  have hgr := grown_set2 hg4 w.heap.size (.inr (Nat.le_refl _)) (.slice RA k rk) (.slice PA pn pk)
                  have hg5 := grown_set2 (grownBy_refl wr (some w.heap.size)) w.heap.size (.inl rfl) (.slice RA k rk) (.slice PA pn pk)
                  have hrs := (HR.out.grow HG2.out (.inl rfl)).rusB rfl hg5 HG1.out.size
                  obtain ⟨A', c', e, hkc⟩ := own_slice2 HR.out.rown
                  cases e
                  have HSET2 := Lib.hid hset
                  have HGR2 := Lib.hid hgr
                  have HRS := Lib.hid hrs
                  clear hset hgr hrs hb4 hg4 hg5
                  go_wp2_with fail
                  refine bodyPost_ret (results_cell_tmp2 rfl rfl (load_affixes HSET2.out) rfl rfl) rfl ?_
                  exact ⟨HGR2.out, RA, PA, k, rk, pn, pk, rs, 0, 0, rfl, HR.out.rlen, by have := HK.out; omega, hkc, HRS.out, fun _ r h0 _ => by rw [HGG.out] at h0; rw [(HDN.out r h0).2]; show _ = (rs.map fpR).length; rw [List.length_map, HR.out.rlen]⟩
end Go.Proofs.YtlbbjcggjmaehaaDoor
