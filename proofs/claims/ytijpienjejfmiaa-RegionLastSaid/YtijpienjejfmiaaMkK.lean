/-
  Marks' look: one more is looked at: the walk. No conditions beyond those that the law names.
-/
import Derived.Test.YtijpienjejfmiaaMkL
namespace Go.Proofs.Ytijpienjejfmiaa
open Go Go.RowKit

section
variable {P : Program} {ol : List Oper} {Q : Exit → Act → World → Prop}

/-- What yields in whatever world, behind the first store. -/
theorem aw_free (i : Nat) {oi : Oper} {v : Value} {f : Nat} {l : Array Bool} {a : Act} {w : World} (hi : ol[i]? = some oi) (hs : Region.noSelect ol.toArray = true)
    (hf : Region.free .any ol.toArray l i = true) (hr : (Region.ready .any ol.toArray l).contains i = true)
    (hQ : ∀ c a w, Q (.panic c) (a.put oi.dst v) w → Q (.panic c) a w) (hw : Region.wanted oi (yielded ol.toArray a.tmps) = true) (hy : ∀ u, (execOp a.eval oi).run P u = .ok (.value v) u)
    (h : AW P ol Q f (l.setIfInBounds i true) (a.put oi.dst v) w) : AW P ol Q (f + 1) l a w :=
  ⟨wpAny_first (by rw [List.getElem?_toArray]; exact hi) (Region.noSelect_spec hs) hQ f l a w (Region.free_spec (by rw [List.getElem?_toArray]; exact hi) hf) (by simpa using hr) (.inl ⟨hw, hy⟩) h.out⟩
end

/-- A tree's own block, the count of its Marks. -/
structure TrAt (w : World) (tb mb : Nat) (rv p0 p1 : Value) (st : Int) : Prop where
  t : w.heap[tb]? = some (.cells #[rv, .pointer (some ⟨mb, 2, none⟩)] 59 (0, 0))
  m : w.heap[mb]? = some (.cells #[p0, p1, .int .i64 st] 55 (0, 0))
  ne : tb ≠ mb

theorem TrAt.only {w w' : World} {B : List Nat} {tb mb : Nat} {rv p0 p1 : Value} {st : Int} (h : TrAt w tb mb rv p0 p1 st) (g : Only B w w') (h1 : tb ∉ B) (h2 : mb ∉ B) : TrAt w' tb mb rv p0 p1 st :=
  ⟨g.heap h.t h1, g.heap h.m h2, h.ne⟩

/-- A node's own block. -/
def NodeA (b : Nat) (l r : Tr) (s : Sp) (h c m wt : Int) (u : World) : Prop :=
  u.heap[b]? = some (.cells #[.int .i64 s.a, .int .i64 s.b, .int .i64 s.k, ptrV l, ptrV r, .int .i64 h, .int .i64 c, .int .i64 m, .int .i64 wt] 71 (0, 0))

set_option maxRecDepth 100000 in
set_option maxHeartbeats 1000000 in
theorem look_walk {b : Nat} {l r : Tr} {s : Sp} {hh c m wt : Int} {tb mb : Nat} {rv p0 p1 : Value} {st : Int} (w : World) (hg : Good (.node b l r s hh c m wt)) (h : Lay w (.node b l r s hh c m wt)) (hn : (blks (.node b l r s hh c m wt)).Nodup) (ht : TrAt w tb mb rv p0 p1 st) (htb : tb ∉ blks (.node b l r s hh c m wt)) (hmb : mb ∉ blks (.node b l r s hh c m wt)) :
    Calls Try.prog 56 #[.pointer (some ⟨tb, 0, none⟩), .pointer (some ⟨b, 0, none⟩)] w fun e w' => e = .returned (.tuple #[]) ∧ Lay w' (downT (.node b l r s hh c m wt)) ∧ (∃ st', TrAt w' tb mb rv p0 p1 st') ∧ Only (mb :: blks (.node b l r s hh c m wt)) w w' := by
  have t1 := cell_of_heap ht.t 1
  have m2 := cell_of_heap ht.m 2
  have f2 := frozen_of_heap ht.m 2
  have ho1 := (Only.refl [mb] w).setCell (p := ⟨mb, 2, none⟩) (.inl (by simp)) (.int .i64 (wrap64 (st + 1)))
  have hl1 := h.only ho1 (fun x hx hm => hmb (List.mem_singleton.1 hm ▸ hx))
  have ht1 : TrAt (w.setCell ⟨mb, 2, none⟩ (.int .i64 (wrap64 (st + 1)))) tb mb rv p0 p1 (wrap64 (st + 1)) := ⟨ho1.heap ht.t (fun hm => ht.ne (List.mem_singleton.1 hm)), heap_setCell ht.m 2 _, ht.ne⟩
  have HL := Lib.hid hl1
  have HT := Lib.hid ht1
  have HO := Lib.hid ho1
  have HT0 := Lib.hid ht
  clear ht h hl1 ht1 ho1
  go_enter Try.func56, Try.ntmps56
  go_wp2_with fail
  refine (down0_walk _ hg HL.out hn).mono ?_
  rintro e w1 ⟨rfl, h1, ho⟩
  have H1 := Lib.hid h1
  have HO1 := Lib.hid ho
  clear h1 ho
  go_wp2_with fail
  go_end0
  exact ⟨rfl, H1.out, ⟨_, HT.out.only HO1.out htb hmb⟩, (HO.out.mono (fun x hx => .inl (by rw [List.mem_singleton.1 hx]; simp))).trans HO1.out (fun x hx => .inl (List.mem_cons_of_mem _ hx))⟩
end Go.Proofs.Ytijpienjejfmiaa
