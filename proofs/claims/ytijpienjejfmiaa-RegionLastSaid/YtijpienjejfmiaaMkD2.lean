/-
  Marks' Edit: the state between its steps. No conditions beyond those that each lemma names.
-/
import Derived.Test.YtijpienjejfmiaaMkD1
namespace Go.Proofs.Ytijpienjejfmiaa
open Go Go.RowKit

/-- Between two steps: Marks' spans, a row of spans of the call's own. -/
def EdAt (mb tb0 tb1 : Nat) (B : List Nat) (L0 L1 : List Sp) (v : Value) (X : List Sp) (w wk : World) : Prop :=
  ∃ B', MkT wk mb tb0 tb1 B' L0 L1 ∧ (∀ x ∈ B', x ∈ B ∨ w.heap.size ≤ x) ∧ Only B w wk ∧ Spans wk w.heap.size v X ∧ ∀ k, v.ownBlock = some k → k ∉ B'

variable {mb tb0 tb1 : Nat} {B : List Nat} {L0 L1 X : List Sp} {v : Value} {w wk w' : World}

theorem MkT.lt {w : World} {mb tb0 tb1 : Nat} {B : List Nat} {L0 L1 : List Sp} (h : MkT w mb tb0 tb1 B L0 L1) : ∀ x ∈ B, x < w.heap.size := h.mk.lt

theorem MkT.cells {w : World} {mb tb0 tb1 : Nat} {B : List Nat} {L0 L1 : List Sp} (h : MkT w mb tb0 tb1 B L0 L1) : ∃ st, w.heap[mb]? = some (.cells #[.pointer (some ⟨tb0, 0, none⟩), .pointer (some ⟨tb1, 0, none⟩), .int .i64 st] 55 (0, 0)) := by
  obtain ⟨T0, T1, st, h1, _⟩ := h
  exact ⟨st, h1.m⟩

theorem MkT.steps {w : World} {mb tb0 tb1 : Nat} {B : List Nat} {L0 L1 : List Sp} (h : MkT w mb tb0 tb1 B L0 L1) (st : Int) : MkT (w.setCell ⟨mb, 2, none⟩ (.int .i64 st)) mb tb0 tb1 B L0 L1 := by
  obtain ⟨T0, T1, st0, h1, h2, h3, h4⟩ := h
  have ho := (Only.refl [mb] w).setCell (p := ⟨mb, 2, none⟩) (.inl (by simp)) (.int .i64 st)
  have hn : ∀ x, x ≠ mb → x ∉ [mb] := fun x h hm => h (List.mem_singleton.1 hm)
  exact ⟨T0, T1, st, ⟨heap_setCell h1.m 2 _, ho.heap h1.t0 (hn _ (fun e => h1.ap.a0 e.symm)), ho.heap h1.t1 (hn _ (fun e => h1.ap.a1 e.symm)), h1.l0.only ho (fun x hx => hn x (fun e => h1.ap.m0 (e ▸ hx))), h1.l1.only ho (fun x hx => hn x (fun e => h1.ap.m1 (e ▸ hx))), h1.g0, h1.g1, h1.ap⟩, h2, h3, h4⟩

theorem MkT.mem {w : World} {mb tb0 tb1 : Nat} {B : List Nat} {L0 L1 : List Sp} (h : MkT w mb tb0 tb1 B L0 L1) : mb ∈ B := h.mk.mem

theorem EdAt.start (h : MkT w mb tb0 tb1 B L0 L1) (st : Int) : EdAt mb tb0 tb1 B L0 L1 (.slice none 0 0) [] w (w.setCell ⟨mb, 2, none⟩ (.int .i64 st)) :=
  ⟨B, h.steps st, fun x hx => .inl hx, (Only.refl B w).setCell (p := ⟨mb, 2, none⟩) (.inl h.mem) _, World.ownsRow_nil _ _ _ _, by simp [Value.ownBlock]⟩

theorem EdAt.cells (h : EdAt mb tb0 tb1 B L0 L1 v X w wk) : ∃ st, wk.heap[mb]? = some (.cells #[.pointer (some ⟨tb0, 0, none⟩), .pointer (some ⟨tb1, 0, none⟩), .int .i64 st] 55 (0, 0)) := by
  obtain ⟨B', h1, _⟩ := h
  exact h1.cells

theorem EdAt.kept (h : EdAt mb tb0 tb1 B L0 L1 v X w wk) (g : wk.grownBy w' none) : EdAt mb tb0 tb1 B L0 L1 v X w w' := by
  obtain ⟨B', h1, h2, h3, h4, h5⟩ := h
  have ho : Only [] wk w' := Only.ofGrown g
  exact ⟨B', h1.only ho (by simp), h2, h3.trans ho (by simp), own_only h4 ho (by simp), h5⟩

theorem EdAt.res (h : EdAt mb tb0 tb1 B L0 L1 v X w wk) : MkRes mb B L0 L1 w wk := by
  obtain ⟨B', h1, h2, h3, h4, h5⟩ := h
  exact ⟨⟨B', h1.mk, h2⟩, h3⟩

theorem EdAt.over (h : EdAt mb tb0 tb1 B L0 L1 v X w wk) (i : Bool) (f g : Int) (hg : 0 ≤ g) : ∃ rv, wk.heap[two i tb0 tb1]? = some (.cells #[rv, .pointer (some ⟨mb, 2, none⟩)] 59 (0, 0)) ∧
    Calls Try.prog 46 #[.pointer (some ⟨two i tb0 tb1, 0, none⟩), rv, .int .i64 f, .int .i64 g] wk fun e w' => ∃ v', e = .returned v' ∧ EdAt mb tb0 tb1 B L0 L1 v' (overS f g (two i L0 L1)) w w' := by
  obtain ⟨B', h1, h2, h3, h4, h5⟩ := h
  have hlt := h1.lt
  obtain ⟨rv, hrv, hc⟩ := overT h1 i f g hg
  refine ⟨rv, hrv, hc.mono ?_⟩
  rintro e w' ⟨v', rfl, q1, q2, q3⟩
  exact ⟨v', rfl, B', q2, h2, h3.trans q3 h2, ownsRow_base q1 h3.size, fun k hk hm => by have := (q1.lt k hk).1; have := hlt k hm; omega⟩

theorem EdAt.less (h : EdAt mb tb0 tb1 B L0 L1 v X w wk) (i : Bool) (hi : ∀ s ∈ X, s.k % 2 = if i then 1 else 0) (hX : X.length ≤ 1099511627776) :
    Calls Try.prog 45 #[.pointer (some ⟨mb, 0, none⟩), v] wk fun e w' => e = .returned (.tuple #[]) ∧ EdAt mb tb0 tb1 B (two i (remL X L0) L0) (two i L1 (remL X L1)) v X w w' := by
  obtain ⟨B', h1, h2, h3, h4, h5⟩ := h
  obtain ⟨A, c, rfl, hs⟩ := own_slice h4
  refine (less_walk X A c i hi hX wk h1 hs (fun hn a ha => by subst ha; exact h5 a.block rfl)).mono ?_
  rintro e w' ⟨rfl, ⟨B2, q1, q2⟩, q3⟩
  have hlt : ∀ k, (Value.slice A X.length c).ownBlock = some k → k < wk.heap.size := fun k hk => (h4.lt k hk).2
  refine ⟨rfl, B2, q1, fun x hx => ?_, h3.trans q3 h2, own_only h4 q3 h5, fun k hk hm => ?_⟩
  · rcases q2 x hx with h | h
    · exact h2 x h
    · exact .inr (Nat.le_trans h3.size h)
  · rcases q2 k hm with h | h
    · exact h5 k hk h
    · have := hlt k hk; omega

theorem EdAt.tail (h : EdAt mb tb0 tb1 B L0 L1 v X w wk) (i : Bool) (f d : Int) (hd : -2199023255552 ≤ d ∧ d ≤ 2199023255552) (hto : Ord (tailS f d (two i L0 L1))) (htp : ∀ x ∈ tailS f d (two i L0 L1), In x) : ∃ rv, wk.heap[two i tb0 tb1]? = some (.cells #[rv, .pointer (some ⟨mb, 2, none⟩)] 59 (0, 0)) ∧
    Calls Try.prog 47 #[.pointer (some ⟨two i tb0 tb1, 0, none⟩), rv, .int .i64 f, .int .i64 d] wk fun e w' => e = .returned (.tuple #[]) ∧ EdAt mb tb0 tb1 B (two i (tailS f d L0) L0) (two i L1 (tailS f d L1)) v X w w' := by
  obtain ⟨B', h1, h2, h3, h4, h5⟩ := h
  obtain ⟨rv, hrv, hc⟩ := tailT h1 i f d hd hto htp
  refine ⟨rv, hrv, hc.mono ?_⟩
  rintro e w' ⟨rfl, q1, q2⟩
  exact ⟨rfl, B', q1, h2, h3.trans q2 h2, own_only h4 q2 h5, h5⟩

theorem EdAt.put (h : EdAt mb tb0 tb1 B L0 L1 v X w wk) (s : Sp) (hs : In s) (i : Bool) (hi : s.k % 2 = if i then 1 else 0) (hf : (two i L0 L1).length < 1099511627776) :
    Calls Try.prog 31 #[.pointer (some ⟨mb, 0, none⟩), spanV s] wk fun e w' => (∃ b, e = .returned (.bool b)) ∧ EdAt mb tb0 tb1 B (two i (insS s L0) L0) (two i L1 (insS s L1)) v X w w' := by
  obtain ⟨B', h1, h2, h3, h4, h5⟩ := h
  refine (mput_walkT s i hi wk h1 hs hf).mono ?_
  rintro e w' ⟨rfl, ⟨B2, q1, q2⟩, q3⟩
  have hlt : ∀ k, v.ownBlock = some k → k < wk.heap.size := fun k hk => (h4.lt k hk).2
  refine ⟨⟨_, rfl⟩, B2, q1, fun x hx => ?_, h3.trans q3 h2, own_only h4 q3 h5, fun k hk hm => ?_⟩
  · rcases q2 x hx with h | h
    · exact h2 x h
    · exact .inr (Nat.le_trans h3.size h)
  · rcases q2 k hm with h | h
    · exact h5 k hk h
    · have := hlt k hk; omega
theorem EdAt.over0 (h : EdAt mb tb0 tb1 B L0 L1 v X w wk) (f g : Int) (hg : 0 ≤ g) : ∃ rv, wk.heap[tb0]? = some (.cells #[rv, .pointer (some ⟨mb, 2, none⟩)] 59 (0, 0)) ∧
    Calls Try.prog 46 #[.pointer (some ⟨tb0, 0, none⟩), rv, .int .i64 f, .int .i64 g] wk fun e w' => ∃ v', e = .returned v' ∧ EdAt mb tb0 tb1 B L0 L1 v' (overS f g L0) w w' := h.over false f g hg
theorem EdAt.over1 (h : EdAt mb tb0 tb1 B L0 L1 v X w wk) (f g : Int) (hg : 0 ≤ g) : ∃ rv, wk.heap[tb1]? = some (.cells #[rv, .pointer (some ⟨mb, 2, none⟩)] 59 (0, 0)) ∧
    Calls Try.prog 46 #[.pointer (some ⟨tb1, 0, none⟩), rv, .int .i64 f, .int .i64 g] wk fun e w' => ∃ v', e = .returned v' ∧ EdAt mb tb0 tb1 B L0 L1 v' (overS f g L1) w w' := h.over true f g hg

theorem EdAt.less0 (h : EdAt mb tb0 tb1 B L0 L1 v X w wk) (hi : ∀ s ∈ X, s.k % 2 = 0) (hX : X.length ≤ 1099511627776) :
    Calls Try.prog 45 #[.pointer (some ⟨mb, 0, none⟩), v] wk fun e w' => e = .returned (.tuple #[]) ∧ EdAt mb tb0 tb1 B (remL X L0) L1 v X w w' := h.less false hi hX
theorem EdAt.less1 (h : EdAt mb tb0 tb1 B L0 L1 v X w wk) (hi : ∀ s ∈ X, s.k % 2 = 1) (hX : X.length ≤ 1099511627776) :
    Calls Try.prog 45 #[.pointer (some ⟨mb, 0, none⟩), v] wk fun e w' => e = .returned (.tuple #[]) ∧ EdAt mb tb0 tb1 B L0 (remL X L1) v X w w' := h.less true hi hX

theorem EdAt.tail0 (h : EdAt mb tb0 tb1 B L0 L1 v X w wk) (f d : Int) (hd : -2199023255552 ≤ d ∧ d ≤ 2199023255552) (hto : Ord (tailS f d L0)) (htp : ∀ x ∈ tailS f d L0, In x) : ∃ rv, wk.heap[tb0]? = some (.cells #[rv, .pointer (some ⟨mb, 2, none⟩)] 59 (0, 0)) ∧
    Calls Try.prog 47 #[.pointer (some ⟨tb0, 0, none⟩), rv, .int .i64 f, .int .i64 d] wk fun e w' => e = .returned (.tuple #[]) ∧ EdAt mb tb0 tb1 B (tailS f d L0) L1 v X w w' := h.tail false f d hd hto htp
theorem EdAt.tail1 (h : EdAt mb tb0 tb1 B L0 L1 v X w wk) (f d : Int) (hd : -2199023255552 ≤ d ∧ d ≤ 2199023255552) (hto : Ord (tailS f d L1)) (htp : ∀ x ∈ tailS f d L1, In x) : ∃ rv, wk.heap[tb1]? = some (.cells #[rv, .pointer (some ⟨mb, 2, none⟩)] 59 (0, 0)) ∧
    Calls Try.prog 47 #[.pointer (some ⟨tb1, 0, none⟩), rv, .int .i64 f, .int .i64 d] wk fun e w' => e = .returned (.tuple #[]) ∧ EdAt mb tb0 tb1 B L0 (tailS f d L1) v X w w' := h.tail true f d hd hto htp

theorem EdAt.put0 (h : EdAt mb tb0 tb1 B L0 L1 v X w wk) (s : Sp) (hs : In s) (hi : s.k % 2 = 0) (hf : L0.length < 1099511627776) :
    Calls Try.prog 31 #[.pointer (some ⟨mb, 0, none⟩), spanV s] wk fun e w' => (∃ b, e = .returned (.bool b)) ∧ EdAt mb tb0 tb1 B (insS s L0) L1 v X w w' := h.put s hs false hi hf
end Go.Proofs.Ytijpienjejfmiaa
